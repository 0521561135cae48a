/-
  Sort, part E: turning a range about, breaking patterns, at numbers of sixteen bits. Sort, part F: parting a range, at numbers of sixteen bits.
-/
import Derived.Test.YtndohkbppgmbjaaGreatCD
namespace Go.AX
open Go Go.Proofs
structure SDJ where
 k : Nat
 j : Nat
 d : Array T16
 c : Nat
def revG : List AV → List AV → Option (AV × List AV)
 | [.os _ 0 n 1 _, .i a, .i b], xs => aK (unA xs) fun l => aN (l.length = n ∧ 0 ≤ a ∧ a < b ∧ b ≤ n ∧ n ≤ 1000000) (some (.tup [], cA (Sort.reverseRange l.toArray a.toNat b.toNat)))
 | _, _ => none
theorem revG_eq (id n : Nat) (gg : Bool) (a b : Int) (xs : List AV) : revG [.os id 0 n 1 gg, .i a, .i b] xs = aK (unA xs) fun l => aN (l.length = n ∧ 0 ≤ a ∧ a < b ∧ b ≤ n ∧ n ≤ 1000000) (some (.tup [], cA (Sort.reverseRange l.toArray a.toNat b.toNat))) := (rfl)
attribute [go_sem] revG_eq
set_option maxHeartbeats 2000000 in
theorem rev_ok : cQ Tryz.prog GLh 92 (dP revG) := by
 refine dN Tryz.func92 (aT rfl) ?_
 intro id off n e gg rest nx xs r ys hg
 unfold revG at hg
 split at hg
 ·rename_i id2 n2 gg2 a0 b0 heq
  simp only [List.cons.injEq, AV.os.injEq] at heq
  obtain ⟨⟨rfl, rfl, rfl, rfl, rfl⟩, rfl⟩ := heq
  replace hg := aJ hg; obtain ⟨l, hl, hg⟩ := hg
  replace hg := aP hg; obtain ⟨⟨hn, ha, hab, hbn, hbig⟩, hg⟩ := hg
  simp only [Option.some.injEq, Prod.mk.injEq] at hg; obtain ⟨rfl, rfl⟩ := hg
  have := dO hl; subst this
  obtain ⟨a, rfl⟩ := Int.eq_ofNat_of_zero_le ha
  obtain ⟨b, rfl⟩ := Int.eq_ofNat_of_zero_le (show 0 ≤ b0 by omega)
  simp only [Int.toNat_natCast] at *
  obtain ⟨d, hd⟩ : ∃ d, l.toArray = d := ⟨_, rfl⟩
  have hds : d.size = n := by rw [← hd]; simpa using hn
  have hab2 : a < b := by omega
  have hbn2 : b ≤ n := by omega
  rw [hd]
  refine ⟨Nat.le_of_ble_eq_true rfl, fun hid => ?_⟩
  clear hl hn ha hab hbn
  obtain ⟨R, hR⟩ : ∃ R, Sort.reverseRange d a b = R := ⟨_, rfl⟩
  have hR0 : Sort.reverseLoop a (b - 1) d = R := hR
  rw [hR]
  clear hR
  have eb : (b : Int) - 1 = ((b - 1 : Nat) : Int) := by omega
  refine aA rfl ?_
  refine aC (Γ := aL) [0, 2, 6] (aD _ _) rfl rfl rfl (fun K hK => ?_)
  simp (disch := omega) only [Tryz.f92, go_sem, Nat.reduceAdd, ↓reduceIte]
  refine hK _ ?_
  refine aB ?_
  refine aA rfl ?_
  refine aC (Γ := aL) [0, 6, 7] (aD _ _) rfl rfl rfl (fun K hK => ?_)
  simp (disch := omega) only [Tryz.f92, go_sem, Nat.reduceAdd, ↓reduceIte, eb]
  refine hK _ ?_
  refine aB ?_
  refine aR 0 rfl rfl ?_
  refine bR (fun p : SDJ => { fr := [(0, .os id 0 n 1 gg), (6, .i p.k), (7, .i p.j)], hp := upd (fun _ => none) id (.cells (cA p.d) true), nx := 0, cx := p.c }) (fun p => Sort.reverseLoop p.k p.j p.d = R ∧ p.d.size = n ∧ p.j < n ∧ id < p.c) (fun p => p.j - p.k) rfl ⟨⟨a, b - 1, d, _⟩, ⟨hR0, hds, by simp only; omega, by simp only; omega⟩, bD rfl rfl (Nat.le_refl _)⟩ ?_
  rintro ⟨k, j, d1, c⟩ ⟨hr1, hs1, hj, hc⟩ n0
  simp only at hr1 hs1 hj hc ⊢
  refine aA rfl ?_
  refine aA rfl ?_
  refine aC (Γ := aL) [13, 0, 6, 7] (aD _ _) rfl rfl rfl (fun K hK => ?_)
  simp (disch := omega) only [Tryz.f92, go_sem, Nat.reduceAdd, ↓reduceIte]
  refine hK _ ?_
  refine aB ?_
  refine aW (.tmp 13) rfl rfl rfl (fun h => ?_) (fun h => ?_)
  ·skip
   refine aI rfl ?_
   have hkj : k < j := by omega
   rw [Sort.reverseLoop, if_pos hkj] at hr1
   have hkn : k < n := by omega
   have hsw : (d1.setIfInBounds k d1[j]!).setIfInBounds j d1[k]! = Sort.swp d1 k j := rfl
   have ej : (j : Int) - 1 = ((j - 1 : Nat) : Int) := by omega
   refine aQ rfl ?_
   refine aB ?_
   refine aR 1 rfl rfl ?_
   refine aA rfl ?_
   refine bB (Γ := aL) (fun _ => 2) [0, 6, 7] bZ (aD _ _) rfl rfl rfl (by kernel_rfl) (fun K hK => ?_)
   simp (disch := omega) only [Tryz.f92, go_sem, Nat.reduceAdd, ↓reduceIte, hsw, Int.toNat_natCast]
   refine hK _ ?_
   refine aB ?_
   refine aA rfl ?_
   refine aC (Γ := aL) [0, 6, 7] (aD _ _) rfl rfl rfl (fun K hK => ?_)
   simp (disch := omega) only [Tryz.f92, go_sem, Nat.reduceAdd, ↓reduceIte]
   refine hK _ ?_
   refine aB ?_
   refine aC (Γ := aL) [0, 6, 7] (aD _ _) rfl rfl rfl (fun K hK => ?_)
   simp (disch := omega) only [Tryz.f92, go_sem, Nat.reduceAdd, ↓reduceIte, ej]
   refine hK _ ?_
   refine bU (bT ?_)
   refine ⟨⟨k + 1, j - 1, Sort.swp d1 k j, _⟩, ⟨hr1, by simp only [cW]; exact hs1, by simp only; omega, by simp only; omega⟩, by simp only; omega, ⟨fun _ => .inr (by simp only [Int.natCast_add, Int.natCast_one]), bS (by simp (disch := omega) only [aV, ↓reduceIte, eq_self]) cB, Nat.le_refl _⟩⟩
  ·skip
   refine aI rfl ?_
   refine bF 0 rfl rfl ?_
   refine aY (aZ (bE ?_))
   have hkj : ¬ k < j := by omega
   rw [Sort.reverseLoop, if_neg hkj] at hr1
   subst hr1
   exact ⟨rfl, by simp only [aV, if_true], rfl, dZ _⟩
 ·cases hg
theorem ok97 : bX Tryz.prog GLh 92 (.heap (dP revG)) := ⟨⟨_, Tryz.func92, rfl, rfl⟩, rev_ok⟩
def one64 : List AV → Option (BitVec 64)
 | [.w64 s] => some s
 | _ => none
theorem one64_eq (s : BitVec 64) : one64 [.w64 s] = some s := (rfl)
theorem one64_inv {xs : List AV} {s : BitVec 64} (h : one64 xs = some s) : xs = [.w64 s] := by
 unfold one64 at h
 split at h
 ·obtain rfl := Option.some.inj h; rfl
 ·cases h
def xs64 (x : BitVec 64) : BitVec 64 := (Sort.xorNext (.ofBitVec x)).toBitVec
theorem xs64_eq (x : BitVec 64) : xs64 x = (let r := x ^^^ (x <<< 13); let r := r ^^^ (r >>> 7); r ^^^ (r <<< 17)) := (rfl)
def nxtH : List AV → H → Nat → Option (AV × H × Nat)
 | [.op q 0], hp, nx => aK (hp q) fun o2 => aK (rowO o2) fun ys => aK (one64 ys) fun s => some (.w64 (xs64 s), upd hp q (.cells [.w64 (xs64 s)] true), nx + 60)
 | _, _, _ => none
theorem nxtH_eq (q : Nat) (hp : H) (nx : Nat) : nxtH [.op q 0] hp nx = aK (hp q) fun o2 => aK (rowO o2) fun ys => aK (one64 ys) fun s => some (.w64 (xs64 s), upd hp q (.cells [.w64 (xs64 s)] true), nx + 60) := (rfl)
attribute [go_sem] nxtH_eq one64_eq
set_option maxHeartbeats 1000000 in
theorem nxt_ok : cQ Tryz.prog GLh 101 nxtH := by
 refine gF Tryz.func101 (aT rfl) ?_
 intro args hp nx r hp' nx' hg
 unfold nxtH at hg
 split at hg
 ·rename_i hp0 nx0 q
  replace hg := aJ hg; obtain ⟨o2, ho2, hg⟩ := hg
  replace hg := aJ hg; obtain ⟨ys, hys, hg⟩ := hg
  obtain rfl := rowO_inv hys
  replace hg := aJ hg; obtain ⟨s0, hs0, hg⟩ := hg
  obtain rfl := one64_inv hs0
  simp only [Option.some.injEq, Prod.mk.injEq] at hg; obtain ⟨rfl, rfl, rfl⟩ := hg
  refine ⟨Nat.le_of_ble_eq_true rfl, by omega, fun hnone => ?_⟩
  have hqn : q < nx := by
   apply Classical.byContradiction; intro hc; rw [hnone q (by omega)] at ho2; cases ho2
  refine aA rfl ?_
  refine aC (Γ := aL) [0] (aD _ _) rfl rfl rfl (fun K hK => ?_)
  simp (disch := omega) only [Tryz.f101, go_sem, Int.reduceLE, Int.reduceLT, BitVec.reduceOfInt, ↓reduceIte]
  refine hK _ ?_
  refine aB ?_
  refine aA rfl ?_
  refine bB (Γ := aL) (fun _ => 2) [0] bZ (aD _ _) rfl rfl rfl (by kernel_rfl) (fun K hK => ?_)
  simp (disch := omega) only [Tryz.f101, go_sem, Nat.reduceAdd, Nat.reduceLeDiff, Int.reduceLE, Int.reduceLT, BitVec.reduceOfInt, BitVec.reduceToNat, ↓reduceIte, ho2]
  refine hK _ ?_
  refine aB ?_
  refine aA rfl ?_
  refine bB (Γ := aL) (fun _ => 2) [0] bZ (aD _ _) rfl rfl rfl (by kernel_rfl) (fun K hK => ?_)
  simp (disch := omega) only [Tryz.f101, go_sem, Nat.reduceAdd, Nat.reduceLeDiff, Int.reduceLE, Int.reduceLT, BitVec.reduceOfInt, BitVec.reduceToNat, ↓reduceIte]
  refine hK _ ?_
  refine aB ?_
  refine aA rfl ?_
  refine bB (Γ := aL) (fun _ => 2) [0] bZ (aD _ _) rfl rfl rfl (by kernel_rfl) (fun K hK => ?_)
  simp (disch := omega) only [Tryz.f101, go_sem, Nat.reduceAdd, Nat.reduceLeDiff, Int.reduceLE, Int.reduceLT, BitVec.reduceOfInt, BitVec.reduceToNat, ↓reduceIte]
  refine hK _ ?_
  refine aB ?_
  refine aA rfl ?_
  refine aC (Γ := aL) [2] (aD _ _) rfl rfl rfl (fun K hK => ?_)
  simp (disch := omega) only [Tryz.f101, go_sem, Nat.reduceAdd, ↓reduceIte]
  refine hK _ ?_
  refine aB ?_
  refine aS rfl ?_
  refine ⟨rfl, hsub_up (by simp only [aV, if_true]; rfl) (fun j hj => by simp only [aV, if_neg hj]), by simp only; omega⟩
 ·cases hg
theorem ok106 : bX Tryz.prog GLh 101 (.heap nxtH) := ⟨⟨_, Tryz.func101, rfl, rfl⟩, nxt_ok⟩
def L8 : List B8 := [0#8, 1#8, 2#8, 2#8, 3#8, 3#8, 3#8, 3#8, 4#8, 4#8, 4#8, 4#8, 4#8, 4#8, 4#8, 4#8, 5#8, 5#8, 5#8, 5#8, 5#8, 5#8, 5#8, 5#8, 5#8, 5#8, 5#8, 5#8, 5#8, 5#8, 5#8, 5#8, 6#8, 6#8, 6#8, 6#8, 6#8, 6#8, 6#8, 6#8, 6#8, 6#8, 6#8, 6#8, 6#8, 6#8, 6#8, 6#8, 6#8, 6#8, 6#8, 6#8, 6#8, 6#8, 6#8, 6#8, 6#8, 6#8, 6#8, 6#8, 6#8, 6#8, 6#8, 6#8, 7#8, 7#8, 7#8, 7#8, 7#8, 7#8, 7#8, 7#8, 7#8, 7#8, 7#8, 7#8, 7#8, 7#8, 7#8, 7#8, 7#8, 7#8, 7#8, 7#8, 7#8, 7#8, 7#8, 7#8, 7#8, 7#8, 7#8, 7#8, 7#8, 7#8, 7#8, 7#8, 7#8, 7#8, 7#8, 7#8, 7#8, 7#8, 7#8, 7#8, 7#8, 7#8, 7#8, 7#8, 7#8, 7#8, 7#8, 7#8, 7#8, 7#8, 7#8, 7#8, 7#8, 7#8, 7#8, 7#8, 7#8, 7#8, 7#8, 7#8, 7#8, 7#8, 7#8, 7#8, 8#8, 8#8, 8#8, 8#8, 8#8, 8#8, 8#8, 8#8, 8#8, 8#8, 8#8, 8#8, 8#8, 8#8, 8#8, 8#8, 8#8, 8#8, 8#8, 8#8, 8#8, 8#8, 8#8, 8#8, 8#8, 8#8, 8#8, 8#8, 8#8, 8#8, 8#8, 8#8, 8#8, 8#8, 8#8, 8#8, 8#8, 8#8, 8#8, 8#8, 8#8, 8#8, 8#8, 8#8, 8#8, 8#8, 8#8, 8#8, 8#8, 8#8, 8#8, 8#8, 8#8, 8#8, 8#8, 8#8, 8#8, 8#8, 8#8, 8#8, 8#8, 8#8, 8#8, 8#8, 8#8, 8#8, 8#8, 8#8, 8#8, 8#8, 8#8, 8#8, 8#8, 8#8, 8#8, 8#8, 8#8, 8#8, 8#8, 8#8, 8#8, 8#8, 8#8, 8#8, 8#8, 8#8, 8#8, 8#8, 8#8, 8#8, 8#8, 8#8, 8#8, 8#8, 8#8, 8#8, 8#8, 8#8, 8#8, 8#8, 8#8, 8#8, 8#8, 8#8, 8#8, 8#8, 8#8, 8#8, 8#8, 8#8, 8#8, 8#8, 8#8, 8#8, 8#8, 8#8, 8#8, 8#8, 8#8, 8#8, 8#8, 8#8, 8#8, 8#8, 8#8, 8#8, 8#8, 8#8]
set_option maxRecDepth 10000 in
theorem L8_s : ofV (Value.string ⟨((([0, 1, 2, 2, 3, 3, 3, 3, 4, 4, 4, 4, 4, 4, 4, 4, 5, 5, 5, 5, 5, 5, 5, 5, 5, 5, 5, 5, 5, 5, 5, 5, 6, 6, 6, 6, 6, 6, 6, 6, 6, 6, 6, 6, 6, 6, 6, 6, 6, 6, 6, 6, 6, 6, 6, 6, 6, 6, 6, 6, 6, 6, 6, 6] : List UInt8).append [7, 7, 7, 7, 7, 7, 7, 7, 7, 7, 7, 7, 7, 7, 7, 7, 7, 7, 7, 7, 7, 7, 7, 7, 7, 7, 7, 7, 7, 7, 7, 7, 7, 7, 7, 7, 7, 7, 7, 7, 7, 7, 7, 7, 7, 7, 7, 7, 7, 7, 7, 7, 7, 7, 7, 7, 7, 7, 7, 7, 7, 7, 7, 7]).append (([8, 8, 8, 8, 8, 8, 8, 8, 8, 8, 8, 8, 8, 8, 8, 8, 8, 8, 8, 8, 8, 8, 8, 8, 8, 8, 8, 8, 8, 8, 8, 8, 8, 8, 8, 8, 8, 8, 8, 8, 8, 8, 8, 8, 8, 8, 8, 8, 8, 8, 8, 8, 8, 8, 8, 8, 8, 8, 8, 8, 8, 8, 8, 8] : List UInt8).append [8, 8, 8, 8, 8, 8, 8, 8, 8, 8, 8, 8, 8, 8, 8, 8, 8, 8, 8, 8, 8, 8, 8, 8, 8, 8, 8, 8, 8, 8, 8, 8, 8, 8, 8, 8, 8, 8, 8, 8, 8, 8, 8, 8, 8, 8, 8, 8, 8, 8, 8, 8, 8, 8, 8, 8, 8, 8, 8, 8, 8, 8, 8, 8])).toArray⟩) = .s L8 := by rfl
theorem L8_all : ∀ k, k < 256 → L8[k]? = some (BitVec.ofNat 8 (Sort.bitsLen k)) := by decide +kernel
theorem L8_at (x : BitVec 64) (h : x.toNat < 256) : L8[(x.setWidth 8).toNat]? = some (BitVec.ofNat 8 (Sort.bitsLen x.toNat)) := by
 rw [BitVec.toNat_setWidth, Nat.mod_eq_of_lt (by omega)]; exact L8_all _ h
theorem bits8 {n : Nat} (h : n < 256) : Sort.bitsLen n ≤ 8 := (Sort.bitsLen_le_iff n 8).2 h
theorem bits8n {n : Nat} (h : n < 256) : (BitVec.ofNat 8 (Sort.bitsLen n)).toNat = Sort.bitsLen n := by have := bits8 h; rw [BitVec.toNat_ofNat]; exact Nat.mod_eq_of_lt (by omega)
theorem gB (n k : Nat) (h : 2 ^ k ≤ n) : Sort.bitsLen n = k + Sort.bitsLen (n >>> k) := by
 have e1 : ∀ j, Sort.bitsLen n ≤ k + j ↔ Sort.bitsLen (n >>> k) ≤ j := fun j => by
  rw [Sort.bitsLen_le_iff, Sort.bitsLen_le_iff, Nat.shiftRight_eq_div_pow, Nat.div_lt_iff_lt_mul (Nat.two_pow_pos k), Nat.pow_add, Nat.mul_comm]
 have h1 : k < Sort.bitsLen n := Nat.lt_of_not_le fun hc => absurd ((Sort.bitsLen_le_iff n k).1 hc) (by omega)
 have h2 := (e1 (Sort.bitsLen n - k)).1 (by omega)
 have h3 := (e1 (Sort.bitsLen (n >>> k))).2 (Nat.le_refl _)
 omega
def lenG : List AV → Option AV
 | [.w64 x] => some (.i (Sort.bitsLen x.toNat))
 | _ => none
theorem lenG_eq (x : BitVec 64) : lenG [.w64 x] = some (.i (Sort.bitsLen x.toNat)) := (rfl)
attribute [go_sem] lenG_eq
set_option maxHeartbeats 1000000 in
theorem len_ok : cL Tryz.prog GLh 98 lenG := by
 refine cC Tryz.func98 (aT rfl) ?_
 intro args r hg
 unfold lenG at hg
 split at hg
 ·rename_i x
  obtain rfl := Option.some.inj hg
  refine ⟨Nat.le_of_ble_eq_true rfl, fun nx => ?_⟩
  clear hg
  refine aA rfl ?_
  refine aC (Γ := aL) [0, 2] (aD _ _) rfl rfl rfl (fun K hK => ?_)
  simp (disch := omega) only [Tryz.f98, go_sem, ↓reduceIte]
  refine hK _ ?_
  refine aB ?_
  refine aA rfl ?_
  refine aA rfl ?_
  refine aC (Γ := aL) [4, 0, 2] (aD _ _) rfl rfl rfl (fun K hK => ?_)
  simp (disch := omega) only [Tryz.f98, go_sem, Nat.reduceAdd, Int.reduceLE, Int.reduceLT, BitVec.reduceOfInt, ↓reduceIte]
  refine hK _ ?_
  refine aB ?_
  refine aW (.tmp 4) rfl rfl rfl (fun h => ?_) (fun h => ?_)
  ·skip
   refine aI rfl ?_
   have hk0 := gB (x).toNat 32 (by have := BitVec.le_def.1 h; exact this)
   rw [← BitVec.toNat_ushiftRight] at hk0
   refine aA rfl ?_
   refine aC (Γ := aL) [0] (aD _ _) rfl rfl rfl (fun K hK => ?_)
   simp (disch := omega) only [Tryz.f98, go_sem, Nat.reduceAdd, Int.reduceLE, Int.reduceLT, BitVec.reduceOfInt, BitVec.reduceToNat, ↓reduceIte]
   refine hK _ ?_
   refine aB ?_
   refine aC (Γ := aL) [0, 2] (aD _ _) rfl rfl rfl (fun K hK => ?_)
   simp (disch := omega) only [Tryz.f98, go_sem, ↓reduceIte]
   refine hK _ ?_
   refine aB ?_
   refine aA rfl ?_
   refine aA rfl ?_
   refine aC (Γ := aL) [8, 0, 2] (aD _ _) rfl rfl rfl (fun K hK => ?_)
   simp (disch := omega) only [Tryz.f98, go_sem, Nat.reduceAdd, Int.reduceLE, Int.reduceLT, BitVec.reduceOfInt, ↓reduceIte]
   refine hK _ ?_
   refine aB ?_
   refine aW (.tmp 8) rfl rfl rfl (fun h => ?_) (fun h => ?_)
   ·skip
    refine aI rfl ?_
    have hk1 := gB (x >>> 32).toNat 16 (by have := BitVec.le_def.1 h; exact this)
    rw [← BitVec.toNat_ushiftRight] at hk1
    refine aA rfl ?_
    refine aC (Γ := aL) [0, 2] (aD _ _) rfl rfl rfl (fun K hK => ?_)
    simp (disch := omega) only [Tryz.f98, go_sem, Nat.reduceAdd, Int.reduceLE, Int.reduceLT, BitVec.reduceOfInt, BitVec.reduceToNat, ↓reduceIte]
    refine hK _ ?_
    refine aB ?_
    refine aC (Γ := aL) [0, 2] (aD _ _) rfl rfl rfl (fun K hK => ?_)
    simp (disch := omega) only [Tryz.f98, go_sem, Nat.reduceAdd, Int.reduceAdd, ↓reduceIte]
    refine hK _ ?_
    refine aB ?_
    refine aA rfl ?_
    refine aA rfl ?_
    refine aC (Γ := aL) [14, 0, 2] (aD _ _) rfl rfl rfl (fun K hK => ?_)
    simp (disch := omega) only [Tryz.f98, go_sem, Nat.reduceAdd, Int.reduceLE, Int.reduceLT, BitVec.reduceOfInt, ↓reduceIte]
    refine hK _ ?_
    refine aB ?_
    refine aW (.tmp 14) rfl rfl rfl (fun h => ?_) (fun h => ?_)
    ·skip
     refine aI rfl ?_
     have hk2 := gB (x >>> 32 >>> 16).toNat 8 (by have := BitVec.le_def.1 h; exact this)
     rw [← BitVec.toNat_ushiftRight] at hk2
     refine aA rfl ?_
     refine aC (Γ := aL) [0, 2] (aD _ _) rfl rfl rfl (fun K hK => ?_)
     simp (disch := omega) only [Tryz.f98, go_sem, Nat.reduceAdd, Int.reduceLE, Int.reduceLT, BitVec.reduceOfInt, BitVec.reduceToNat, ↓reduceIte]
     refine hK _ ?_
     refine aB ?_
     refine aC (Γ := aL) [0, 2] (aD _ _) rfl rfl rfl (fun K hK => ?_)
     simp (disch := omega) only [Tryz.f98, go_sem, Nat.reduceAdd, Int.reduceAdd, ↓reduceIte]
     refine hK _ ?_
     refine aB ?_
     have hx256 : (x >>> 32 >>> 16 >>> 8).toNat < 256 := by bv_omega
     have e1 := L8_at (x >>> 32 >>> 16 >>> 8) hx256
     refine aA rfl ?_
     refine aC (Γ := aL) [2] (aD _ _) rfl rfl rfl (fun K hK => ?_)
     simp (disch := omega) only [Tryz.f98, go_sem, Nat.reduceAdd, ↓reduceIte, L8_s, e1]
     refine hK _ ?_
     refine aB ?_
     refine aS rfl ?_
     simp (disch := omega) only [cN, bV, bK, bQ, Tryz.f98, go_sem, ↓reduceIte]
     have e2 := bits8n hx256
     refine congrArg some (congrArg AV.i ?_)
     omega
    ·skip
     refine aI rfl ?_
     refine aQ rfl ?_
     refine aB ?_
     refine aA rfl ?_
     have hx256 : (x >>> 32 >>> 16).toNat < 256 := by bv_omega
     have e1 := L8_at (x >>> 32 >>> 16) hx256
     refine aC (Γ := aL) [2] (aD _ _) rfl rfl rfl (fun K hK => ?_)
     simp (disch := omega) only [Tryz.f98, go_sem, Nat.reduceAdd, ↓reduceIte, L8_s, e1]
     refine hK _ ?_
     refine aB ?_
     refine aS rfl ?_
     simp (disch := omega) only [cN, bV, bK, bQ, Tryz.f98, go_sem, ↓reduceIte]
     have e2 := bits8n hx256
     refine congrArg some (congrArg AV.i ?_)
     omega
   ·skip
    refine aI rfl ?_
    refine aQ rfl ?_
    refine aB ?_
    refine aA rfl ?_
    refine aA rfl ?_
    refine aC (Γ := aL) [14, 0, 2] (aD _ _) rfl rfl rfl (fun K hK => ?_)
    simp (disch := omega) only [Tryz.f98, go_sem, Nat.reduceAdd, Int.reduceLE, Int.reduceLT, BitVec.reduceOfInt, ↓reduceIte]
    refine hK _ ?_
    refine aB ?_
    refine aW (.tmp 14) rfl rfl rfl (fun h => ?_) (fun h => ?_)
    ·skip
     refine aI rfl ?_
     have hk2 := gB (x >>> 32).toNat 8 (by have := BitVec.le_def.1 h; exact this)
     rw [← BitVec.toNat_ushiftRight] at hk2
     refine aA rfl ?_
     refine aC (Γ := aL) [0, 2] (aD _ _) rfl rfl rfl (fun K hK => ?_)
     simp (disch := omega) only [Tryz.f98, go_sem, Nat.reduceAdd, Int.reduceLE, Int.reduceLT, BitVec.reduceOfInt, BitVec.reduceToNat, ↓reduceIte]
     refine hK _ ?_
     refine aB ?_
     refine aC (Γ := aL) [0, 2] (aD _ _) rfl rfl rfl (fun K hK => ?_)
     simp (disch := omega) only [Tryz.f98, go_sem, Nat.reduceAdd, Int.reduceAdd, ↓reduceIte]
     refine hK _ ?_
     refine aB ?_
     have hx256 : (x >>> 32 >>> 8).toNat < 256 := by bv_omega
     have e1 := L8_at (x >>> 32 >>> 8) hx256
     refine aA rfl ?_
     refine aC (Γ := aL) [2] (aD _ _) rfl rfl rfl (fun K hK => ?_)
     simp (disch := omega) only [Tryz.f98, go_sem, Nat.reduceAdd, ↓reduceIte, L8_s, e1]
     refine hK _ ?_
     refine aB ?_
     refine aS rfl ?_
     simp (disch := omega) only [cN, bV, bK, bQ, Tryz.f98, go_sem, ↓reduceIte]
     have e2 := bits8n hx256
     refine congrArg some (congrArg AV.i ?_)
     omega
    ·skip
     refine aI rfl ?_
     refine aQ rfl ?_
     refine aB ?_
     refine aA rfl ?_
     have hx256 : (x >>> 32).toNat < 256 := by bv_omega
     have e1 := L8_at (x >>> 32) hx256
     refine aC (Γ := aL) [2] (aD _ _) rfl rfl rfl (fun K hK => ?_)
     simp (disch := omega) only [Tryz.f98, go_sem, Nat.reduceAdd, ↓reduceIte, L8_s, e1]
     refine hK _ ?_
     refine aB ?_
     refine aS rfl ?_
     simp (disch := omega) only [cN, bV, bK, bQ, Tryz.f98, go_sem, ↓reduceIte]
     have e2 := bits8n hx256
     refine congrArg some (congrArg AV.i ?_)
     omega
  ·skip
   refine aI rfl ?_
   refine aQ rfl ?_
   refine aB ?_
   refine aA rfl ?_
   refine aA rfl ?_
   refine aC (Γ := aL) [8, 0, 2] (aD _ _) rfl rfl rfl (fun K hK => ?_)
   simp (disch := omega) only [Tryz.f98, go_sem, Nat.reduceAdd, Int.reduceLE, Int.reduceLT, BitVec.reduceOfInt, ↓reduceIte]
   refine hK _ ?_
   refine aB ?_
   refine aW (.tmp 8) rfl rfl rfl (fun h => ?_) (fun h => ?_)
   ·skip
    refine aI rfl ?_
    have hk1 := gB (x).toNat 16 (by have := BitVec.le_def.1 h; exact this)
    rw [← BitVec.toNat_ushiftRight] at hk1
    refine aA rfl ?_
    refine aC (Γ := aL) [0, 2] (aD _ _) rfl rfl rfl (fun K hK => ?_)
    simp (disch := omega) only [Tryz.f98, go_sem, Nat.reduceAdd, Int.reduceLE, Int.reduceLT, BitVec.reduceOfInt, BitVec.reduceToNat, ↓reduceIte]
    refine hK _ ?_
    refine aB ?_
    refine aC (Γ := aL) [0, 2] (aD _ _) rfl rfl rfl (fun K hK => ?_)
    simp (disch := omega) only [Tryz.f98, go_sem, Nat.reduceAdd, Int.reduceAdd, ↓reduceIte]
    refine hK _ ?_
    refine aB ?_
    refine aA rfl ?_
    refine aA rfl ?_
    refine aC (Γ := aL) [14, 0, 2] (aD _ _) rfl rfl rfl (fun K hK => ?_)
    simp (disch := omega) only [Tryz.f98, go_sem, Nat.reduceAdd, Int.reduceLE, Int.reduceLT, BitVec.reduceOfInt, ↓reduceIte]
    refine hK _ ?_
    refine aB ?_
    refine aW (.tmp 14) rfl rfl rfl (fun h => ?_) (fun h => ?_)
    ·skip
     refine aI rfl ?_
     have hk2 := gB (x >>> 16).toNat 8 (by have := BitVec.le_def.1 h; exact this)
     rw [← BitVec.toNat_ushiftRight] at hk2
     refine aA rfl ?_
     refine aC (Γ := aL) [0, 2] (aD _ _) rfl rfl rfl (fun K hK => ?_)
     simp (disch := omega) only [Tryz.f98, go_sem, Nat.reduceAdd, Int.reduceLE, Int.reduceLT, BitVec.reduceOfInt, BitVec.reduceToNat, ↓reduceIte]
     refine hK _ ?_
     refine aB ?_
     refine aC (Γ := aL) [0, 2] (aD _ _) rfl rfl rfl (fun K hK => ?_)
     simp (disch := omega) only [Tryz.f98, go_sem, Nat.reduceAdd, Int.reduceAdd, ↓reduceIte]
     refine hK _ ?_
     refine aB ?_
     have hx256 : (x >>> 16 >>> 8).toNat < 256 := by bv_omega
     have e1 := L8_at (x >>> 16 >>> 8) hx256
     refine aA rfl ?_
     refine aC (Γ := aL) [2] (aD _ _) rfl rfl rfl (fun K hK => ?_)
     simp (disch := omega) only [Tryz.f98, go_sem, Nat.reduceAdd, ↓reduceIte, L8_s, e1]
     refine hK _ ?_
     refine aB ?_
     refine aS rfl ?_
     simp (disch := omega) only [cN, bV, bK, bQ, Tryz.f98, go_sem, ↓reduceIte]
     have e2 := bits8n hx256
     refine congrArg some (congrArg AV.i ?_)
     omega
    ·skip
     refine aI rfl ?_
     refine aQ rfl ?_
     refine aB ?_
     refine aA rfl ?_
     have hx256 : (x >>> 16).toNat < 256 := by bv_omega
     have e1 := L8_at (x >>> 16) hx256
     refine aC (Γ := aL) [2] (aD _ _) rfl rfl rfl (fun K hK => ?_)
     simp (disch := omega) only [Tryz.f98, go_sem, Nat.reduceAdd, ↓reduceIte, L8_s, e1]
     refine hK _ ?_
     refine aB ?_
     refine aS rfl ?_
     simp (disch := omega) only [cN, bV, bK, bQ, Tryz.f98, go_sem, ↓reduceIte]
     have e2 := bits8n hx256
     refine congrArg some (congrArg AV.i ?_)
     omega
   ·skip
    refine aI rfl ?_
    refine aQ rfl ?_
    refine aB ?_
    refine aA rfl ?_
    refine aA rfl ?_
    refine aC (Γ := aL) [14, 0, 2] (aD _ _) rfl rfl rfl (fun K hK => ?_)
    simp (disch := omega) only [Tryz.f98, go_sem, Nat.reduceAdd, Int.reduceLE, Int.reduceLT, BitVec.reduceOfInt, ↓reduceIte]
    refine hK _ ?_
    refine aB ?_
    refine aW (.tmp 14) rfl rfl rfl (fun h => ?_) (fun h => ?_)
    ·skip
     refine aI rfl ?_
     have hk2 := gB (x).toNat 8 (by have := BitVec.le_def.1 h; exact this)
     rw [← BitVec.toNat_ushiftRight] at hk2
     refine aA rfl ?_
     refine aC (Γ := aL) [0, 2] (aD _ _) rfl rfl rfl (fun K hK => ?_)
     simp (disch := omega) only [Tryz.f98, go_sem, Nat.reduceAdd, Int.reduceLE, Int.reduceLT, BitVec.reduceOfInt, BitVec.reduceToNat, ↓reduceIte]
     refine hK _ ?_
     refine aB ?_
     refine aC (Γ := aL) [0, 2] (aD _ _) rfl rfl rfl (fun K hK => ?_)
     simp (disch := omega) only [Tryz.f98, go_sem, Nat.reduceAdd, Int.reduceAdd, ↓reduceIte]
     refine hK _ ?_
     refine aB ?_
     have hx256 : (x >>> 8).toNat < 256 := by bv_omega
     have e1 := L8_at (x >>> 8) hx256
     refine aA rfl ?_
     refine aC (Γ := aL) [2] (aD _ _) rfl rfl rfl (fun K hK => ?_)
     simp (disch := omega) only [Tryz.f98, go_sem, Nat.reduceAdd, ↓reduceIte, L8_s, e1]
     refine hK _ ?_
     refine aB ?_
     refine aS rfl ?_
     simp (disch := omega) only [cN, bV, bK, bQ, Tryz.f98, go_sem, ↓reduceIte]
     have e2 := bits8n hx256
     refine congrArg some (congrArg AV.i ?_)
     omega
    ·skip
     refine aI rfl ?_
     refine aQ rfl ?_
     refine aB ?_
     refine aA rfl ?_
     have hx256 : (x).toNat < 256 := by bv_omega
     have e1 := L8_at (x) hx256
     refine aC (Γ := aL) [2] (aD _ _) rfl rfl rfl (fun K hK => ?_)
     simp (disch := omega) only [Tryz.f98, go_sem, Nat.reduceAdd, ↓reduceIte, L8_s, e1]
     refine hK _ ?_
     refine aB ?_
     refine aS rfl ?_
     simp (disch := omega) only [cN, bV, bK, bQ, Tryz.f98, go_sem, ↓reduceIte]
     have e2 := bits8n hx256
     refine congrArg some (congrArg AV.i ?_)
     omega
 ·cases hg
theorem ok103 : bX Tryz.prog GLh 98 (.pure true lenG) := ⟨⟨_, Tryz.func98, rfl, rfl⟩, len_ok⟩
set_option maxHeartbeats 1000000 in
theorem blen_ok : cL Tryz.prog GLh 87 lenG := by
 refine cC Tryz.func87 (aT rfl) ?_
 intro args r hg
 unfold lenG at hg
 split at hg
 ·rename_i x
  obtain rfl := Option.some.inj hg
  refine ⟨Nat.le_of_ble_eq_true rfl, fun nx => ?_⟩
  refine aA rfl ?_
  refine aC (Γ := aL) [0] (aD _ _) rfl rfl rfl (fun K hK => ?_)
  simp (disch := omega) only [Tryz.f87, go_sem, ↓reduceIte]
  refine hK _ ?_
  refine aB ?_
  refine aA rfl ?_
  refine bA _ rfl rfl rfl (fun h => ?_) (fun h => ?_)
  ·skip
   cases h
  ·skip
   refine aQ rfl ?_
   refine aB ?_
   refine aA rfl ?_
   refine aC (Γ := bC [(98, .pure true lenG)]) [2] (aH ok103 aO) rfl rfl rfl (fun K hK => ?_)
   simp (disch := omega) only [Tryz.f87, go_sem, Nat.reduceAdd, ↓reduceIte]
   refine hK _ ?_
   refine aB ?_
   refine aS rfl ?_
   simp (disch := omega) only [cN, bV, bK, bQ, Tryz.f87, go_sem, ↓reduceIte]
 ·cases hg
theorem ok92 : bX Tryz.prog GLh 87 (.pure true lenG) := ⟨⟨_, Tryz.func87, rfl, rfl⟩, blen_ok⟩
def npG : List AV → Option AV
 | [.i n] => aN (0 ≤ n ∧ n ≤ 1000000) (some (.w64 (1#64 <<< Sort.bitsLen n.toNat)))
 | _ => none
theorem npG_eq (n : Int) : npG [.i n] = aN (0 ≤ n ∧ n ≤ 1000000) (some (.w64 (1#64 <<< Sort.bitsLen n.toNat))) := (rfl)
attribute [go_sem] npG_eq
theorem bits20 {n : Nat} (h : n ≤ 1000000) : Sort.bitsLen n ≤ 20 := (Sort.bitsLen_le_iff n 20).2 (by omega)
theorem ofI_nat {n : Nat} (h : n ≤ 1000000) : (BitVec.ofInt 64 (n : Int)).toNat = n := by
 rw [BitVec.toNat_ofInt]; omega
set_option maxHeartbeats 1000000 in
theorem np_ok : cL Tryz.prog GLh 100 npG := by
 refine cC Tryz.func100 (aT rfl) ?_
 intro args r hg
 unfold npG at hg
 split at hg
 ·rename_i n0
  replace hg := aP hg; obtain ⟨⟨hn, hbig⟩, hg⟩ := hg
  obtain rfl := Option.some.inj hg
  obtain ⟨n, rfl⟩ := Int.eq_ofNat_of_zero_le hn
  simp only [Int.toNat_natCast] at *
  have hbn : n ≤ 1000000 := by omega
  have h20 := bits20 hbn
  have e1 := ofI_nat hbn
  refine ⟨Nat.le_of_ble_eq_true rfl, fun nx => ?_⟩
  refine aA rfl ?_
  refine aC (Γ := aL) [0] (aD _ _) rfl rfl rfl (fun K hK => ?_)
  simp (disch := omega) only [Tryz.f100, go_sem, Int.reduceLE, Int.reduceLT, BitVec.reduceOfInt, ↓reduceIte]
  refine hK _ ?_
  refine aB ?_
  refine aA rfl ?_
  refine aC (Γ := bC [(87, .pure true lenG)]) [2] (aH ok92 aO) rfl rfl rfl (fun K hK => ?_)
  simp (disch := omega) only [Tryz.f100, go_sem, Nat.reduceAdd, Int.reduceLE, Int.reduceLT, BitVec.reduceOfInt, ↓reduceIte, e1, Int.toNat_natCast]
  refine hK _ ?_
  refine aB ?_
  refine aS rfl ?_
  simp (disch := omega) only [cN, bV, bK, bQ, Tryz.f100, go_sem, ↓reduceIte]
 ·cases hg
theorem ok105 : bX Tryz.prog GLh 100 (.pure true npG) := ⟨⟨_, Tryz.func100, rfl, rfl⟩, np_ok⟩
def brkL (a len modulus : Nat) : Nat → Nat → UInt64 × Array T16 → Array T16
 | 0, _, st => st.2
 | m + 1, idx, st => brkL a len modulus m (idx + 1) (Sort.breakStep a len modulus st idx)
theorem brk_and (x : BitVec 64) (k : Nat) (h : k ≤ 20) : (x &&& ((1#64 <<< k) - 1#64)).toNat = x.toNat &&& ((1 <<< k) - 1) := by
 have hp : 2 ^ k ≤ 2 ^ 20 := Nat.pow_le_pow_right (by decide) h
 have h0 := Nat.two_pow_pos k
 rw [BitVec.toNat_and]
 congr 1
 rw [BitVec.toNat_sub, BitVec.toNat_shiftLeft, Nat.shiftLeft_eq, Nat.shiftLeft_eq]
 simp only [BitVec.toNat_ofNat, Nat.reduceMod, Nat.reducePow, Nat.one_mul] at hp ⊢
 omega
theorem brk_le (x k n : Nat) (h : 0 < n) (hk : k = Sort.bitsLen n) : x &&& ((1 <<< k) - 1) < 2 * n := by
 have h1 := Nat.and_le_right (n := x) (m := (1 <<< k) - 1)
 have h2 := Sort.two_pow_bitsLen_le h
 have h0 := Nat.two_pow_pos k
 rw [Nat.shiftLeft_eq, Nat.one_mul] at h1 ⊢
 rw [hk] at *
 omega
structure SDR where
 m : Nat
 i : Nat
 r : BitVec 64
 d : Array T16
 c : Nat
def brkG : List AV → List AV → Option (AV × List AV)
 | [.os _ 0 n 1 _, .i a, .i b], xs => aK (unA xs) fun l => aN (l.length = n ∧ 0 ≤ a ∧ a < b ∧ b ≤ n ∧ n ≤ 1000000) (some (.tup [], cA (Sort.breakPatterns l.toArray a.toNat b.toNat)))
 | _, _ => none
theorem brkG_eq (id n : Nat) (gg : Bool) (a b : Int) (xs : List AV) : brkG [.os id 0 n 1 gg, .i a, .i b] xs = aK (unA xs) fun l => aN (l.length = n ∧ 0 ≤ a ∧ a < b ∧ b ≤ n ∧ n ≤ 1000000) (some (.tup [], cA (Sort.breakPatterns l.toArray a.toNat b.toNat))) := (rfl)
attribute [go_sem] brkG_eq
set_option maxHeartbeats 2000000 in
theorem brk_ok : cQ Tryz.prog GLh 90 (dP brkG) := by
 refine dN Tryz.func90 (aT rfl) ?_
 intro id off n e gg rest nx xs r ys hg
 unfold brkG at hg
 split at hg
 ·rename_i id2 n2 gg2 a0 b0 heq
  simp only [List.cons.injEq, AV.os.injEq] at heq
  obtain ⟨⟨rfl, rfl, rfl, rfl, rfl⟩, rfl⟩ := heq
  replace hg := aJ hg; obtain ⟨l, hl, hg⟩ := hg
  replace hg := aP hg; obtain ⟨⟨hn, ha, hab, hbn, hbig⟩, hg⟩ := hg
  simp only [Option.some.injEq, Prod.mk.injEq] at hg; obtain ⟨rfl, rfl⟩ := hg
  have := dO hl; subst this
  obtain ⟨a, rfl⟩ := Int.eq_ofNat_of_zero_le ha
  obtain ⟨b, rfl⟩ := Int.eq_ofNat_of_zero_le (show 0 ≤ b0 by omega)
  simp only [Int.toNat_natCast] at *
  obtain ⟨d, hd⟩ : ∃ d, l.toArray = d := ⟨_, rfl⟩
  have hds : d.size = n := by rw [← hd]; simpa using hn
  have hab2 : a < b := by omega
  have hbn2 : b ≤ n := by omega
  rw [hd]
  refine ⟨Nat.le_of_ble_eq_true rfl, fun hid => ?_⟩
  clear hl hn ha hab hbn
  have eq4 : (((b : Int) - (a : Int)).tdiv 4) = (((b - a) / 4 : Nat) : Int) := by rw [Int.tdiv_eq_ediv_of_nonneg (by omega)]; omega
  obtain ⟨L, hL⟩ : ∃ L : Nat, b - a = L := ⟨_, rfl⟩
  obtain ⟨Q, hQ⟩ : ∃ Q : Nat, (b - a) / 4 = Q := ⟨_, rfl⟩
  have ebL : (b : Int) - (a : Int) = (L : Int) := by omega
  rw [ebL, hQ] at eq4
  have hQL : L / 4 = Q := by omega
  have hLb : L ≤ 1000000 := by omega
  have h20 := bits20 hLb
  obtain ⟨R, hR⟩ : ∃ R, Sort.breakPatterns d a b = R := ⟨_, rfl⟩
  rw [hR]
  refine aA rfl ?_
  refine aC (Γ := aL) [0, 1, 6] (aD _ _) rfl rfl rfl (fun K hK => ?_)
  simp (disch := omega) only [Tryz.f90, go_sem, Nat.reduceAdd, ↓reduceIte, ebL]
  refine hK _ ?_
  refine aB ?_
  refine aA rfl ?_
  refine aC (Γ := aL) [15, 0, 1, 6] (aD _ _) rfl rfl rfl (fun K hK => ?_)
  simp (disch := omega) only [Tryz.f90, go_sem, Nat.reduceAdd, ↓reduceIte]
  refine hK _ ?_
  refine aB ?_
  refine aW (.tmp 15) rfl rfl rfl (fun h => ?_) (fun h => ?_)
  ·skip
   refine aI rfl ?_
   have hL8 : L ≥ 8 := by omega
   have hR2 : brkL a L (1 <<< Sort.bitsLen L) 3 (a + Q * 2 - 1) (UInt64.ofNat L, d) = R := by
    rw [← hR]; unfold Sort.breakPatterns; simp only [hL, hQL, if_pos hL8]; rfl
   have ei : (a : Int) + (Q : Int) * 2 - 1 = ((a + Q * 2 - 1 : Nat) : Int) := by omega
   obtain ⟨i0, hi0⟩ : ∃ i0, a + Q * 2 - 1 = i0 := ⟨_, rfl⟩
   rw [hi0] at hR2 ei
   have ej : (a : Int) + (Q : Int) * 2 + 1 = ((i0 + 2 : Nat) : Int) := by omega
   refine aA rfl ?_
   refine aC (Γ := aL) [0, 1, 6, 7] (aD _ _) rfl rfl rfl (fun K hK => ?_)
   simp (disch := omega) only [Tryz.f90, go_sem, Nat.reduceAdd, Nat.reduceLeDiff, ↓reduceIte]
   refine hK _ ?_
   refine aB ?_
   refine aA rfl ?_
   refine aC (Γ := bC [(100, .pure true npG)]) [0, 1, 6, 7, 8] (aH ok105 aO) rfl rfl rfl (fun K hK => ?_)
   simp (disch := omega) only [Tryz.f90, go_sem, Nat.reduceAdd, ↓reduceIte, Int.toNat_natCast]
   refine hK _ ?_
   refine aB ?_
   refine aA rfl ?_
   refine aC (Γ := aL) [0, 1, 6, 7, 8, 9] (aD _ _) rfl rfl rfl (fun K hK => ?_)
   simp (disch := omega) only [Tryz.f90, go_sem, Nat.reduceAdd, Int.reduceEq, ↓reduceIte, eq4, ei]
   refine hK _ ?_
   refine aB ?_
   obtain ⟨q, hq⟩ : ∃ q, nx + 4 + 2 + 2 = q := ⟨_, rfl⟩
   have hqid : id < q := by omega
   rw [hq]
   refine aR 0 rfl rfl ?_
   refine bR (fun p : SDR => { fr := [(0, .os id 0 n 1 gg), (1, .i a), (6, .i L), (7, .op q 0), (8, .w64 (1#64 <<< Sort.bitsLen L)), (9, .i p.i)], hp := upd (upd (fun _ => none) id (.cells (cA p.d) true)) q (.cells [.w64 p.r] true), nx := 0, cx := p.c }) (fun p => brkL a L (1 <<< Sort.bitsLen L) p.m p.i (.ofBitVec p.r, p.d) = R ∧ p.d.size = n ∧ p.m + p.i = i0 + 3 ∧ i0 ≤ p.i ∧ q < p.c) (fun p => p.m) rfl ⟨⟨3, i0, BitVec.ofInt 64 (L : Int), d, _⟩, ⟨by rw [← hR2]; simp only; rw [BitVec.ofInt_natCast]; rfl, hds, by simp only; omega, by simp only; omega, by simp only; omega⟩, bD rfl rfl (Nat.le_refl _)⟩ ?_
   rintro ⟨m, i, r, d1, c⟩ ⟨hr1, hs1, hm, hi, hc⟩ n0
   simp only at hr1 hs1 hm hi hc ⊢
   have eqq : (a : Int) + ((L : Int).tdiv 4) * 2 + 1 = ((i0 + 2 : Nat) : Int) := by rw [eq4]; exact ej
   refine aA rfl ?_
   refine aA rfl ?_
   refine aC (Γ := aL) [33, 0, 1, 6, 7, 8, 9] (aD _ _) rfl rfl rfl (fun K hK => ?_)
   simp (disch := omega) only [Tryz.f90, go_sem, Nat.reduceAdd, Int.reduceEq, ↓reduceIte, eq4, ej]
   refine hK _ ?_
   refine aB ?_
   refine aW (.tmp 33) rfl rfl rfl (fun h => ?_) (fun h => ?_)
   ·skip
    refine aI rfl ?_
    obtain ⟨m, rfl⟩ : ∃ m', m = m' + 1 := ⟨m - 1, by omega⟩
    rw [brkL] at hr1
    obtain ⟨o, ho⟩ : ∃ o, (xs64 r).toNat &&& ((1 <<< Sort.bitsLen L) - 1) = o := ⟨_, rfl⟩
    have ho2 : o < 2 * L := by rw [← ho]; exact brk_le _ _ _ (by omega) rfl
    have hst : Sort.breakStep a L (1 <<< Sort.bitsLen L) (UInt64.ofBitVec r, d1) i = (.ofBitVec (xs64 r), Sort.swp d1 i (a + if o ≥ L then o - L else o)) := by
     rw [← ho]; rfl
    rw [hst] at hr1
    have hin : i < n := by omega
    have eand : (xs64 r &&& (1#64 <<< Sort.bitsLen L - 1#64)).toNat = o := by rw [brk_and _ _ h20]; exact ho
    refine aQ rfl ?_
    refine aB ?_
    refine aA rfl ?_
    refine aR 1 rfl rfl ?_
    refine aA rfl ?_
    refine aC (Γ := bC [(101, .heap nxtH)]) [0, 1, 6, 7, 8, 9, 10] (aH ok106 aO) rfl rfl rfl (fun K hK => ?_)
    simp (disch := omega) only [Tryz.f90, go_sem, Nat.reduceAdd, Int.reduceLE, Int.reduceLT, BitVec.reduceOfInt, ↓reduceIte, eand]
    refine hK _ ?_
    refine aB ?_
    refine aA rfl ?_
    refine aA rfl ?_
    refine aC (Γ := aL) [43, 0, 1, 6, 7, 8, 9, 10] (aD _ _) rfl rfl rfl (fun K hK => ?_)
    simp (disch := omega) only [Tryz.f90, go_sem, Nat.reduceAdd, ↓reduceIte]
    refine hK _ ?_
    refine aB ?_
    refine aW (.tmp 43) rfl rfl rfl (fun h => ?_) (fun h => ?_)
    ·skip
     refine aI rfl ?_
     have hoL : o ≥ L := by omega
     rw [if_pos hoL] at hr1
     have eo : (o : Int) - (L : Int) = ((o - L : Nat) : Int) := by omega
     refine aC (Γ := aL) [0, 1, 6, 7, 8, 9, 10] (aD _ _) rfl rfl rfl (fun K hK => ?_)
     simp (disch := omega) only [Tryz.f90, go_sem, Nat.reduceAdd, ↓reduceIte, eo]
     refine hK _ ?_
     refine aB ?_
     obtain ⟨w, hw⟩ : ∃ w, a + (o - L) = w := ⟨_, rfl⟩
     have ew : (a : Int) + ((o - L : Nat) : Int) = (w : Int) := by omega
     have hwn : w < n := by omega
     rw [hw] at hr1
     have hsw : (d1.setIfInBounds i d1[w]!).setIfInBounds w d1[i]! = Sort.swp d1 i w := rfl
     refine bB (Γ := aL) (fun _ => 2) [0, 1, 6, 7, 8, 9] bZ (aD _ _) rfl rfl rfl (by kernel_rfl) (fun K hK => ?_)
     simp (disch := omega) only [Tryz.f90, go_sem, Nat.reduceAdd, ↓reduceIte, ew, hsw, Int.toNat_natCast]
     refine hK _ ?_
     refine bU (aB ?_)
     refine aC (Γ := aL) [0, 1, 6, 7, 8, 9] (aD _ _) rfl rfl rfl (fun K hK => ?_)
     simp (disch := omega) only [Tryz.f90, go_sem, Nat.reduceAdd, ↓reduceIte]
     refine hK _ ?_
     refine bT ?_
     refine ⟨⟨m, i + 1, xs64 r, Sort.swp d1 i w, _⟩, ⟨hr1, by simp only [cW]; exact hs1, by simp only; omega, by simp only; omega, by simp only; omega⟩, by simp only; omega, ⟨fun _ => .inr (by simp only [Int.natCast_add, Int.natCast_one]), bS (by simp (disch := omega) only [aV, bY, ↓reduceIte, eq_self]) (bS (by simp (disch := omega) only [aV, ↓reduceIte, eq_self]) cB), Nat.le_refl _⟩⟩
    ·skip
     refine aI rfl ?_
     have hoL : ¬ o ≥ L := by omega
     rw [if_neg hoL] at hr1
     refine aQ rfl ?_
     refine aB ?_
     obtain ⟨w, hw⟩ : ∃ w, a + o = w := ⟨_, rfl⟩
     have ew : (a : Int) + (o : Int) = (w : Int) := by omega
     have hwn : w < n := by omega
     rw [hw] at hr1
     have hsw : (d1.setIfInBounds i d1[w]!).setIfInBounds w d1[i]! = Sort.swp d1 i w := rfl
     refine bB (Γ := aL) (fun _ => 2) [0, 1, 6, 7, 8, 9] bZ (aD _ _) rfl rfl rfl (by kernel_rfl) (fun K hK => ?_)
     simp (disch := omega) only [Tryz.f90, go_sem, Nat.reduceAdd, ↓reduceIte, ew, hsw, Int.toNat_natCast]
     refine hK _ ?_
     refine bU (aB ?_)
     refine aC (Γ := aL) [0, 1, 6, 7, 8, 9] (aD _ _) rfl rfl rfl (fun K hK => ?_)
     simp (disch := omega) only [Tryz.f90, go_sem, Nat.reduceAdd, ↓reduceIte]
     refine hK _ ?_
     refine bT ?_
     refine ⟨⟨m, i + 1, xs64 r, Sort.swp d1 i w, _⟩, ⟨hr1, by simp only [cW]; exact hs1, by simp only; omega, by simp only; omega, by simp only; omega⟩, by simp only; omega, ⟨fun _ => .inr (by simp only [Int.natCast_add, Int.natCast_one]), bS (by simp (disch := omega) only [aV, bY, ↓reduceIte, eq_self]) (bS (by simp (disch := omega) only [aV, ↓reduceIte, eq_self]) cB), Nat.le_refl _⟩⟩
   ·skip
    refine aI rfl ?_
    refine bF 0 rfl rfl ?_
    refine aY (aZ (bE ?_))
    obtain rfl : m = 0 := by omega
    rw [brkL] at hr1
    simp only at hr1
    subst hr1
    exact ⟨rfl, by simp (disch := omega) only [aV, bY, if_true, if_false], rfl, dZ _⟩
  ·skip
   refine aI rfl ?_
   have hL8 : ¬ L ≥ 8 := by omega
   refine aQ rfl ?_
   have hR2 : d = R := by rw [← hR]; unfold Sort.breakPatterns; simp only [hL, if_neg hL8]
   subst hR2
   exact ⟨rfl, by simp only [aV, if_true], rfl, dZ _⟩
 ·cases hg
theorem ok95 : bX Tryz.prog GLh 90 (.heap (dP brkG)) := ⟨⟨_, Tryz.func90, rfl, rfl⟩, brk_ok⟩
end Go.AX
namespace Go.AX
open Go Go.Proofs
structure SKC where
 k : Nat
 c : Nat
set_option maxHeartbeats 1000000 in
theorem pt_up1 {id n a I J I2 nx0 cx0 : Nat} {gg : Bool} {D : Array T16} {Q : Exit → S → Prop} (hI : Sort.scanUp (fun x => ltN x D[a]!) D J I = I2) (hs : D.size = n) (hJ : J < n) (ha : a < n) (hbig : n ≤ 1000000) (hid : id < cx0)
  (hQ : ∀ n1 c1, id < c1 → Q .normal { fr := [(0, .os id 0 n 1 gg), (1, .i (a : Int)), (10, .i (I2 : Int)), (11, .i (J : Int))], hp := upd (fun _ => none) id (.cells (cA D) true), nx := n1, cx := c1 }) :
  Awp Tryz.prog GLh Tryz.f96.ntmps (cl (cr (cr (cr (aE Tryz.f96))))) { fr := [(0, .os id 0 n 1 gg), (1, .i (a : Int)), (10, .i (I : Int)), (11, .i (J : Int))], hp := upd (fun _ => none) id (.cells (cA D) true), nx := nx0, cx := cx0 } Q := by
  refine aR 0 rfl rfl ?_
  refine bR (fun q : SKC => { fr := [(0, .os id 0 n 1 gg), (1, .i a), (10, .i q.k), (11, .i J)], hp := upd (fun _ => none) id (.cells (cA D) true), nx := 0, cx := q.c }) (fun q => Sort.scanUp (fun x => ltN x D[a]!) D J q.k = I2 ∧ id < q.c) (fun q => J + 1 - q.k) rfl ⟨⟨I, _⟩, ⟨hI, hid⟩, bD rfl rfl (Nat.le_refl _)⟩ ?_
  rintro ⟨i, c⟩ ⟨hr, hc⟩ n0
  simp only at hr hc ⊢
  by_cases hij : i ≤ J
  ·skip
   have hd1 : decide ((i : Int) ≤ (J : Int)) = true := decide_eq_true (by omega)
   have hin : i < n := by omega
   obtain ⟨v, hv⟩ : ∃ v, ltN D[i]! D[a]! = v := ⟨_, rfl⟩
   rw [Sort.scanUp, decide_eq_true hij, Bool.true_and] at hr
   simp only [hv] at hr
   refine aA rfl ?_
   refine aA rfl ?_
   refine bB (Γ := bC [(94, .pure true dY)]) (fun k => if k = 12 then 0 else 2) [43, 0, 1, 10, 11] bZ (aH ok99 aO) rfl rfl rfl (by kernel_rfl) (fun K hK => ?_)
   simp (disch := omega) only [Tryz.f96, go_sem, Nat.reduceAdd, ↓reduceIte, hd1, hv, Int.toNat_natCast]
   refine hK _ ?_
   refine aB ?_
   cases v
   ·skip
    simp only [Bool.false_eq_true, if_false] at hr
    subst hr
    refine bA (.tmp 43) rfl rfl rfl (fun h => ?_) (fun h => ?_)
    ·skip
     refine aI rfl ?_
     cases h
    ·skip
     refine aI rfl ?_
     refine bF 0 rfl rfl ?_
     refine aY (aZ (bE ?_))
     exact hQ _ _ (by omega)
   ·skip
    simp only [if_true] at hr
    refine bA (.tmp 43) rfl rfl rfl (fun h => ?_) (fun h => ?_)
    ·skip
     refine aI rfl ?_
     refine aQ rfl ?_
     refine aB ?_
     refine aR 1 rfl rfl ?_
     refine aC (Γ := aL) [0, 1, 10, 11] (aD _ _) rfl rfl rfl (fun K hK => ?_)
     simp (disch := omega) only [Tryz.f96, go_sem, Nat.reduceAdd, ↓reduceIte]
     refine hK _ ?_
     refine bU (bT ?_)
     refine ⟨⟨i + 1, _⟩, ⟨hr, by simp only; omega⟩, by simp only; omega, bD (by simp only [Int.natCast_add, Int.natCast_one]) rfl (Nat.le_refl _)⟩
    ·skip
     refine aI rfl ?_
     cases h
  ·skip
   have hd1 : decide ((i : Int) ≤ (J : Int)) = false := decide_eq_false (by omega)
   rw [Sort.scanUp, decide_eq_false hij, Bool.false_and] at hr
   simp only [Bool.false_eq_true, if_false] at hr
   subst hr
   refine aA rfl ?_
   refine aA rfl ?_
   refine bB (Γ := bC [(94, .pure true dY)]) (fun k => if k = 12 then 0 else 2) [43, 0, 1, 10, 11] bZ (aH ok99 aO) rfl rfl rfl (by kernel_rfl) (fun K hK => ?_)
   simp (disch := omega) only [Tryz.f96, go_sem, Nat.reduceAdd, reduceCtorEq, ↓reduceIte, hd1]
   refine hK _ ?_
   refine aB ?_
   refine bA (.tmp 43) rfl rfl rfl (fun h => ?_) (fun h => ?_)
   ·skip
    refine aI rfl ?_
    cases h
   ·skip
    refine aI rfl ?_
    refine bF 0 rfl rfl ?_
    refine aY (aZ (bE ?_))
    exact hQ _ _ (by omega)
set_option maxHeartbeats 1000000 in
theorem pt_dn1 {id n a I J J2 nx0 cx0 : Nat} {gg : Bool} {D : Array T16} {Q : Exit → S → Prop} (hJ2 : Sort.scanDown (fun x => !ltN x D[a]!) D I J = J2) (hs : D.size = n) (hJ : J < n) (hI1 : 0 < I) (ha : a < n) (hbig : n ≤ 1000000) (hid : id < cx0)
  (hQ : ∀ n1 c1, id < c1 → Q .normal { fr := [(0, .os id 0 n 1 gg), (1, .i (a : Int)), (10, .i (I : Int)), (11, .i (J2 : Int))], hp := upd (fun _ => none) id (.cells (cA D) true), nx := n1, cx := c1 }) :
  Awp Tryz.prog GLh Tryz.f96.ntmps (cl (cr (cr (cr (cr (aE Tryz.f96)))))) { fr := [(0, .os id 0 n 1 gg), (1, .i (a : Int)), (10, .i (I : Int)), (11, .i (J : Int))], hp := upd (fun _ => none) id (.cells (cA D) true), nx := nx0, cx := cx0 } Q := by
  refine aR 2 rfl rfl ?_
  refine bR (fun q : SKC => { fr := [(0, .os id 0 n 1 gg), (1, .i a), (10, .i I), (11, .i q.k)], hp := upd (fun _ => none) id (.cells (cA D) true), nx := 0, cx := q.c }) (fun q => Sort.scanDown (fun x => !ltN x D[a]!) D I q.k = J2 ∧ q.k < n ∧ id < q.c) (fun q => q.k) rfl ⟨⟨J, _⟩, ⟨hJ2, hJ, hid⟩, bD rfl rfl (Nat.le_refl _)⟩ ?_
  rintro ⟨j, c⟩ ⟨hr, hjn, hc⟩ n0
  simp only at hr hjn hc ⊢
  by_cases hij : I ≤ j
  ·skip
   have hd1 : decide ((I : Int) ≤ (j : Int)) = true := decide_eq_true (by omega)
   obtain ⟨j, rfl⟩ : ∃ j', j = j' + 1 := ⟨j - 1, by omega⟩
   have ej1 : ((j + 1 : Nat) : Int) - 1 = (j : Int) := by omega
   obtain ⟨v, hv⟩ : ∃ v, ltN D[j + 1]! D[a]! = v := ⟨_, rfl⟩
   rw [Sort.scanDown, decide_eq_true hij, Bool.true_and] at hr
   simp only [hv] at hr
   refine aA rfl ?_
   refine aA rfl ?_
   refine bB (Γ := bC [(94, .pure true dY)]) (fun k => if k = 12 then 0 else 2) [60, 0, 1, 10, 11] bZ (aH ok99 aO) rfl rfl rfl (by kernel_rfl) (fun K hK => ?_)
   simp (disch := omega) only [Tryz.f96, go_sem, Nat.reduceAdd, ↓reduceIte, hd1, hv, Int.toNat_natCast]
   refine hK _ ?_
   refine aB ?_
   cases v
   ·skip
    simp only [Bool.not_false, if_true] at hr
    refine bA (.tmp 60) rfl rfl rfl (fun h => ?_) (fun h => ?_)
    ·skip
     refine aI rfl ?_
     refine aQ rfl ?_
     refine aB ?_
     refine aR 3 rfl rfl ?_
     refine aC (Γ := aL) [0, 1, 10, 11] (aD _ _) rfl rfl rfl (fun K hK => ?_)
     simp (disch := omega) only [Tryz.f96, go_sem, Nat.reduceAdd, ↓reduceIte, ej1]
     refine hK _ ?_
     refine bU (bT ?_)
     refine ⟨⟨j, _⟩, ⟨hr, by simp only; omega, by simp only; omega⟩, by simp only; omega, bD rfl rfl (Nat.le_refl _)⟩
    ·skip
     refine aI rfl ?_
     cases h
   ·skip
    simp only [Bool.not_true, Bool.false_eq_true, if_false] at hr
    subst hr
    refine bA (.tmp 60) rfl rfl rfl (fun h => ?_) (fun h => ?_)
    ·skip
     refine aI rfl ?_
     cases h
    ·skip
     refine aI rfl ?_
     refine bF 2 rfl rfl ?_
     refine aY (aZ (bE ?_))
     exact hQ _ _ (by omega)
  ·skip
   have hd1 : decide ((I : Int) ≤ (j : Int)) = false := decide_eq_false (by omega)
   have hr2 : j = J2 := by
    rw [← hr]
    cases j with
    | zero => rfl
    | succ k => rw [Sort.scanDown, decide_eq_false hij, Bool.false_and]; rfl
   subst hr2
   refine aA rfl ?_
   refine aA rfl ?_
   refine bB (Γ := bC [(94, .pure true dY)]) (fun k => if k = 12 then 0 else 2) [60, 0, 1, 10, 11] bZ (aH ok99 aO) rfl rfl rfl (by kernel_rfl) (fun K hK => ?_)
   simp (disch := omega) only [Tryz.f96, go_sem, Nat.reduceAdd, reduceCtorEq, ↓reduceIte, hd1]
   refine hK _ ?_
   refine aB ?_
   refine bA (.tmp 60) rfl rfl rfl (fun h => ?_) (fun h => ?_)
   ·skip
    refine aI rfl ?_
    cases h
   ·skip
    refine aI rfl ?_
    refine bF 2 rfl rfl ?_
    refine aY (aZ (bE ?_))
    exact hQ _ _ (by omega)
set_option maxHeartbeats 1000000 in
theorem pt_up2 {id n a I J I2 nx0 cx0 : Nat} {gg : Bool} {D : Array T16} {Q : Exit → S → Prop} (hI : Sort.scanUp (fun x => ltN x D[a]!) D J I = I2) (hs : D.size = n) (hJ : J < n) (ha : a < n) (hbig : n ≤ 1000000) (hid : id < cx0)
  (hQ : ∀ n1 c1, id < c1 → Q .normal { fr := [(0, .os id 0 n 1 gg), (1, .i (a : Int)), (10, .i (I2 : Int)), (11, .i (J : Int))], hp := upd (fun _ => none) id (.cells (cA D) true), nx := n1, cx := c1 }) :
  Awp Tryz.prog GLh Tryz.f96.ntmps (cl (cl (cl (cl (cl (cr (cr (cr (cr (cr (cr (cr (cr (cr (aE Tryz.f96))))))))))))))) { fr := [(0, .os id 0 n 1 gg), (1, .i (a : Int)), (10, .i (I : Int)), (11, .i (J : Int))], hp := upd (fun _ => none) id (.cells (cA D) true), nx := nx0, cx := cx0 } Q := by
  refine aR 6 rfl rfl ?_
  refine bR (fun q : SKC => { fr := [(0, .os id 0 n 1 gg), (1, .i a), (10, .i q.k), (11, .i J)], hp := upd (fun _ => none) id (.cells (cA D) true), nx := 0, cx := q.c }) (fun q => Sort.scanUp (fun x => ltN x D[a]!) D J q.k = I2 ∧ id < q.c) (fun q => J + 1 - q.k) rfl ⟨⟨I, _⟩, ⟨hI, hid⟩, bD rfl rfl (Nat.le_refl _)⟩ ?_
  rintro ⟨i, c⟩ ⟨hr, hc⟩ n0
  simp only at hr hc ⊢
  by_cases hij : i ≤ J
  ·skip
   have hd1 : decide ((i : Int) ≤ (J : Int)) = true := decide_eq_true (by omega)
   have hin : i < n := by omega
   obtain ⟨v, hv⟩ : ∃ v, ltN D[i]! D[a]! = v := ⟨_, rfl⟩
   rw [Sort.scanUp, decide_eq_true hij, Bool.true_and] at hr
   simp only [hv] at hr
   refine aA rfl ?_
   refine aA rfl ?_
   refine bB (Γ := bC [(94, .pure true dY)]) (fun k => if k = 12 then 0 else 2) [112, 0, 1, 10, 11] bZ (aH ok99 aO) rfl rfl rfl (by kernel_rfl) (fun K hK => ?_)
   simp (disch := omega) only [Tryz.f96, go_sem, Nat.reduceAdd, ↓reduceIte, hd1, hv, Int.toNat_natCast]
   refine hK _ ?_
   refine aB ?_
   cases v
   ·skip
    simp only [Bool.false_eq_true, if_false] at hr
    subst hr
    refine bA (.tmp 112) rfl rfl rfl (fun h => ?_) (fun h => ?_)
    ·skip
     refine aI rfl ?_
     cases h
    ·skip
     refine aI rfl ?_
     refine bF 6 rfl rfl ?_
     refine aY (aZ (bE ?_))
     exact hQ _ _ (by omega)
   ·skip
    simp only [if_true] at hr
    refine bA (.tmp 112) rfl rfl rfl (fun h => ?_) (fun h => ?_)
    ·skip
     refine aI rfl ?_
     refine aQ rfl ?_
     refine aB ?_
     refine aR 7 rfl rfl ?_
     refine aC (Γ := aL) [0, 1, 10, 11] (aD _ _) rfl rfl rfl (fun K hK => ?_)
     simp (disch := omega) only [Tryz.f96, go_sem, Nat.reduceAdd, ↓reduceIte]
     refine hK _ ?_
     refine bU (bT ?_)
     refine ⟨⟨i + 1, _⟩, ⟨hr, by simp only; omega⟩, by simp only; omega, bD (by simp only [Int.natCast_add, Int.natCast_one]) rfl (Nat.le_refl _)⟩
    ·skip
     refine aI rfl ?_
     cases h
  ·skip
   have hd1 : decide ((i : Int) ≤ (J : Int)) = false := decide_eq_false (by omega)
   rw [Sort.scanUp, decide_eq_false hij, Bool.false_and] at hr
   simp only [Bool.false_eq_true, if_false] at hr
   subst hr
   refine aA rfl ?_
   refine aA rfl ?_
   refine bB (Γ := bC [(94, .pure true dY)]) (fun k => if k = 12 then 0 else 2) [112, 0, 1, 10, 11] bZ (aH ok99 aO) rfl rfl rfl (by kernel_rfl) (fun K hK => ?_)
   simp (disch := omega) only [Tryz.f96, go_sem, Nat.reduceAdd, reduceCtorEq, ↓reduceIte, hd1]
   refine hK _ ?_
   refine aB ?_
   refine bA (.tmp 112) rfl rfl rfl (fun h => ?_) (fun h => ?_)
   ·skip
    refine aI rfl ?_
    cases h
   ·skip
    refine aI rfl ?_
    refine bF 6 rfl rfl ?_
    refine aY (aZ (bE ?_))
    exact hQ _ _ (by omega)
set_option maxHeartbeats 1000000 in
theorem pt_dn2 {id n a I J J2 nx0 cx0 : Nat} {gg : Bool} {D : Array T16} {Q : Exit → S → Prop} (hJ2 : Sort.scanDown (fun x => !ltN x D[a]!) D I J = J2) (hs : D.size = n) (hJ : J < n) (hI1 : 0 < I) (ha : a < n) (hbig : n ≤ 1000000) (hid : id < cx0)
  (hQ : ∀ n1 c1, id < c1 → Q .normal { fr := [(0, .os id 0 n 1 gg), (1, .i (a : Int)), (10, .i (I : Int)), (11, .i (J2 : Int))], hp := upd (fun _ => none) id (.cells (cA D) true), nx := n1, cx := c1 }) :
  Awp Tryz.prog GLh Tryz.f96.ntmps (cl (cr (cl (cl (cl (cl (cr (cr (cr (cr (cr (cr (cr (cr (cr (aE Tryz.f96)))))))))))))))) { fr := [(0, .os id 0 n 1 gg), (1, .i (a : Int)), (10, .i (I : Int)), (11, .i (J : Int))], hp := upd (fun _ => none) id (.cells (cA D) true), nx := nx0, cx := cx0 } Q := by
  refine aR 8 rfl rfl ?_
  refine bR (fun q : SKC => { fr := [(0, .os id 0 n 1 gg), (1, .i a), (10, .i I), (11, .i q.k)], hp := upd (fun _ => none) id (.cells (cA D) true), nx := 0, cx := q.c }) (fun q => Sort.scanDown (fun x => !ltN x D[a]!) D I q.k = J2 ∧ q.k < n ∧ id < q.c) (fun q => q.k) rfl ⟨⟨J, _⟩, ⟨hJ2, hJ, hid⟩, bD rfl rfl (Nat.le_refl _)⟩ ?_
  rintro ⟨j, c⟩ ⟨hr, hjn, hc⟩ n0
  simp only at hr hjn hc ⊢
  by_cases hij : I ≤ j
  ·skip
   have hd1 : decide ((I : Int) ≤ (j : Int)) = true := decide_eq_true (by omega)
   obtain ⟨j, rfl⟩ : ∃ j', j = j' + 1 := ⟨j - 1, by omega⟩
   have ej1 : ((j + 1 : Nat) : Int) - 1 = (j : Int) := by omega
   obtain ⟨v, hv⟩ : ∃ v, ltN D[j + 1]! D[a]! = v := ⟨_, rfl⟩
   rw [Sort.scanDown, decide_eq_true hij, Bool.true_and] at hr
   simp only [hv] at hr
   refine aA rfl ?_
   refine aA rfl ?_
   refine bB (Γ := bC [(94, .pure true dY)]) (fun k => if k = 12 then 0 else 2) [129, 0, 1, 10, 11] bZ (aH ok99 aO) rfl rfl rfl (by kernel_rfl) (fun K hK => ?_)
   simp (disch := omega) only [Tryz.f96, go_sem, Nat.reduceAdd, ↓reduceIte, hd1, hv, Int.toNat_natCast]
   refine hK _ ?_
   refine aB ?_
   cases v
   ·skip
    simp only [Bool.not_false, if_true] at hr
    refine bA (.tmp 129) rfl rfl rfl (fun h => ?_) (fun h => ?_)
    ·skip
     refine aI rfl ?_
     refine aQ rfl ?_
     refine aB ?_
     refine aR 9 rfl rfl ?_
     refine aC (Γ := aL) [0, 1, 10, 11] (aD _ _) rfl rfl rfl (fun K hK => ?_)
     simp (disch := omega) only [Tryz.f96, go_sem, Nat.reduceAdd, ↓reduceIte, ej1]
     refine hK _ ?_
     refine bU (bT ?_)
     refine ⟨⟨j, _⟩, ⟨hr, by simp only; omega, by simp only; omega⟩, by simp only; omega, bD rfl rfl (Nat.le_refl _)⟩
    ·skip
     refine aI rfl ?_
     cases h
   ·skip
    simp only [Bool.not_true, Bool.false_eq_true, if_false] at hr
    subst hr
    refine bA (.tmp 129) rfl rfl rfl (fun h => ?_) (fun h => ?_)
    ·skip
     refine aI rfl ?_
     cases h
    ·skip
     refine aI rfl ?_
     refine bF 8 rfl rfl ?_
     refine aY (aZ (bE ?_))
     exact hQ _ _ (by omega)
  ·skip
   have hd1 : decide ((I : Int) ≤ (j : Int)) = false := decide_eq_false (by omega)
   have hr2 : j = J2 := by
    rw [← hr]
    cases j with
    | zero => rfl
    | succ k => rw [Sort.scanDown, decide_eq_false hij, Bool.false_and]; rfl
   subst hr2
   refine aA rfl ?_
   refine aA rfl ?_
   refine bB (Γ := bC [(94, .pure true dY)]) (fun k => if k = 12 then 0 else 2) [129, 0, 1, 10, 11] bZ (aH ok99 aO) rfl rfl rfl (by kernel_rfl) (fun K hK => ?_)
   simp (disch := omega) only [Tryz.f96, go_sem, Nat.reduceAdd, reduceCtorEq, ↓reduceIte, hd1]
   refine hK _ ?_
   refine aB ?_
   refine bA (.tmp 129) rfl rfl rfl (fun h => ?_) (fun h => ?_)
   ·skip
    refine aI rfl ?_
    cases h
   ·skip
    refine aI rfl ?_
    refine bF 8 rfl rfl ?_
    refine aY (aZ (bE ?_))
    exact hQ _ _ (by omega)
set_option maxHeartbeats 1000000 in
theorem pe_up {id n a I J I2 nx0 cx0 : Nat} {gg : Bool} {D : Array T16} {Q : Exit → S → Prop} (hI : Sort.scanUp (fun x => !ltN D[a]! x) D J I = I2) (hs : D.size = n) (hJ : J < n) (ha : a < n) (hbig : n ≤ 1000000) (hid : id < cx0)
  (hQ : ∀ n1 c1, id < c1 → Q .normal { fr := [(0, .os id 0 n 1 gg), (1, .i (a : Int)), (9, .i (I2 : Int)), (10, .i (J : Int))], hp := upd (fun _ => none) id (.cells (cA D) true), nx := n1, cx := c1 }) :
  Awp Tryz.prog GLh Tryz.f95.ntmps (cl (cl (cl (cl (cl (cr (cr (cr (aE Tryz.f95))))))))) { fr := [(0, .os id 0 n 1 gg), (1, .i (a : Int)), (9, .i (I : Int)), (10, .i (J : Int))], hp := upd (fun _ => none) id (.cells (cA D) true), nx := nx0, cx := cx0 } Q := by
  refine aR 2 rfl rfl ?_
  refine bR (fun q : SKC => { fr := [(0, .os id 0 n 1 gg), (1, .i a), (9, .i q.k), (10, .i J)], hp := upd (fun _ => none) id (.cells (cA D) true), nx := 0, cx := q.c }) (fun q => Sort.scanUp (fun x => !ltN D[a]! x) D J q.k = I2 ∧ id < q.c) (fun q => J + 1 - q.k) rfl ⟨⟨I, _⟩, ⟨hI, hid⟩, bD rfl rfl (Nat.le_refl _)⟩ ?_
  rintro ⟨i, c⟩ ⟨hr, hc⟩ n0
  simp only at hr hc ⊢
  by_cases hij : i ≤ J
  ·skip
   have hd1 : decide ((i : Int) ≤ (J : Int)) = true := decide_eq_true (by omega)
   have hin : i < n := by omega
   obtain ⟨v, hv⟩ : ∃ v, ltN D[a]! D[i]! = v := ⟨_, rfl⟩
   rw [Sort.scanUp, decide_eq_true hij, Bool.true_and] at hr
   simp only [hv] at hr
   refine aA rfl ?_
   refine aA rfl ?_
   refine bB (Γ := bC [(94, .pure true dY)]) (fun k => if k = 12 then 0 else 2) [43, 0, 1, 9, 10] bZ (aH ok99 aO) rfl rfl rfl (by kernel_rfl) (fun K hK => ?_)
   simp (disch := omega) only [Tryz.f95, go_sem, Nat.reduceAdd, ↓reduceIte, hd1, hv, Int.toNat_natCast]
   refine hK _ ?_
   refine aB ?_
   cases v
   ·skip
    simp only [Bool.not_false, if_true] at hr
    refine bA (.tmp 43) rfl rfl rfl (fun h => ?_) (fun h => ?_)
    ·skip
     refine aI rfl ?_
     refine aQ rfl ?_
     refine aB ?_
     refine aR 3 rfl rfl ?_
     refine aC (Γ := aL) [0, 1, 9, 10] (aD _ _) rfl rfl rfl (fun K hK => ?_)
     simp (disch := omega) only [Tryz.f95, go_sem, Nat.reduceAdd, ↓reduceIte]
     refine hK _ ?_
     refine bU (bT ?_)
     refine ⟨⟨i + 1, _⟩, ⟨hr, by simp only; omega⟩, by simp only; omega, bD (by simp only [Int.natCast_add, Int.natCast_one]) rfl (Nat.le_refl _)⟩
    ·skip
     refine aI rfl ?_
     cases h
   ·skip
    simp only [Bool.not_true, Bool.false_eq_true, if_false] at hr
    subst hr
    refine bA (.tmp 43) rfl rfl rfl (fun h => ?_) (fun h => ?_)
    ·skip
     refine aI rfl ?_
     cases h
    ·skip
     refine aI rfl ?_
     refine bF 2 rfl rfl ?_
     refine aY (aZ (bE ?_))
     exact hQ _ _ (by omega)
  ·skip
   have hd1 : decide ((i : Int) ≤ (J : Int)) = false := decide_eq_false (by omega)
   rw [Sort.scanUp, decide_eq_false hij, Bool.false_and] at hr
   simp only [Bool.false_eq_true, if_false] at hr
   subst hr
   refine aA rfl ?_
   refine aA rfl ?_
   refine bB (Γ := bC [(94, .pure true dY)]) (fun k => if k = 12 then 0 else 2) [43, 0, 1, 9, 10] bZ (aH ok99 aO) rfl rfl rfl (by kernel_rfl) (fun K hK => ?_)
   simp (disch := omega) only [Tryz.f95, go_sem, Nat.reduceAdd, reduceCtorEq, ↓reduceIte, hd1]
   refine hK _ ?_
   refine aB ?_
   refine bA (.tmp 43) rfl rfl rfl (fun h => ?_) (fun h => ?_)
   ·skip
    refine aI rfl ?_
    cases h
   ·skip
    refine aI rfl ?_
    refine bF 2 rfl rfl ?_
    refine aY (aZ (bE ?_))
    exact hQ _ _ (by omega)
set_option maxHeartbeats 1000000 in
theorem pe_dn {id n a I J J2 nx0 cx0 : Nat} {gg : Bool} {D : Array T16} {Q : Exit → S → Prop} (hJ2 : Sort.scanDown (fun x => ltN D[a]! x) D I J = J2) (hs : D.size = n) (hJ : J < n) (hI1 : 0 < I) (ha : a < n) (hbig : n ≤ 1000000) (hid : id < cx0)
  (hQ : ∀ n1 c1, id < c1 → Q .normal { fr := [(0, .os id 0 n 1 gg), (1, .i (a : Int)), (9, .i (I : Int)), (10, .i (J2 : Int))], hp := upd (fun _ => none) id (.cells (cA D) true), nx := n1, cx := c1 }) :
  Awp Tryz.prog GLh Tryz.f95.ntmps (cl (cr (cl (cl (cl (cl (cr (cr (cr (aE Tryz.f95)))))))))) { fr := [(0, .os id 0 n 1 gg), (1, .i (a : Int)), (9, .i (I : Int)), (10, .i (J : Int))], hp := upd (fun _ => none) id (.cells (cA D) true), nx := nx0, cx := cx0 } Q := by
  refine aR 4 rfl rfl ?_
  refine bR (fun q : SKC => { fr := [(0, .os id 0 n 1 gg), (1, .i a), (9, .i I), (10, .i q.k)], hp := upd (fun _ => none) id (.cells (cA D) true), nx := 0, cx := q.c }) (fun q => Sort.scanDown (fun x => ltN D[a]! x) D I q.k = J2 ∧ q.k < n ∧ id < q.c) (fun q => q.k) rfl ⟨⟨J, _⟩, ⟨hJ2, hJ, hid⟩, bD rfl rfl (Nat.le_refl _)⟩ ?_
  rintro ⟨j, c⟩ ⟨hr, hjn, hc⟩ n0
  simp only at hr hjn hc ⊢
  by_cases hij : I ≤ j
  ·skip
   have hd1 : decide ((I : Int) ≤ (j : Int)) = true := decide_eq_true (by omega)
   obtain ⟨j, rfl⟩ : ∃ j', j = j' + 1 := ⟨j - 1, by omega⟩
   have ej1 : ((j + 1 : Nat) : Int) - 1 = (j : Int) := by omega
   obtain ⟨v, hv⟩ : ∃ v, ltN D[a]! D[j + 1]! = v := ⟨_, rfl⟩
   rw [Sort.scanDown, decide_eq_true hij, Bool.true_and] at hr
   simp only [hv] at hr
   refine aA rfl ?_
   refine aA rfl ?_
   refine bB (Γ := bC [(94, .pure true dY)]) (fun k => if k = 12 then 0 else 2) [59, 0, 1, 9, 10] bZ (aH ok99 aO) rfl rfl rfl (by kernel_rfl) (fun K hK => ?_)
   simp (disch := omega) only [Tryz.f95, go_sem, Nat.reduceAdd, ↓reduceIte, hd1, hv, Int.toNat_natCast]
   refine hK _ ?_
   refine aB ?_
   cases v
   ·skip
    simp only [Bool.false_eq_true, if_false] at hr
    subst hr
    refine bA (.tmp 59) rfl rfl rfl (fun h => ?_) (fun h => ?_)
    ·skip
     refine aI rfl ?_
     cases h
    ·skip
     refine aI rfl ?_
     refine bF 4 rfl rfl ?_
     refine aY (aZ (bE ?_))
     exact hQ _ _ (by omega)
   ·skip
    simp only [if_true] at hr
    refine bA (.tmp 59) rfl rfl rfl (fun h => ?_) (fun h => ?_)
    ·skip
     refine aI rfl ?_
     refine aQ rfl ?_
     refine aB ?_
     refine aR 5 rfl rfl ?_
     refine aC (Γ := aL) [0, 1, 9, 10] (aD _ _) rfl rfl rfl (fun K hK => ?_)
     simp (disch := omega) only [Tryz.f95, go_sem, Nat.reduceAdd, ↓reduceIte, ej1]
     refine hK _ ?_
     refine bU (bT ?_)
     refine ⟨⟨j, _⟩, ⟨hr, by simp only; omega, by simp only; omega⟩, by simp only; omega, bD rfl rfl (Nat.le_refl _)⟩
    ·skip
     refine aI rfl ?_
     cases h
  ·skip
   have hd1 : decide ((I : Int) ≤ (j : Int)) = false := decide_eq_false (by omega)
   have hr2 : j = J2 := by
    rw [← hr]
    cases j with
    | zero => rfl
    | succ k => rw [Sort.scanDown, decide_eq_false hij, Bool.false_and]; rfl
   subst hr2
   refine aA rfl ?_
   refine aA rfl ?_
   refine bB (Γ := bC [(94, .pure true dY)]) (fun k => if k = 12 then 0 else 2) [59, 0, 1, 9, 10] bZ (aH ok99 aO) rfl rfl rfl (by kernel_rfl) (fun K hK => ?_)
   simp (disch := omega) only [Tryz.f95, go_sem, Nat.reduceAdd, reduceCtorEq, ↓reduceIte, hd1]
   refine hK _ ?_
   refine aB ?_
   refine bA (.tmp 59) rfl rfl rfl (fun h => ?_) (fun h => ?_)
   ·skip
    refine aI rfl ?_
    cases h
   ·skip
    refine aI rfl ?_
    refine bF 4 rfl rfl ?_
    refine aY (aZ (bE ?_))
    exact hQ _ _ (by omega)
def ptG : List AV → List AV → Option (AV × List AV)
 | [.os _ 0 n 1 _, .i a, .i b, .i p], xs => aK (unA xs) fun l => aN (l.length = n ∧ 0 ≤ a ∧ a < b ∧ b ≤ n ∧ 0 ≤ p ∧ p < n ∧ n ≤ 1000000) (some (.tup [.i (Sort.partition ltN l.toArray a.toNat b.toNat p.toNat).1, .b (Sort.partition ltN l.toArray a.toNat b.toNat p.toNat).2.1], cA (Sort.partition ltN l.toArray a.toNat b.toNat p.toNat).2.2))
 | _, _ => none
theorem ptG_eq (id n : Nat) (gg : Bool) (a b p : Int) (xs : List AV) : ptG [.os id 0 n 1 gg, .i a, .i b, .i p] xs = aK (unA xs) fun l => aN (l.length = n ∧ 0 ≤ a ∧ a < b ∧ b ≤ n ∧ 0 ≤ p ∧ p < n ∧ n ≤ 1000000) (some (.tup [.i (Sort.partition ltN l.toArray a.toNat b.toNat p.toNat).1, .b (Sort.partition ltN l.toArray a.toNat b.toNat p.toNat).2.1], cA (Sort.partition ltN l.toArray a.toNat b.toNat p.toNat).2.2)) := (rfl)
attribute [go_sem] ptG_eq
set_option maxHeartbeats 2000000 in
theorem pt_ok : cQ Tryz.prog GLh 96 (dP ptG) := by
 refine dN Tryz.func96 (aT rfl) ?_
 intro id off n e gg rest nx xs r ys hg
 unfold ptG at hg
 split at hg
 ·rename_i id2 n2 gg2 a0 b0 p0 heq
  simp only [List.cons.injEq, AV.os.injEq] at heq
  obtain ⟨⟨rfl, rfl, rfl, rfl, rfl⟩, rfl⟩ := heq
  replace hg := aJ hg; obtain ⟨l, hl, hg⟩ := hg
  replace hg := aP hg; obtain ⟨⟨hn, ha, hab, hbn, hp0, hpn, hbig⟩, hg⟩ := hg
  simp only [Option.some.injEq, Prod.mk.injEq] at hg; obtain ⟨rfl, rfl⟩ := hg
  have := dO hl; subst this
  obtain ⟨a, rfl⟩ := Int.eq_ofNat_of_zero_le ha
  obtain ⟨b, rfl⟩ := Int.eq_ofNat_of_zero_le (show 0 ≤ b0 by omega)
  obtain ⟨p, rfl⟩ := Int.eq_ofNat_of_zero_le hp0
  simp only [Int.toNat_natCast] at *
  obtain ⟨d, hd⟩ : ∃ d, l.toArray = d := ⟨_, rfl⟩
  have hds : d.size = n := by rw [← hd]; simpa using hn
  have hab2 : a < b := by omega
  have hbn2 : b ≤ n := by omega
  have hpn2 : p < n := by omega
  rw [hd]
  refine ⟨Nat.le_of_ble_eq_true rfl, fun hid => ?_⟩
  clear hl hn ha hab hbn hp0 hpn
  obtain ⟨R, hR⟩ : ∃ R, Sort.partition ltN d a b p = R := ⟨_, rfl⟩
  rw [hR]
  unfold Sort.partition at hR
  obtain ⟨D, hD⟩ : ∃ D, Sort.swp d a p = D := ⟨_, rfl⟩
  have hDs : D.size = n := by rw [← hD, cW]; exact hds
  have hsw : (d.setIfInBounds a d[p]!).setIfInBounds p d[a]! = D := hD
  have ea : (a : Int) + 1 = ((a + 1 : Nat) : Int) := by omega
  have eb : (b : Int) - 1 = ((b - 1 : Nat) : Int) := by omega
  obtain ⟨i2, hi2⟩ : ∃ i2, Sort.scanUp (fun x => ltN x D[a]!) D (b - 1) (a + 1) = i2 := ⟨_, rfl⟩
  have gi2 := Sort.scanUp_ge (fun x => ltN x D[a]!) D (b - 1) (a + 1)
  rw [hi2] at gi2
  obtain ⟨j2, hj2⟩ : ∃ j2, Sort.scanDown (fun x => !ltN x D[a]!) D i2 (b - 1) = j2 := ⟨_, rfl⟩
  have gj2 := Sort.scanDown_le (fun x => !ltN x D[a]!) D i2 (b - 1)
  rw [hj2] at gj2
  simp only [hD, hi2, hj2] at hR
  have han : a < n := by omega
  have hj2n : j2 < n := by omega
  refine aA rfl ?_
  refine aC (Γ := aL) [0, 1, 2, 3] (aD _ _) rfl rfl rfl (fun K hK => ?_)
  simp (disch := omega) only [Tryz.f96, go_sem, Nat.reduceAdd, ↓reduceIte]
  refine hK _ ?_
  refine aB ?_
  refine aA rfl ?_
  refine bB (Γ := aL) (fun _ => 2) [0, 1, 2] bZ (aD _ _) rfl rfl rfl (by kernel_rfl) (fun K hK => ?_)
  simp (disch := omega) only [Tryz.f96, go_sem, Nat.reduceAdd, ↓reduceIte, hsw, hds, Int.toNat_natCast]
  refine hK _ ?_
  refine aB ?_
  refine aA rfl ?_
  refine aC (Γ := aL) [0, 1, 10, 11] (aD _ _) rfl rfl rfl (fun K hK => ?_)
  simp (disch := omega) only [Tryz.f96, go_sem, Nat.reduceAdd, ↓reduceIte, ea, eb]
  refine hK _ ?_
  refine aB ?_
  refine aA rfl ?_
  refine pt_up1 hi2 hDs (by omega) han hbig (by omega) (fun n1 c1 hc1 => ?_)
  refine aB ?_
  refine aA rfl ?_
  refine pt_dn1 hj2 hDs (by omega) (by omega) han hbig hc1 (fun n2 c2 hc2 => ?_)
  refine aB ?_
  refine aA rfl ?_
  refine aA rfl ?_
  refine aC (Γ := aL) [65, 0, 1, 10, 11] (aD _ _) rfl rfl rfl (fun K hK => ?_)
  simp (disch := omega) only [Tryz.f96, go_sem, Nat.reduceAdd, ↓reduceIte]
  refine hK _ ?_
  refine aB ?_
  refine aW (.tmp 65) rfl rfl rfl (fun h => ?_) (fun h => ?_)
  ·skip
   refine aI rfl ?_
   have hij : i2 > j2 := by omega
   rw [if_pos hij] at hR
   subst hR
   have hsw2 : (D.setIfInBounds j2 D[a]!).setIfInBounds a D[j2]! = Sort.swp D j2 a := rfl
   refine aA rfl ?_
   refine bB (Γ := aL) (fun _ => 2) [11] bZ (aD _ _) rfl rfl rfl (by kernel_rfl) (fun K hK => ?_)
   simp (disch := omega) only [Tryz.f96, go_sem, Nat.reduceAdd, ↓reduceIte, hsw2, hDs, Int.toNat_natCast]
   refine hK _ ?_
   refine aB ?_
   refine aA rfl ?_
   refine aC (Γ := aL) [8, 9] (aD _ _) rfl rfl rfl (fun K hK => ?_)
   simp (disch := omega) only [Tryz.f96, go_sem, Nat.reduceAdd, ↓reduceIte]
   refine hK _ ?_
   refine aB ?_
   refine aS rfl ?_
   refine bI ?_
   exact ⟨rfl, by simp only [aV, if_true], rfl, dZ _⟩
  ·skip
   refine aI rfl ?_
   have hij : ¬ i2 > j2 := by omega
   rw [if_neg hij] at hR
   have hi2n : i2 < n := by omega
   have hsw2 : (D.setIfInBounds i2 D[j2]!).setIfInBounds j2 D[i2]! = Sort.swp D i2 j2 := rfl
   have ei : (i2 : Int) + 1 = ((i2 + 1 : Nat) : Int) := by omega
   have ej : (j2 : Int) - 1 = ((j2 - 1 : Nat) : Int) := by omega
   obtain ⟨⟨M, E⟩, hME⟩ : ∃ r, Sort.partLoop ltN a (i2 + 1) (j2 - 1) (Sort.swp D i2 j2) = r := ⟨_, rfl⟩
   simp only [hME] at hR
   subst hR
   refine aQ rfl ?_
   refine aB ?_
   refine aA rfl ?_
   refine bB (Γ := aL) (fun _ => 2) [0, 1, 10, 11] bZ (aD _ _) rfl rfl rfl (by kernel_rfl) (fun K hK => ?_)
   simp (disch := omega) only [Tryz.f96, go_sem, Nat.reduceAdd, ↓reduceIte, hsw2, hDs, Int.toNat_natCast]
   refine hK _ ?_
   refine aB ?_
   refine aA rfl ?_
   refine aC (Γ := aL) [0, 1, 10, 11] (aD _ _) rfl rfl rfl (fun K hK => ?_)
   simp (disch := omega) only [Tryz.f96, go_sem, Nat.reduceAdd, ↓reduceIte, ei]
   refine hK _ ?_
   refine aB ?_
   refine aA rfl ?_
   refine aC (Γ := aL) [0, 1, 10, 11] (aD _ _) rfl rfl rfl (fun K hK => ?_)
   simp (disch := omega) only [Tryz.f96, go_sem, Nat.reduceAdd, ↓reduceIte, ej]
   refine hK _ ?_
   refine aB ?_
   refine aA rfl ?_
   refine aR 4 rfl rfl ?_
   refine bR (fun p : SDJ => { fr := [(0, .os id 0 n 1 gg), (1, .i a), (10, .i p.k), (11, .i p.j)], hp := upd (fun _ => none) id (.cells (cA p.d) true), nx := 0, cx := p.c }) (fun p => Sort.partLoop ltN a p.k p.j p.d = (M, E) ∧ p.d.size = n ∧ a < p.k ∧ p.j < n ∧ id < p.c) (fun p => p.j + 1 - p.k) rfl ⟨⟨i2 + 1, j2 - 1, Sort.swp D i2 j2, _⟩, ⟨hME, by simp only [cW]; exact hDs, by simp only; omega, by simp only; omega, by simp only; omega⟩, bD rfl rfl (Nat.le_refl _)⟩ ?_
   rintro ⟨i, j, d1, c⟩ ⟨hr, hs1, hai, hjn, hc⟩ n0
   simp only at hr hs1 hai hjn hc ⊢
   clear hsw hsw2 ei ej
   obtain ⟨i3, hi3⟩ : ∃ i3, Sort.scanUp (fun x => ltN x d1[a]!) d1 j i = i3 := ⟨_, rfl⟩
   have gi3 := Sort.scanUp_ge (fun x => ltN x d1[a]!) d1 j i
   rw [hi3] at gi3
   obtain ⟨j3, hj3⟩ : ∃ j3, Sort.scanDown (fun x => !ltN x d1[a]!) d1 i3 j = j3 := ⟨_, rfl⟩
   have gj3 := Sort.scanDown_le (fun x => !ltN x d1[a]!) d1 i3 j
   rw [hj3] at gj3
   rw [Sort.partLoop_eq, hi3, hj3] at hr
   have hj3n : j3 < n := by omega
   refine aR 5 rfl rfl ?_
   refine aA rfl ?_
   refine pt_up2 hi3 hs1 hjn han hbig hc (fun n3 c3 hc3 => ?_)
   refine aB ?_
   refine aA rfl ?_
   refine pt_dn2 hj3 hs1 hjn (by omega) han hbig hc3 (fun n4 c4 hc4 => ?_)
   refine aB ?_
   refine aA rfl ?_
   refine aA rfl ?_
   refine aC (Γ := aL) [134, 0, 1, 10, 11] (aD _ _) rfl rfl rfl (fun K hK => ?_)
   simp (disch := omega) only [Tryz.f96, go_sem, Nat.reduceAdd, ↓reduceIte]
   refine hK _ ?_
   refine aB ?_
   refine aW (.tmp 134) rfl rfl rfl (fun h => ?_) (fun h => ?_)
   ·skip
    refine aI rfl ?_
    have hij3 : i3 > j3 := by omega
    rw [if_pos hij3] at hr
    simp only [Prod.mk.injEq] at hr
    obtain ⟨rfl, rfl⟩ := hr
    have hsw3 : (d1.setIfInBounds j3 d1[a]!).setIfInBounds a d1[j3]! = Sort.swp d1 j3 a := rfl
    refine bF 4 rfl rfl ?_
    refine aY (nx_ex_out (aZ (bE ?_)) rfl)
    refine aB ?_
    refine aA rfl ?_
    refine bB (Γ := aL) (fun _ => 2) [11] bZ (aD _ _) rfl rfl rfl (by kernel_rfl) (fun K hK => ?_)
    simp (disch := omega) only [Tryz.f96, go_sem, Nat.reduceAdd, ↓reduceIte, hsw3, hs1, Int.toNat_natCast]
    refine hK _ ?_
    refine aB ?_
    refine aA rfl ?_
    refine aC (Γ := aL) [8, 9] (aD _ _) rfl rfl rfl (fun K hK => ?_)
    simp (disch := omega) only [Tryz.f96, go_sem, Nat.reduceAdd, ↓reduceIte]
    refine hK _ ?_
    refine aB ?_
    refine aS rfl ?_
    exact ⟨rfl, by simp only [aV, if_true], rfl, dZ _⟩
   ·skip
    refine aI rfl ?_
    have hij3 : ¬ i3 > j3 := by omega
    rw [if_neg hij3] at hr
    have hi3n : i3 < n := by omega
    have hsw3 : (d1.setIfInBounds i3 d1[j3]!).setIfInBounds j3 d1[i3]! = Sort.swp d1 i3 j3 := rfl
    have ej3 : (j3 : Int) - 1 = ((j3 - 1 : Nat) : Int) := by omega
    refine aQ rfl ?_
    refine aB ?_
    refine aA rfl ?_
    refine bB (Γ := aL) (fun _ => 2) [0, 1, 10, 11] bZ (aD _ _) rfl rfl rfl (by kernel_rfl) (fun K hK => ?_)
    simp (disch := omega) only [Tryz.f96, go_sem, Nat.reduceAdd, ↓reduceIte, hsw3, hs1, Int.toNat_natCast]
    refine hK _ ?_
    refine aB ?_
    refine aA rfl ?_
    refine aC (Γ := aL) [0, 1, 10, 11] (aD _ _) rfl rfl rfl (fun K hK => ?_)
    simp (disch := omega) only [Tryz.f96, go_sem, Nat.reduceAdd, ↓reduceIte]
    refine hK _ ?_
    refine aB ?_
    refine aC (Γ := aL) [0, 1, 10, 11] (aD _ _) rfl rfl rfl (fun K hK => ?_)
    simp (disch := omega) only [Tryz.f96, go_sem, Nat.reduceAdd, ↓reduceIte, ej3]
    refine hK _ ?_
    refine bU (bT ?_)
    refine ⟨⟨i3 + 1, j3 - 1, Sort.swp d1 i3 j3, _⟩, ⟨hr, by simp only [cW]; exact hs1, by simp only; omega, by simp only; omega, by simp only; omega⟩, by simp only; omega, ⟨fun _ => .inr (by simp only [Int.natCast_add, Int.natCast_one]), bS (by simp (disch := omega) only [aV, ↓reduceIte, eq_self]) cB, Nat.le_refl _⟩⟩
 ·cases hg
theorem ok101 : bX Tryz.prog GLh 96 (.heap (dP ptG)) := ⟨⟨_, Tryz.func96, rfl, rfl⟩, pt_ok⟩
def peG : List AV → List AV → Option (AV × List AV)
 | [.os _ 0 n 1 _, .i a, .i b, .i p], xs => aK (unA xs) fun l => aN (l.length = n ∧ 0 ≤ a ∧ a < b ∧ b ≤ n ∧ 0 ≤ p ∧ p < n ∧ n ≤ 1000000) (some (.i (Sort.partitionEqual ltN l.toArray a.toNat b.toNat p.toNat).1, cA (Sort.partitionEqual ltN l.toArray a.toNat b.toNat p.toNat).2))
 | _, _ => none
theorem peG_eq (id n : Nat) (gg : Bool) (a b p : Int) (xs : List AV) : peG [.os id 0 n 1 gg, .i a, .i b, .i p] xs = aK (unA xs) fun l => aN (l.length = n ∧ 0 ≤ a ∧ a < b ∧ b ≤ n ∧ 0 ≤ p ∧ p < n ∧ n ≤ 1000000) (some (.i (Sort.partitionEqual ltN l.toArray a.toNat b.toNat p.toNat).1, cA (Sort.partitionEqual ltN l.toArray a.toNat b.toNat p.toNat).2)) := (rfl)
attribute [go_sem] peG_eq
set_option maxHeartbeats 2000000 in
theorem pe_ok : cQ Tryz.prog GLh 95 (dP peG) := by
 refine dN Tryz.func95 (aT rfl) ?_
 intro id off n e gg rest nx xs r ys hg
 unfold peG at hg
 split at hg
 ·rename_i id2 n2 gg2 a0 b0 p0 heq
  simp only [List.cons.injEq, AV.os.injEq] at heq
  obtain ⟨⟨rfl, rfl, rfl, rfl, rfl⟩, rfl⟩ := heq
  replace hg := aJ hg; obtain ⟨l, hl, hg⟩ := hg
  replace hg := aP hg; obtain ⟨⟨hn, ha, hab, hbn, hp0, hpn, hbig⟩, hg⟩ := hg
  simp only [Option.some.injEq, Prod.mk.injEq] at hg; obtain ⟨rfl, rfl⟩ := hg
  have := dO hl; subst this
  obtain ⟨a, rfl⟩ := Int.eq_ofNat_of_zero_le ha
  obtain ⟨b, rfl⟩ := Int.eq_ofNat_of_zero_le (show 0 ≤ b0 by omega)
  obtain ⟨p, rfl⟩ := Int.eq_ofNat_of_zero_le hp0
  simp only [Int.toNat_natCast] at *
  obtain ⟨d, hd⟩ : ∃ d, l.toArray = d := ⟨_, rfl⟩
  have hds : d.size = n := by rw [← hd]; simpa using hn
  have hab2 : a < b := by omega
  have hbn2 : b ≤ n := by omega
  have hpn2 : p < n := by omega
  rw [hd]
  refine ⟨Nat.le_of_ble_eq_true rfl, fun hid => ?_⟩
  clear hl hn ha hab hbn hp0 hpn
  obtain ⟨⟨M, E⟩, hR⟩ : ∃ R, Sort.partitionEqual ltN d a b p = R := ⟨_, rfl⟩
  rw [hR]
  obtain ⟨D, hD⟩ : ∃ D, Sort.swp d a p = D := ⟨_, rfl⟩
  have hDs : D.size = n := by rw [← hD, cW]; exact hds
  have hsw : (d.setIfInBounds a d[p]!).setIfInBounds p d[a]! = D := hD
  have ea : (a : Int) + 1 = ((a + 1 : Nat) : Int) := by omega
  have eb : (b : Int) - 1 = ((b - 1 : Nat) : Int) := by omega
  have hME : Sort.partEqLoop ltN a (a + 1) (b - 1) D = (M, E) := by rw [← hD]; exact hR
  have han : a < n := by omega
  clear hR
  refine aA rfl ?_
  refine aC (Γ := aL) [0, 1, 2, 3] (aD _ _) rfl rfl rfl (fun K hK => ?_)
  simp (disch := omega) only [Tryz.f95, go_sem, Nat.reduceAdd, ↓reduceIte]
  refine hK _ ?_
  refine aB ?_
  refine aA rfl ?_
  refine bB (Γ := aL) (fun _ => 2) [0, 1, 2] bZ (aD _ _) rfl rfl rfl (by kernel_rfl) (fun K hK => ?_)
  simp (disch := omega) only [Tryz.f95, go_sem, Nat.reduceAdd, ↓reduceIte, hsw, hds, Int.toNat_natCast]
  refine hK _ ?_
  refine aB ?_
  refine aA rfl ?_
  refine aC (Γ := aL) [0, 1, 9, 10] (aD _ _) rfl rfl rfl (fun K hK => ?_)
  simp (disch := omega) only [Tryz.f95, go_sem, Nat.reduceAdd, ↓reduceIte, ea, eb]
  refine hK _ ?_
  refine aB ?_
  refine aA rfl ?_
  refine aR 0 rfl rfl ?_
  refine bR (fun p : SDJ => { fr := [(0, .os id 0 n 1 gg), (1, .i a), (9, .i p.k), (10, .i p.j)], hp := upd (fun _ => none) id (.cells (cA p.d) true), nx := 0, cx := p.c }) (fun p => Sort.partEqLoop ltN a p.k p.j p.d = (M, E) ∧ p.d.size = n ∧ a < p.k ∧ p.j < n ∧ id < p.c) (fun p => p.j + 1 - p.k) rfl ⟨⟨a + 1, b - 1, D, _⟩, ⟨hME, hDs, by simp only; omega, by simp only; omega, by simp only; omega⟩, bD rfl rfl (Nat.le_refl _)⟩ ?_
  rintro ⟨i, j, d1, c⟩ ⟨hr, hs1, hai, hjn, hc⟩ n0
  simp only at hr hs1 hai hjn hc ⊢
  clear hsw ea eb
  obtain ⟨i3, hi3⟩ : ∃ i3, Sort.scanUp (fun x => !ltN d1[a]! x) d1 j i = i3 := ⟨_, rfl⟩
  have gi3 := Sort.scanUp_ge (fun x => !ltN d1[a]! x) d1 j i
  rw [hi3] at gi3
  obtain ⟨j3, hj3⟩ : ∃ j3, Sort.scanDown (fun x => ltN d1[a]! x) d1 i3 j = j3 := ⟨_, rfl⟩
  have gj3 := Sort.scanDown_le (fun x => ltN d1[a]! x) d1 i3 j
  rw [hj3] at gj3
  rw [Sort.partEqLoop_eq, hi3, hj3] at hr
  have hj3n : j3 < n := by omega
  refine aR 1 rfl rfl ?_
  refine aA rfl ?_
  refine pe_up hi3 hs1 hjn han hbig hc (fun n3 c3 hc3 => ?_)
  refine aB ?_
  refine aA rfl ?_
  refine pe_dn hj3 hs1 hjn (by omega) han hbig hc3 (fun n4 c4 hc4 => ?_)
  refine aB ?_
  refine aA rfl ?_
  refine aA rfl ?_
  refine aC (Γ := aL) [64, 0, 1, 9, 10] (aD _ _) rfl rfl rfl (fun K hK => ?_)
  simp (disch := omega) only [Tryz.f95, go_sem, Nat.reduceAdd, ↓reduceIte]
  refine hK _ ?_
  refine aB ?_
  refine aW (.tmp 64) rfl rfl rfl (fun h => ?_) (fun h => ?_)
  ·skip
   refine aI rfl ?_
   have hij3 : i3 > j3 := by omega
   rw [if_pos hij3] at hr
   simp only [Prod.mk.injEq] at hr
   obtain ⟨rfl, rfl⟩ := hr
   refine bF 0 rfl rfl ?_
   refine aY (nx_ex_out (aZ (bE ?_)) rfl)
   refine aB ?_
   refine aA rfl ?_
   refine aC (Γ := aL) [8] (aD _ _) rfl rfl rfl (fun K hK => ?_)
   simp (disch := omega) only [Tryz.f95, go_sem, Nat.reduceAdd, ↓reduceIte]
   refine hK _ ?_
   refine aB ?_
   refine aS rfl ?_
   exact ⟨rfl, by simp only [aV, if_true], rfl, dZ _⟩
  ·skip
   refine aI rfl ?_
   have hij3 : ¬ i3 > j3 := by omega
   rw [if_neg hij3] at hr
   have hi3n : i3 < n := by omega
   have hsw3 : (d1.setIfInBounds i3 d1[j3]!).setIfInBounds j3 d1[i3]! = Sort.swp d1 i3 j3 := rfl
   have ej3 : (j3 : Int) - 1 = ((j3 - 1 : Nat) : Int) := by omega
   refine aQ rfl ?_
   refine aB ?_
   refine aA rfl ?_
   refine bB (Γ := aL) (fun _ => 2) [0, 1, 9, 10] bZ (aD _ _) rfl rfl rfl (by kernel_rfl) (fun K hK => ?_)
   simp (disch := omega) only [Tryz.f95, go_sem, Nat.reduceAdd, ↓reduceIte, hsw3, hs1, Int.toNat_natCast]
   refine hK _ ?_
   refine aB ?_
   refine aA rfl ?_
   refine aC (Γ := aL) [0, 1, 9, 10] (aD _ _) rfl rfl rfl (fun K hK => ?_)
   simp (disch := omega) only [Tryz.f95, go_sem, Nat.reduceAdd, ↓reduceIte]
   refine hK _ ?_
   refine aB ?_
   refine aC (Γ := aL) [0, 1, 9, 10] (aD _ _) rfl rfl rfl (fun K hK => ?_)
   simp (disch := omega) only [Tryz.f95, go_sem, Nat.reduceAdd, ↓reduceIte, ej3]
   refine hK _ ?_
   refine bU (bT ?_)
   refine ⟨⟨i3 + 1, j3 - 1, Sort.swp d1 i3 j3, _⟩, ⟨hr, by simp only [cW]; exact hs1, by simp only; omega, by simp only; omega, by simp only; omega⟩, by simp only; omega, ⟨fun _ => .inr (by simp only [Int.natCast_add, Int.natCast_one]), bS (by simp (disch := omega) only [aV, ↓reduceIte, eq_self]) cB, Nat.le_refl _⟩⟩
 ·cases hg
theorem ok100 : bX Tryz.prog GLh 95 (.heap (dP peG)) := ⟨⟨_, Tryz.func95, rfl, rfl⟩, pe_ok⟩
end Go.AX
