/-
  Sort, part E: turning a range about, breaking patterns, at numbers of 32 bits. Sort, part F: parting a range, at numbers of 32 bits. Sort, part G: sorting a little, at numbers of 32 bits. Sort, part H: the sort itself, at numbers of 32 bits. Sort, part I: the sort of a slice, at numbers of 32 bits. Keys, part uK: a map's keys, collected, at numbers of 32 bits (the kit's own walk, for ranges over a function). Keys, part uL: contracts of a map's keys, sorted, at numbers of 32 bits. Keys, part I: all keys, in order. Keys, part J: keys turned, seen, told.
-/
import Derived.Test.YthemkfbedajmpaaBD
import Derived.RangeFuncBox
import Derived.RangeFuncLeaves
import Derived.RangeFuncStops
import Derived.Lib.SlKeysI
import Derived.Sort.MapsRangeIn
import Derived.Shelf.Abstract
import Derived.WalkKit
import Derived.OwnWalkIn
import Derived.TacticsInMore
import Derived.RegionIn
import Derived.LoopNIn
import Derived.LoopIn
import Derived.Maps.AppendAt
import Derived.Test.YthemkfbedajmpaaProg
import Derived.KernelRfl
namespace Go.AX
open Go Go.Proofs

structure SDJ where
  k : Nat
  j : Nat
  d : Array T32
  c : Nat
def revG : List AV → List AV → Option (AV × List AV)
  | [.os _ 0 n 1 _, .i a, .i b], xs => obind (unA xs) fun l => guardO (l.length = n ∧ 0 ≤ a ∧ a < b ∧ b ≤ n ∧ n ≤ 1000000) (some (.tup [], cA (Sort.reverseRange l.toArray a.toNat b.toNat)))
  | _, _ => none
theorem revG_eq (id n : Nat) (gg : Bool) (a b : Int) (xs : List AV) : revG [.os id 0 n 1 gg, .i a, .i b] xs = obind (unA xs) fun l => guardO (l.length = n ∧ 0 ≤ a ∧ a < b ∧ b ≤ n ∧ n ≤ 1000000) (some (.tup [], cA (Sort.reverseRange l.toArray a.toNat b.toNat))) := (rfl)
attribute [go_sem] revG_eq
set_option maxHeartbeats 2000000 in
theorem rev_ok : HeapOK Try.prog GLh 46 (mutH revG) := by
  refine mut_of_awp Try.func46 (bodyOf_some rfl) ?_
  intro id off n e gg rest nx xs r ys hg
  unfold revG at hg
  split at hg
  · rename_i id2 n2 gg2 a0 b0 heq
    simp only [List.cons.injEq, AV.os.injEq] at heq
    obtain ⟨⟨rfl, rfl, rfl, rfl, rfl⟩, rfl⟩ := heq
    replace hg := obind_inv hg; obtain ⟨l, hl, hg⟩ := hg
    replace hg := guardO_inv hg; obtain ⟨⟨hn, ha, hab, hbn, hbig⟩, hg⟩ := hg
    simp only [Option.some.injEq, Prod.mk.injEq] at hg; obtain ⟨rfl, rfl⟩ := hg
    have := unA_inv hl; subst this
    obtain ⟨a, rfl⟩ := Int.eq_ofNat_of_zero_le ha
    obtain ⟨b, rfl⟩ := Int.eq_ofNat_of_zero_le (show 0 ≤ b0 by omega)
    simp only [Int.toNat_natCast] at *
    obtain ⟨d, hd⟩ : ∃ d, l.toArray = d := ⟨_, rfl⟩
    have hds : d.size = n := by rw [← hd]; simpa using hn
    have hab2 : a < b := by omega
    have hbn2 : b ≤ n := by omega
    rw [hd]
    refine ⟨Nat.le_of_ble_eq_true rfl, fun hid => ?_⟩
    clear hl hn ha hab hbn
    obtain ⟨R, hR⟩ : ∃ R, Sort.reverseRange d a b = R := ⟨_, rfl⟩
    have hR0 : Sort.reverseLoop a (b - 1) d = R := hR
    rw [hR]
    clear hR
    have eb : (b : Int) - 1 = ((b - 1 : Nat) : Int) := by omega
    refine awp_seqP rfl ?_
    refine awp_regP (Γ := noEnv) [0, 2, 6] (noEnv_ok _ _) rfl rfl rfl (fun K hK => ?_)
    simp (disch := omega) only [Try.f46, go_sem, Nat.reduceAdd, ↓reduceIte]
    refine hK _ ?_
    refine nx_then ?_
    refine awp_seqP rfl ?_
    refine awp_regP (Γ := noEnv) [0, 6, 7] (noEnv_ok _ _) rfl rfl rfl (fun K hK => ?_)
    simp (disch := omega) only [Try.f46, go_sem, Nat.reduceAdd, ↓reduceIte, eb]
    refine hK _ ?_
    refine nx_then ?_
    refine awp_blockN 0 rfl rfl ?_
    refine awp_loopP (fun p : SDJ => { fr := [(0, .os id 0 n 1 gg), (6, .i p.k), (7, .i p.j)], hp := upd (fun _ => none) id (.cells (cA p.d) true), nx := 0, cx := p.c }) (fun p => Sort.reverseLoop p.k p.j p.d = R ∧ p.d.size = n ∧ p.j < n ∧ id < p.c) (fun p => p.j - p.k) rfl ⟨⟨a, b - 1, d, _⟩, ⟨hR0, hds, by simp only; omega, by simp only; omega⟩, sub_same rfl rfl (Nat.le_refl _)⟩ ?_
    rintro ⟨k, j, d1, c⟩ ⟨hr1, hs1, hj, hc⟩ n0
    simp only at hr1 hs1 hj hc ⊢
    refine awp_seqP rfl ?_
    refine awp_seqP rfl ?_
    refine awp_regP (Γ := noEnv) [13, 0, 6, 7] (noEnv_ok _ _) rfl rfl rfl (fun K hK => ?_)
    simp (disch := omega) only [Try.f46, go_sem, Nat.reduceAdd, ↓reduceIte]
    refine hK _ ?_
    refine nx_then ?_
    refine awp_ifD (.tmp 13) rfl rfl rfl (fun h => ?_) (fun h => ?_)
    · skip
      refine awp_drop rfl ?_
      have hkj : k < j := by omega
      rw [Sort.reverseLoop, if_pos hkj] at hr1
      have hkn : k < n := by omega
      have hsw : (d1.setIfInBounds k d1[j]!).setIfInBounds j d1[k]! = Sort.swp d1 k j := rfl
      have ej : (j : Int) - 1 = ((j - 1 : Nat) : Int) := by omega
      refine awp_skipP rfl ?_
      refine nx_then ?_
      refine awp_blockN 1 rfl rfl ?_
      refine awp_seqP rfl ?_
      refine awp_drwP (Γ := noEnv) (fun _ => 2) [0, 6, 7] mixed (noEnv_ok _ _) rfl rfl rfl (by kernel_rfl) (fun K hK => ?_)
      simp (disch := omega) only [Try.f46, go_sem, Nat.reduceAdd, ↓reduceIte, hsw, Int.toNat_natCast]
      refine hK _ ?_
      refine nx_then ?_
      refine awp_seqP rfl ?_
      refine awp_regP (Γ := noEnv) [0, 6, 7] (noEnv_ok _ _) rfl rfl rfl (fun K hK => ?_)
      simp (disch := omega) only [Try.f46, go_sem, Nat.reduceAdd, ↓reduceIte]
      refine hK _ ?_
      refine nx_then ?_
      refine awp_regP (Γ := noEnv) [0, 6, 7] (noEnv_ok _ _) rfl rfl rfl (fun K hK => ?_)
      simp (disch := omega) only [Try.f46, go_sem, Nat.reduceAdd, ↓reduceIte, ej]
      refine hK _ ?_
      refine nx_blk (nx_loop ?_)
      refine ⟨⟨k + 1, j - 1, Sort.swp d1 k j, _⟩, ⟨hr1, by simp only [swp_size]; exact hs1, by simp only; omega, by simp only; omega⟩, by simp only; omega, ⟨fun _ => .inr (by simp only [Int.natCast_add, Int.natCast_one]), hsub_cons (by simp (disch := omega) only [up_app, ↓reduceIte, eq_self]) hsub_nil, Nat.le_refl _⟩⟩
    · skip
      refine awp_drop rfl ?_
      refine awp_exitN 0 rfl rfl ?_
      refine nx_ex_then (nx_ex_loop (nx_ex_blk ?_))
      have hkj : ¬ k < j := by omega
      rw [Sort.reverseLoop, if_neg hkj] at hr1
      subst hr1
      exact ⟨rfl, by simp only [up_app, if_true], rfl, cA_nm _⟩
  · cases hg
theorem oku97 : EntOK Try.prog GLh 46 (.heap (mutH revG)) := ⟨⟨_, Try.func46, rfl, rfl⟩, rev_ok⟩

def one64 : List AV → Option (BitVec 64)
  | [.w64 s] => some s
  | _ => none
theorem one64_eq (s : BitVec 64) : one64 [.w64 s] = some s := (rfl)
theorem one64_inv {xs : List AV} {s : BitVec 64} (h : one64 xs = some s) : xs = [.w64 s] := by
  unfold one64 at h
  split at h
  · obtain rfl := Option.some.inj h; rfl
  · cases h
def xs64 (x : BitVec 64) : BitVec 64 := (Sort.xorNext (.ofBitVec x)).toBitVec
def nxtH : List AV → H → Nat → Option (AV × H × Nat)
  | [.op q 0], hp, nx => obind (hp q) fun o2 => obind (rowO o2) fun ys => obind (one64 ys) fun s => some (.w64 (xs64 s), upd hp q (.cells [.w64 (xs64 s)] true), nx + 60)
  | _, _, _ => none
theorem nxtH_eq (q : Nat) (hp : H) (nx : Nat) : nxtH [.op q 0] hp nx = obind (hp q) fun o2 => obind (rowO o2) fun ys => obind (one64 ys) fun s => some (.w64 (xs64 s), upd hp q (.cells [.w64 (xs64 s)] true), nx + 60) := (rfl)
attribute [go_sem] nxtH_eq one64_eq
set_option maxHeartbeats 1000000 in
theorem nxt_ok : HeapOK Try.prog GLh 55 nxtH := by
  refine heap_of_awp Try.func55 (bodyOf_some rfl) ?_
  intro args hp nx r hp' nx' hg
  unfold nxtH at hg
  split at hg
  · rename_i hp0 nx0 q
    replace hg := obind_inv hg; obtain ⟨o2, ho2, hg⟩ := hg
    replace hg := obind_inv hg; obtain ⟨ys, hys, hg⟩ := hg
    obtain rfl := rowO_inv hys
    replace hg := obind_inv hg; obtain ⟨s0, hs0, hg⟩ := hg
    obtain rfl := one64_inv hs0
    simp only [Option.some.injEq, Prod.mk.injEq] at hg; obtain ⟨rfl, rfl, rfl⟩ := hg
    refine ⟨Nat.le_of_ble_eq_true rfl, by omega, fun hnone => ?_⟩
    have hqn : q < nx := by
      apply Classical.byContradiction; intro hc; rw [hnone q (by omega)] at ho2; cases ho2
    refine awp_seqP rfl ?_
    refine awp_regP (Γ := noEnv) [0] (noEnv_ok _ _) rfl rfl rfl (fun K hK => ?_)
    simp (disch := omega) only [Try.f55, go_sem, Int.reduceLE, Int.reduceLT, BitVec.reduceOfInt, ↓reduceIte]
    refine hK _ ?_
    refine nx_then ?_
    refine awp_seqP rfl ?_
    refine awp_drwP (Γ := noEnv) (fun _ => 2) [0] mixed (noEnv_ok _ _) rfl rfl rfl (by kernel_rfl) (fun K hK => ?_)
    simp (disch := omega) only [Try.f55, go_sem, Nat.reduceAdd, Nat.reduceLeDiff, Int.reduceLE, Int.reduceLT, BitVec.reduceOfInt, BitVec.reduceToNat, ↓reduceIte, ho2]
    refine hK _ ?_
    refine nx_then ?_
    refine awp_seqP rfl ?_
    refine awp_drwP (Γ := noEnv) (fun _ => 2) [0] mixed (noEnv_ok _ _) rfl rfl rfl (by kernel_rfl) (fun K hK => ?_)
    simp (disch := omega) only [Try.f55, go_sem, Nat.reduceAdd, Nat.reduceLeDiff, Int.reduceLE, Int.reduceLT, BitVec.reduceOfInt, BitVec.reduceToNat, ↓reduceIte]
    refine hK _ ?_
    refine nx_then ?_
    refine awp_seqP rfl ?_
    refine awp_drwP (Γ := noEnv) (fun _ => 2) [0] mixed (noEnv_ok _ _) rfl rfl rfl (by kernel_rfl) (fun K hK => ?_)
    simp (disch := omega) only [Try.f55, go_sem, Nat.reduceAdd, Nat.reduceLeDiff, Int.reduceLE, Int.reduceLT, BitVec.reduceOfInt, BitVec.reduceToNat, ↓reduceIte]
    refine hK _ ?_
    refine nx_then ?_
    refine awp_seqP rfl ?_
    refine awp_regP (Γ := noEnv) [2] (noEnv_ok _ _) rfl rfl rfl (fun K hK => ?_)
    simp (disch := omega) only [Try.f55, go_sem, Nat.reduceAdd, ↓reduceIte]
    refine hK _ ?_
    refine nx_then ?_
    refine awp_retP rfl ?_
    refine ⟨rfl, hsub_up (by simp only [up_app, if_true]; rfl) (fun j hj => by simp only [up_app, if_neg hj]), by simp only; omega⟩
  · cases hg
theorem oku106 : EntOK Try.prog GLh 55 (.heap nxtH) := ⟨⟨_, Try.func55, rfl, rfl⟩, nxt_ok⟩

def L8 : List B8 := [0#8, 1#8, 2#8, 2#8, 3#8, 3#8, 3#8, 3#8, 4#8, 4#8, 4#8, 4#8, 4#8, 4#8, 4#8, 4#8, 5#8, 5#8, 5#8, 5#8, 5#8, 5#8, 5#8, 5#8, 5#8, 5#8, 5#8, 5#8, 5#8, 5#8, 5#8, 5#8, 6#8, 6#8, 6#8, 6#8, 6#8, 6#8, 6#8, 6#8, 6#8, 6#8, 6#8, 6#8, 6#8, 6#8, 6#8, 6#8, 6#8, 6#8, 6#8, 6#8, 6#8, 6#8, 6#8, 6#8, 6#8, 6#8, 6#8, 6#8, 6#8, 6#8, 6#8, 6#8, 7#8, 7#8, 7#8, 7#8, 7#8, 7#8, 7#8, 7#8, 7#8, 7#8, 7#8, 7#8, 7#8, 7#8, 7#8, 7#8, 7#8, 7#8, 7#8, 7#8, 7#8, 7#8, 7#8, 7#8, 7#8, 7#8, 7#8, 7#8, 7#8, 7#8, 7#8, 7#8, 7#8, 7#8, 7#8, 7#8, 7#8, 7#8, 7#8, 7#8, 7#8, 7#8, 7#8, 7#8, 7#8, 7#8, 7#8, 7#8, 7#8, 7#8, 7#8, 7#8, 7#8, 7#8, 7#8, 7#8, 7#8, 7#8, 7#8, 7#8, 7#8, 7#8, 7#8, 7#8, 8#8, 8#8, 8#8, 8#8, 8#8, 8#8, 8#8, 8#8, 8#8, 8#8, 8#8, 8#8, 8#8, 8#8, 8#8, 8#8, 8#8, 8#8, 8#8, 8#8, 8#8, 8#8, 8#8, 8#8, 8#8, 8#8, 8#8, 8#8, 8#8, 8#8, 8#8, 8#8, 8#8, 8#8, 8#8, 8#8, 8#8, 8#8, 8#8, 8#8, 8#8, 8#8, 8#8, 8#8, 8#8, 8#8, 8#8, 8#8, 8#8, 8#8, 8#8, 8#8, 8#8, 8#8, 8#8, 8#8, 8#8, 8#8, 8#8, 8#8, 8#8, 8#8, 8#8, 8#8, 8#8, 8#8, 8#8, 8#8, 8#8, 8#8, 8#8, 8#8, 8#8, 8#8, 8#8, 8#8, 8#8, 8#8, 8#8, 8#8, 8#8, 8#8, 8#8, 8#8, 8#8, 8#8, 8#8, 8#8, 8#8, 8#8, 8#8, 8#8, 8#8, 8#8, 8#8, 8#8, 8#8, 8#8, 8#8, 8#8, 8#8, 8#8, 8#8, 8#8, 8#8, 8#8, 8#8, 8#8, 8#8, 8#8, 8#8, 8#8, 8#8, 8#8, 8#8, 8#8, 8#8, 8#8, 8#8, 8#8, 8#8, 8#8, 8#8, 8#8, 8#8, 8#8, 8#8, 8#8]
set_option maxRecDepth 10000 in
theorem L8_s : ofV (Value.string ⟨((([0, 1, 2, 2, 3, 3, 3, 3, 4, 4, 4, 4, 4, 4, 4, 4, 5, 5, 5, 5, 5, 5, 5, 5, 5, 5, 5, 5, 5, 5, 5, 5, 6, 6, 6, 6, 6, 6, 6, 6, 6, 6, 6, 6, 6, 6, 6, 6, 6, 6, 6, 6, 6, 6, 6, 6, 6, 6, 6, 6, 6, 6, 6, 6] : List UInt8).append [7, 7, 7, 7, 7, 7, 7, 7, 7, 7, 7, 7, 7, 7, 7, 7, 7, 7, 7, 7, 7, 7, 7, 7, 7, 7, 7, 7, 7, 7, 7, 7, 7, 7, 7, 7, 7, 7, 7, 7, 7, 7, 7, 7, 7, 7, 7, 7, 7, 7, 7, 7, 7, 7, 7, 7, 7, 7, 7, 7, 7, 7, 7, 7]).append (([8, 8, 8, 8, 8, 8, 8, 8, 8, 8, 8, 8, 8, 8, 8, 8, 8, 8, 8, 8, 8, 8, 8, 8, 8, 8, 8, 8, 8, 8, 8, 8, 8, 8, 8, 8, 8, 8, 8, 8, 8, 8, 8, 8, 8, 8, 8, 8, 8, 8, 8, 8, 8, 8, 8, 8, 8, 8, 8, 8, 8, 8, 8, 8] : List UInt8).append [8, 8, 8, 8, 8, 8, 8, 8, 8, 8, 8, 8, 8, 8, 8, 8, 8, 8, 8, 8, 8, 8, 8, 8, 8, 8, 8, 8, 8, 8, 8, 8, 8, 8, 8, 8, 8, 8, 8, 8, 8, 8, 8, 8, 8, 8, 8, 8, 8, 8, 8, 8, 8, 8, 8, 8, 8, 8, 8, 8, 8, 8, 8, 8])).toArray⟩) = .s L8 := by rfl
theorem L8_all : ∀ k, k < 256 → L8[k]? = some (BitVec.ofNat 8 (Sort.bitsLen k)) := by decide +kernel
theorem L8_at (x : BitVec 64) (h : x.toNat < 256) : L8[(x.setWidth 8).toNat]? = some (BitVec.ofNat 8 (Sort.bitsLen x.toNat)) := by
  rw [BitVec.toNat_setWidth, Nat.mod_eq_of_lt (by omega)]; exact L8_all _ h
theorem bits8 {n : Nat} (h : n < 256) : Sort.bitsLen n ≤ 8 := (Sort.bitsLen_le_iff n 8).2 h
theorem bits8n {n : Nat} (h : n < 256) : (BitVec.ofNat 8 (Sort.bitsLen n)).toNat = Sort.bitsLen n := by have := bits8 h; rw [BitVec.toNat_ofNat]; exact Nat.mod_eq_of_lt (by omega)

theorem bits_shift (n k : Nat) (h : 2 ^ k ≤ n) : Sort.bitsLen n = k + Sort.bitsLen (n >>> k) := by
  have e1 : ∀ j, Sort.bitsLen n ≤ k + j ↔ Sort.bitsLen (n >>> k) ≤ j := fun j => by
    rw [Sort.bitsLen_le_iff, Sort.bitsLen_le_iff, Nat.shiftRight_eq_div_pow, Nat.div_lt_iff_lt_mul (Nat.two_pow_pos k), Nat.pow_add, Nat.mul_comm]
  have h1 : k < Sort.bitsLen n := Nat.lt_of_not_le fun hc => absurd ((Sort.bitsLen_le_iff n k).1 hc) (by omega)
  have h2 := (e1 (Sort.bitsLen n - k)).1 (by omega)
  have h3 := (e1 (Sort.bitsLen (n >>> k))).2 (Nat.le_refl _)
  omega
def blenG : List AV → Option AV
  | [.w64 x] => some (.i (Sort.bitsLen x.toNat))
  | _ => none
theorem blenG_eq (x : BitVec 64) : blenG [.w64 x] = some (.i (Sort.bitsLen x.toNat)) := (rfl)
attribute [go_sem] blenG_eq
set_option maxHeartbeats 1000000 in
theorem len_ok : PureOK Try.prog GLh 52 blenG := by
  refine pure_of_awp Try.func52 (bodyOf_some rfl) ?_
  intro args r hg
  unfold blenG at hg
  split at hg
  · rename_i x
    obtain rfl := Option.some.inj hg
    refine ⟨Nat.le_of_ble_eq_true rfl, fun nx => ?_⟩
    clear hg
    refine awp_seqP rfl ?_
    refine awp_regP (Γ := noEnv) [0, 2] (noEnv_ok _ _) rfl rfl rfl (fun K hK => ?_)
    simp (disch := omega) only [Try.f52, go_sem, ↓reduceIte]
    refine hK _ ?_
    refine nx_then ?_
    refine awp_seqP rfl ?_
    refine awp_seqP rfl ?_
    refine awp_regP (Γ := noEnv) [4, 0, 2] (noEnv_ok _ _) rfl rfl rfl (fun K hK => ?_)
    simp (disch := omega) only [Try.f52, go_sem, Nat.reduceAdd, Int.reduceLE, Int.reduceLT, BitVec.reduceOfInt, ↓reduceIte]
    refine hK _ ?_
    refine nx_then ?_
    refine awp_ifD (.tmp 4) rfl rfl rfl (fun h => ?_) (fun h => ?_)
    · skip
      refine awp_drop rfl ?_
      have hk0 := bits_shift (x).toNat 32 (by have := BitVec.le_def.1 h; exact this)
      rw [← BitVec.toNat_ushiftRight] at hk0
      refine awp_seqP rfl ?_
      refine awp_regP (Γ := noEnv) [0] (noEnv_ok _ _) rfl rfl rfl (fun K hK => ?_)
      simp (disch := omega) only [Try.f52, go_sem, Nat.reduceAdd, Int.reduceLE, Int.reduceLT, BitVec.reduceOfInt, BitVec.reduceToNat, ↓reduceIte]
      refine hK _ ?_
      refine nx_then ?_
      refine awp_regP (Γ := noEnv) [0, 2] (noEnv_ok _ _) rfl rfl rfl (fun K hK => ?_)
      simp (disch := omega) only [Try.f52, go_sem, ↓reduceIte]
      refine hK _ ?_
      refine nx_then ?_
      refine awp_seqP rfl ?_
      refine awp_seqP rfl ?_
      refine awp_regP (Γ := noEnv) [8, 0, 2] (noEnv_ok _ _) rfl rfl rfl (fun K hK => ?_)
      simp (disch := omega) only [Try.f52, go_sem, Nat.reduceAdd, Int.reduceLE, Int.reduceLT, BitVec.reduceOfInt, ↓reduceIte]
      refine hK _ ?_
      refine nx_then ?_
      refine awp_ifD (.tmp 8) rfl rfl rfl (fun h => ?_) (fun h => ?_)
      · skip
        refine awp_drop rfl ?_
        have hk1 := bits_shift (x >>> 32).toNat 16 (by have := BitVec.le_def.1 h; exact this)
        rw [← BitVec.toNat_ushiftRight] at hk1
        refine awp_seqP rfl ?_
        refine awp_regP (Γ := noEnv) [0, 2] (noEnv_ok _ _) rfl rfl rfl (fun K hK => ?_)
        simp (disch := omega) only [Try.f52, go_sem, Nat.reduceAdd, Int.reduceLE, Int.reduceLT, BitVec.reduceOfInt, BitVec.reduceToNat, ↓reduceIte]
        refine hK _ ?_
        refine nx_then ?_
        refine awp_regP (Γ := noEnv) [0, 2] (noEnv_ok _ _) rfl rfl rfl (fun K hK => ?_)
        simp (disch := omega) only [Try.f52, go_sem, Nat.reduceAdd, Int.reduceAdd, ↓reduceIte]
        refine hK _ ?_
        refine nx_then ?_
        refine awp_seqP rfl ?_
        refine awp_seqP rfl ?_
        refine awp_regP (Γ := noEnv) [14, 0, 2] (noEnv_ok _ _) rfl rfl rfl (fun K hK => ?_)
        simp (disch := omega) only [Try.f52, go_sem, Nat.reduceAdd, Int.reduceLE, Int.reduceLT, BitVec.reduceOfInt, ↓reduceIte]
        refine hK _ ?_
        refine nx_then ?_
        refine awp_ifD (.tmp 14) rfl rfl rfl (fun h => ?_) (fun h => ?_)
        · skip
          refine awp_drop rfl ?_
          have hk2 := bits_shift (x >>> 32 >>> 16).toNat 8 (by have := BitVec.le_def.1 h; exact this)
          rw [← BitVec.toNat_ushiftRight] at hk2
          refine awp_seqP rfl ?_
          refine awp_regP (Γ := noEnv) [0, 2] (noEnv_ok _ _) rfl rfl rfl (fun K hK => ?_)
          simp (disch := omega) only [Try.f52, go_sem, Nat.reduceAdd, Int.reduceLE, Int.reduceLT, BitVec.reduceOfInt, BitVec.reduceToNat, ↓reduceIte]
          refine hK _ ?_
          refine nx_then ?_
          refine awp_regP (Γ := noEnv) [0, 2] (noEnv_ok _ _) rfl rfl rfl (fun K hK => ?_)
          simp (disch := omega) only [Try.f52, go_sem, Nat.reduceAdd, Int.reduceAdd, ↓reduceIte]
          refine hK _ ?_
          refine nx_then ?_
          have hx256 : (x >>> 32 >>> 16 >>> 8).toNat < 256 := by bv_omega
          have e1 := L8_at (x >>> 32 >>> 16 >>> 8) hx256
          refine awp_seqP rfl ?_
          refine awp_regP (Γ := noEnv) [2] (noEnv_ok _ _) rfl rfl rfl (fun K hK => ?_)
          simp (disch := omega) only [Try.f52, go_sem, Nat.reduceAdd, ↓reduceIte, L8_s, e1]
          refine hK _ ?_
          refine nx_then ?_
          refine awp_retP rfl ?_
          simp (disch := omega) only [pureQ, resA, resAL, resA1, Try.f52, go_sem, ↓reduceIte]
          have e2 := bits8n hx256
          refine congrArg some (congrArg AV.i ?_)
          omega
        · skip
          refine awp_drop rfl ?_
          refine awp_skipP rfl ?_
          refine nx_then ?_
          refine awp_seqP rfl ?_
          have hx256 : (x >>> 32 >>> 16).toNat < 256 := by bv_omega
          have e1 := L8_at (x >>> 32 >>> 16) hx256
          refine awp_regP (Γ := noEnv) [2] (noEnv_ok _ _) rfl rfl rfl (fun K hK => ?_)
          simp (disch := omega) only [Try.f52, go_sem, Nat.reduceAdd, ↓reduceIte, L8_s, e1]
          refine hK _ ?_
          refine nx_then ?_
          refine awp_retP rfl ?_
          simp (disch := omega) only [pureQ, resA, resAL, resA1, Try.f52, go_sem, ↓reduceIte]
          have e2 := bits8n hx256
          refine congrArg some (congrArg AV.i ?_)
          omega
      · skip
        refine awp_drop rfl ?_
        refine awp_skipP rfl ?_
        refine nx_then ?_
        refine awp_seqP rfl ?_
        refine awp_seqP rfl ?_
        refine awp_regP (Γ := noEnv) [14, 0, 2] (noEnv_ok _ _) rfl rfl rfl (fun K hK => ?_)
        simp (disch := omega) only [Try.f52, go_sem, Nat.reduceAdd, Int.reduceLE, Int.reduceLT, BitVec.reduceOfInt, ↓reduceIte]
        refine hK _ ?_
        refine nx_then ?_
        refine awp_ifD (.tmp 14) rfl rfl rfl (fun h => ?_) (fun h => ?_)
        · skip
          refine awp_drop rfl ?_
          have hk2 := bits_shift (x >>> 32).toNat 8 (by have := BitVec.le_def.1 h; exact this)
          rw [← BitVec.toNat_ushiftRight] at hk2
          refine awp_seqP rfl ?_
          refine awp_regP (Γ := noEnv) [0, 2] (noEnv_ok _ _) rfl rfl rfl (fun K hK => ?_)
          simp (disch := omega) only [Try.f52, go_sem, Nat.reduceAdd, Int.reduceLE, Int.reduceLT, BitVec.reduceOfInt, BitVec.reduceToNat, ↓reduceIte]
          refine hK _ ?_
          refine nx_then ?_
          refine awp_regP (Γ := noEnv) [0, 2] (noEnv_ok _ _) rfl rfl rfl (fun K hK => ?_)
          simp (disch := omega) only [Try.f52, go_sem, Nat.reduceAdd, Int.reduceAdd, ↓reduceIte]
          refine hK _ ?_
          refine nx_then ?_
          have hx256 : (x >>> 32 >>> 8).toNat < 256 := by bv_omega
          have e1 := L8_at (x >>> 32 >>> 8) hx256
          refine awp_seqP rfl ?_
          refine awp_regP (Γ := noEnv) [2] (noEnv_ok _ _) rfl rfl rfl (fun K hK => ?_)
          simp (disch := omega) only [Try.f52, go_sem, Nat.reduceAdd, ↓reduceIte, L8_s, e1]
          refine hK _ ?_
          refine nx_then ?_
          refine awp_retP rfl ?_
          simp (disch := omega) only [pureQ, resA, resAL, resA1, Try.f52, go_sem, ↓reduceIte]
          have e2 := bits8n hx256
          refine congrArg some (congrArg AV.i ?_)
          omega
        · skip
          refine awp_drop rfl ?_
          refine awp_skipP rfl ?_
          refine nx_then ?_
          refine awp_seqP rfl ?_
          have hx256 : (x >>> 32).toNat < 256 := by bv_omega
          have e1 := L8_at (x >>> 32) hx256
          refine awp_regP (Γ := noEnv) [2] (noEnv_ok _ _) rfl rfl rfl (fun K hK => ?_)
          simp (disch := omega) only [Try.f52, go_sem, Nat.reduceAdd, ↓reduceIte, L8_s, e1]
          refine hK _ ?_
          refine nx_then ?_
          refine awp_retP rfl ?_
          simp (disch := omega) only [pureQ, resA, resAL, resA1, Try.f52, go_sem, ↓reduceIte]
          have e2 := bits8n hx256
          refine congrArg some (congrArg AV.i ?_)
          omega
    · skip
      refine awp_drop rfl ?_
      refine awp_skipP rfl ?_
      refine nx_then ?_
      refine awp_seqP rfl ?_
      refine awp_seqP rfl ?_
      refine awp_regP (Γ := noEnv) [8, 0, 2] (noEnv_ok _ _) rfl rfl rfl (fun K hK => ?_)
      simp (disch := omega) only [Try.f52, go_sem, Nat.reduceAdd, Int.reduceLE, Int.reduceLT, BitVec.reduceOfInt, ↓reduceIte]
      refine hK _ ?_
      refine nx_then ?_
      refine awp_ifD (.tmp 8) rfl rfl rfl (fun h => ?_) (fun h => ?_)
      · skip
        refine awp_drop rfl ?_
        have hk1 := bits_shift (x).toNat 16 (by have := BitVec.le_def.1 h; exact this)
        rw [← BitVec.toNat_ushiftRight] at hk1
        refine awp_seqP rfl ?_
        refine awp_regP (Γ := noEnv) [0, 2] (noEnv_ok _ _) rfl rfl rfl (fun K hK => ?_)
        simp (disch := omega) only [Try.f52, go_sem, Nat.reduceAdd, Int.reduceLE, Int.reduceLT, BitVec.reduceOfInt, BitVec.reduceToNat, ↓reduceIte]
        refine hK _ ?_
        refine nx_then ?_
        refine awp_regP (Γ := noEnv) [0, 2] (noEnv_ok _ _) rfl rfl rfl (fun K hK => ?_)
        simp (disch := omega) only [Try.f52, go_sem, Nat.reduceAdd, Int.reduceAdd, ↓reduceIte]
        refine hK _ ?_
        refine nx_then ?_
        refine awp_seqP rfl ?_
        refine awp_seqP rfl ?_
        refine awp_regP (Γ := noEnv) [14, 0, 2] (noEnv_ok _ _) rfl rfl rfl (fun K hK => ?_)
        simp (disch := omega) only [Try.f52, go_sem, Nat.reduceAdd, Int.reduceLE, Int.reduceLT, BitVec.reduceOfInt, ↓reduceIte]
        refine hK _ ?_
        refine nx_then ?_
        refine awp_ifD (.tmp 14) rfl rfl rfl (fun h => ?_) (fun h => ?_)
        · skip
          refine awp_drop rfl ?_
          have hk2 := bits_shift (x >>> 16).toNat 8 (by have := BitVec.le_def.1 h; exact this)
          rw [← BitVec.toNat_ushiftRight] at hk2
          refine awp_seqP rfl ?_
          refine awp_regP (Γ := noEnv) [0, 2] (noEnv_ok _ _) rfl rfl rfl (fun K hK => ?_)
          simp (disch := omega) only [Try.f52, go_sem, Nat.reduceAdd, Int.reduceLE, Int.reduceLT, BitVec.reduceOfInt, BitVec.reduceToNat, ↓reduceIte]
          refine hK _ ?_
          refine nx_then ?_
          refine awp_regP (Γ := noEnv) [0, 2] (noEnv_ok _ _) rfl rfl rfl (fun K hK => ?_)
          simp (disch := omega) only [Try.f52, go_sem, Nat.reduceAdd, Int.reduceAdd, ↓reduceIte]
          refine hK _ ?_
          refine nx_then ?_
          have hx256 : (x >>> 16 >>> 8).toNat < 256 := by bv_omega
          have e1 := L8_at (x >>> 16 >>> 8) hx256
          refine awp_seqP rfl ?_
          refine awp_regP (Γ := noEnv) [2] (noEnv_ok _ _) rfl rfl rfl (fun K hK => ?_)
          simp (disch := omega) only [Try.f52, go_sem, Nat.reduceAdd, ↓reduceIte, L8_s, e1]
          refine hK _ ?_
          refine nx_then ?_
          refine awp_retP rfl ?_
          simp (disch := omega) only [pureQ, resA, resAL, resA1, Try.f52, go_sem, ↓reduceIte]
          have e2 := bits8n hx256
          refine congrArg some (congrArg AV.i ?_)
          omega
        · skip
          refine awp_drop rfl ?_
          refine awp_skipP rfl ?_
          refine nx_then ?_
          refine awp_seqP rfl ?_
          have hx256 : (x >>> 16).toNat < 256 := by bv_omega
          have e1 := L8_at (x >>> 16) hx256
          refine awp_regP (Γ := noEnv) [2] (noEnv_ok _ _) rfl rfl rfl (fun K hK => ?_)
          simp (disch := omega) only [Try.f52, go_sem, Nat.reduceAdd, ↓reduceIte, L8_s, e1]
          refine hK _ ?_
          refine nx_then ?_
          refine awp_retP rfl ?_
          simp (disch := omega) only [pureQ, resA, resAL, resA1, Try.f52, go_sem, ↓reduceIte]
          have e2 := bits8n hx256
          refine congrArg some (congrArg AV.i ?_)
          omega
      · skip
        refine awp_drop rfl ?_
        refine awp_skipP rfl ?_
        refine nx_then ?_
        refine awp_seqP rfl ?_
        refine awp_seqP rfl ?_
        refine awp_regP (Γ := noEnv) [14, 0, 2] (noEnv_ok _ _) rfl rfl rfl (fun K hK => ?_)
        simp (disch := omega) only [Try.f52, go_sem, Nat.reduceAdd, Int.reduceLE, Int.reduceLT, BitVec.reduceOfInt, ↓reduceIte]
        refine hK _ ?_
        refine nx_then ?_
        refine awp_ifD (.tmp 14) rfl rfl rfl (fun h => ?_) (fun h => ?_)
        · skip
          refine awp_drop rfl ?_
          have hk2 := bits_shift (x).toNat 8 (by have := BitVec.le_def.1 h; exact this)
          rw [← BitVec.toNat_ushiftRight] at hk2
          refine awp_seqP rfl ?_
          refine awp_regP (Γ := noEnv) [0, 2] (noEnv_ok _ _) rfl rfl rfl (fun K hK => ?_)
          simp (disch := omega) only [Try.f52, go_sem, Nat.reduceAdd, Int.reduceLE, Int.reduceLT, BitVec.reduceOfInt, BitVec.reduceToNat, ↓reduceIte]
          refine hK _ ?_
          refine nx_then ?_
          refine awp_regP (Γ := noEnv) [0, 2] (noEnv_ok _ _) rfl rfl rfl (fun K hK => ?_)
          simp (disch := omega) only [Try.f52, go_sem, Nat.reduceAdd, Int.reduceAdd, ↓reduceIte]
          refine hK _ ?_
          refine nx_then ?_
          have hx256 : (x >>> 8).toNat < 256 := by bv_omega
          have e1 := L8_at (x >>> 8) hx256
          refine awp_seqP rfl ?_
          refine awp_regP (Γ := noEnv) [2] (noEnv_ok _ _) rfl rfl rfl (fun K hK => ?_)
          simp (disch := omega) only [Try.f52, go_sem, Nat.reduceAdd, ↓reduceIte, L8_s, e1]
          refine hK _ ?_
          refine nx_then ?_
          refine awp_retP rfl ?_
          simp (disch := omega) only [pureQ, resA, resAL, resA1, Try.f52, go_sem, ↓reduceIte]
          have e2 := bits8n hx256
          refine congrArg some (congrArg AV.i ?_)
          omega
        · skip
          refine awp_drop rfl ?_
          refine awp_skipP rfl ?_
          refine nx_then ?_
          refine awp_seqP rfl ?_
          have hx256 : (x).toNat < 256 := by bv_omega
          have e1 := L8_at (x) hx256
          refine awp_regP (Γ := noEnv) [2] (noEnv_ok _ _) rfl rfl rfl (fun K hK => ?_)
          simp (disch := omega) only [Try.f52, go_sem, Nat.reduceAdd, ↓reduceIte, L8_s, e1]
          refine hK _ ?_
          refine nx_then ?_
          refine awp_retP rfl ?_
          simp (disch := omega) only [pureQ, resA, resAL, resA1, Try.f52, go_sem, ↓reduceIte]
          have e2 := bits8n hx256
          refine congrArg some (congrArg AV.i ?_)
          omega
  · cases hg
theorem oku103 : EntOK Try.prog GLh 52 (.pure true blenG) := ⟨⟨_, Try.func52, rfl, rfl⟩, len_ok⟩

set_option maxHeartbeats 1000000 in
theorem blen_ok : PureOK Try.prog GLh 40 blenG := by
  refine pure_of_awp Try.func40 (bodyOf_some rfl) ?_
  intro args r hg
  unfold blenG at hg
  split at hg
  · rename_i x
    obtain rfl := Option.some.inj hg
    refine ⟨Nat.le_of_ble_eq_true rfl, fun nx => ?_⟩
    refine awp_seqP rfl ?_
    refine awp_regP (Γ := noEnv) [0] (noEnv_ok _ _) rfl rfl rfl (fun K hK => ?_)
    simp (disch := omega) only [Try.f40, go_sem, ↓reduceIte]
    refine hK _ ?_
    refine nx_then ?_
    refine awp_seqP rfl ?_
    refine awp_ifB _ rfl rfl rfl (fun h => ?_) (fun h => ?_)
    · skip
      cases h
    · skip
      refine awp_skipP rfl ?_
      refine nx_then ?_
      refine awp_seqP rfl ?_
      refine awp_regP (Γ := envL [(52, .pure true blenG)]) [2] (envOK_cons oku103 envOK_nil) rfl rfl rfl (fun K hK => ?_)
      simp (disch := omega) only [Try.f40, go_sem, Nat.reduceAdd, ↓reduceIte]
      refine hK _ ?_
      refine nx_then ?_
      refine awp_retP rfl ?_
      simp (disch := omega) only [pureQ, resA, resAL, resA1, Try.f40, go_sem, ↓reduceIte]
  · cases hg
theorem oku92 : EntOK Try.prog GLh 40 (.pure true blenG) := ⟨⟨_, Try.func40, rfl, rfl⟩, blen_ok⟩
def npG : List AV → Option AV
  | [.i n] => guardO (0 ≤ n ∧ n ≤ 1000000) (some (.w64 (1#64 <<< Sort.bitsLen n.toNat)))
  | _ => none
theorem npG_eq (n : Int) : npG [.i n] = guardO (0 ≤ n ∧ n ≤ 1000000) (some (.w64 (1#64 <<< Sort.bitsLen n.toNat))) := (rfl)
attribute [go_sem] npG_eq
theorem bits20 {n : Nat} (h : n ≤ 1000000) : Sort.bitsLen n ≤ 20 := (Sort.bitsLen_le_iff n 20).2 (by omega)
theorem ofI_nat {n : Nat} (h : n ≤ 1000000) : (BitVec.ofInt 64 (n : Int)).toNat = n := by
  rw [BitVec.toNat_ofInt]; omega

set_option maxHeartbeats 1000000 in
theorem np_ok : PureOK Try.prog GLh 54 npG := by
  refine pure_of_awp Try.func54 (bodyOf_some rfl) ?_
  intro args r hg
  unfold npG at hg
  split at hg
  · rename_i n0
    replace hg := guardO_inv hg; obtain ⟨⟨hn, hbig⟩, hg⟩ := hg
    obtain rfl := Option.some.inj hg
    obtain ⟨n, rfl⟩ := Int.eq_ofNat_of_zero_le hn
    simp only [Int.toNat_natCast] at *
    have hbn : n ≤ 1000000 := by omega
    have h20 := bits20 hbn
    have e1 := ofI_nat hbn
    refine ⟨Nat.le_of_ble_eq_true rfl, fun nx => ?_⟩
    refine awp_seqP rfl ?_
    refine awp_regP (Γ := noEnv) [0] (noEnv_ok _ _) rfl rfl rfl (fun K hK => ?_)
    simp (disch := omega) only [Try.f54, go_sem, Int.reduceLE, Int.reduceLT, BitVec.reduceOfInt, ↓reduceIte]
    refine hK _ ?_
    refine nx_then ?_
    refine awp_seqP rfl ?_
    refine awp_regP (Γ := envL [(40, .pure true blenG)]) [2] (envOK_cons oku92 envOK_nil) rfl rfl rfl (fun K hK => ?_)
    simp (disch := omega) only [Try.f54, go_sem, Nat.reduceAdd, Int.reduceLE, Int.reduceLT, BitVec.reduceOfInt, ↓reduceIte, e1, Int.toNat_natCast]
    refine hK _ ?_
    refine nx_then ?_
    refine awp_retP rfl ?_
    simp (disch := omega) only [pureQ, resA, resAL, resA1, Try.f54, go_sem, ↓reduceIte]
  · cases hg
theorem oku105 : EntOK Try.prog GLh 54 (.pure true npG) := ⟨⟨_, Try.func54, rfl, rfl⟩, np_ok⟩

def brkL (a len modulus : Nat) : Nat → Nat → UInt64 × Array T32 → Array T32
  | 0, _, st => st.2
  | m + 1, idx, st => brkL a len modulus m (idx + 1) (Sort.breakStep a len modulus st idx)
theorem brk_and (x : BitVec 64) (k : Nat) (h : k ≤ 20) : (x &&& ((1#64 <<< k) - 1#64)).toNat = x.toNat &&& ((1 <<< k) - 1) := by
  have hp : 2 ^ k ≤ 2 ^ 20 := Nat.pow_le_pow_right (by decide) h
  have h0 := Nat.two_pow_pos k
  rw [BitVec.toNat_and]
  congr 1
  rw [BitVec.toNat_sub, BitVec.toNat_shiftLeft, Nat.shiftLeft_eq, Nat.shiftLeft_eq]
  simp only [BitVec.toNat_ofNat, Nat.reduceMod, Nat.reducePow, Nat.one_mul] at hp ⊢
  omega
theorem brk_le (x k n : Nat) (h : 0 < n) (hk : k = Sort.bitsLen n) : x &&& ((1 <<< k) - 1) < 2 * n := by
  have h1 := Nat.and_le_right (n := x) (m := (1 <<< k) - 1)
  have h2 := Sort.two_pow_bitsLen_le h
  have h0 := Nat.two_pow_pos k
  rw [Nat.shiftLeft_eq, Nat.one_mul] at h1 ⊢
  rw [hk] at *
  omega
structure SDR where
  m : Nat
  i : Nat
  r : BitVec 64
  d : Array T32
  c : Nat
def brkG : List AV → List AV → Option (AV × List AV)
  | [.os _ 0 n 1 _, .i a, .i b], xs => obind (unA xs) fun l => guardO (l.length = n ∧ 0 ≤ a ∧ a < b ∧ b ≤ n ∧ n ≤ 1000000) (some (.tup [], cA (Sort.breakPatterns l.toArray a.toNat b.toNat)))
  | _, _ => none
theorem brkG_eq (id n : Nat) (gg : Bool) (a b : Int) (xs : List AV) : brkG [.os id 0 n 1 gg, .i a, .i b] xs = obind (unA xs) fun l => guardO (l.length = n ∧ 0 ≤ a ∧ a < b ∧ b ≤ n ∧ n ≤ 1000000) (some (.tup [], cA (Sort.breakPatterns l.toArray a.toNat b.toNat))) := (rfl)
attribute [go_sem] brkG_eq
set_option maxHeartbeats 2000000 in
theorem brk_ok : HeapOK Try.prog GLh 44 (mutH brkG) := by
  refine mut_of_awp Try.func44 (bodyOf_some rfl) ?_
  intro id off n e gg rest nx xs r ys hg
  unfold brkG at hg
  split at hg
  · rename_i id2 n2 gg2 a0 b0 heq
    simp only [List.cons.injEq, AV.os.injEq] at heq
    obtain ⟨⟨rfl, rfl, rfl, rfl, rfl⟩, rfl⟩ := heq
    replace hg := obind_inv hg; obtain ⟨l, hl, hg⟩ := hg
    replace hg := guardO_inv hg; obtain ⟨⟨hn, ha, hab, hbn, hbig⟩, hg⟩ := hg
    simp only [Option.some.injEq, Prod.mk.injEq] at hg; obtain ⟨rfl, rfl⟩ := hg
    have := unA_inv hl; subst this
    obtain ⟨a, rfl⟩ := Int.eq_ofNat_of_zero_le ha
    obtain ⟨b, rfl⟩ := Int.eq_ofNat_of_zero_le (show 0 ≤ b0 by omega)
    simp only [Int.toNat_natCast] at *
    obtain ⟨d, hd⟩ : ∃ d, l.toArray = d := ⟨_, rfl⟩
    have hds : d.size = n := by rw [← hd]; simpa using hn
    have hab2 : a < b := by omega
    have hbn2 : b ≤ n := by omega
    rw [hd]
    refine ⟨Nat.le_of_ble_eq_true rfl, fun hid => ?_⟩
    clear hl hn ha hab hbn
    have eq4 : (((b : Int) - (a : Int)).tdiv 4) = (((b - a) / 4 : Nat) : Int) := by rw [Int.tdiv_eq_ediv_of_nonneg (by omega)]; omega
    obtain ⟨L, hL⟩ : ∃ L : Nat, b - a = L := ⟨_, rfl⟩
    obtain ⟨Q, hQ⟩ : ∃ Q : Nat, (b - a) / 4 = Q := ⟨_, rfl⟩
    have ebL : (b : Int) - (a : Int) = (L : Int) := by omega
    rw [ebL, hQ] at eq4
    have hQL : L / 4 = Q := by omega
    have hLb : L ≤ 1000000 := by omega
    have h20 := bits20 hLb
    obtain ⟨R, hR⟩ : ∃ R, Sort.breakPatterns d a b = R := ⟨_, rfl⟩
    rw [hR]
    refine awp_seqP rfl ?_
    refine awp_regP (Γ := noEnv) [0, 1, 6] (noEnv_ok _ _) rfl rfl rfl (fun K hK => ?_)
    simp (disch := omega) only [Try.f44, go_sem, Nat.reduceAdd, ↓reduceIte, ebL]
    refine hK _ ?_
    refine nx_then ?_
    refine awp_seqP rfl ?_
    refine awp_regP (Γ := noEnv) [15, 0, 1, 6] (noEnv_ok _ _) rfl rfl rfl (fun K hK => ?_)
    simp (disch := omega) only [Try.f44, go_sem, Nat.reduceAdd, ↓reduceIte]
    refine hK _ ?_
    refine nx_then ?_
    refine awp_ifD (.tmp 15) rfl rfl rfl (fun h => ?_) (fun h => ?_)
    · skip
      refine awp_drop rfl ?_
      have hL8 : L ≥ 8 := by omega
      have hR2 : brkL a L (1 <<< Sort.bitsLen L) 3 (a + Q * 2 - 1) (UInt64.ofNat L, d) = R := by
        rw [← hR]; unfold Sort.breakPatterns; simp only [hL, hQL, if_pos hL8]; rfl
      have ei : (a : Int) + (Q : Int) * 2 - 1 = ((a + Q * 2 - 1 : Nat) : Int) := by omega
      obtain ⟨i0, hi0⟩ : ∃ i0, a + Q * 2 - 1 = i0 := ⟨_, rfl⟩
      rw [hi0] at hR2 ei
      have ej : (a : Int) + (Q : Int) * 2 + 1 = ((i0 + 2 : Nat) : Int) := by omega
      refine awp_seqP rfl ?_
      refine awp_regP (Γ := noEnv) [0, 1, 6, 7] (noEnv_ok _ _) rfl rfl rfl (fun K hK => ?_)
      simp (disch := omega) only [Try.f44, go_sem, Nat.reduceAdd, Nat.reduceLeDiff, ↓reduceIte]
      refine hK _ ?_
      refine nx_then ?_
      refine awp_seqP rfl ?_
      refine awp_regP (Γ := envL [(54, .pure true npG)]) [0, 1, 6, 7, 8] (envOK_cons oku105 envOK_nil) rfl rfl rfl (fun K hK => ?_)
      simp (disch := omega) only [Try.f44, go_sem, Nat.reduceAdd, ↓reduceIte, Int.toNat_natCast]
      refine hK _ ?_
      refine nx_then ?_
      refine awp_seqP rfl ?_
      refine awp_regP (Γ := noEnv) [0, 1, 6, 7, 8, 9] (noEnv_ok _ _) rfl rfl rfl (fun K hK => ?_)
      simp (disch := omega) only [Try.f44, go_sem, Nat.reduceAdd, Int.reduceEq, ↓reduceIte, eq4, ei]
      refine hK _ ?_
      refine nx_then ?_
      obtain ⟨q, hq⟩ : ∃ q, nx + 4 + 2 + 2 = q := ⟨_, rfl⟩
      have hqid : id < q := by omega
      rw [hq]
      refine awp_blockN 0 rfl rfl ?_
      refine awp_loopP (fun p : SDR => { fr := [(0, .os id 0 n 1 gg), (1, .i a), (6, .i L), (7, .op q 0), (8, .w64 (1#64 <<< Sort.bitsLen L)), (9, .i p.i)], hp := upd (upd (fun _ => none) id (.cells (cA p.d) true)) q (.cells [.w64 p.r] true), nx := 0, cx := p.c }) (fun p => brkL a L (1 <<< Sort.bitsLen L) p.m p.i (.ofBitVec p.r, p.d) = R ∧ p.d.size = n ∧ p.m + p.i = i0 + 3 ∧ i0 ≤ p.i ∧ q < p.c) (fun p => p.m) rfl ⟨⟨3, i0, BitVec.ofInt 64 (L : Int), d, _⟩, ⟨by rw [← hR2]; simp only; rw [BitVec.ofInt_natCast]; rfl, hds, by simp only; omega, by simp only; omega, by simp only; omega⟩, sub_same rfl rfl (Nat.le_refl _)⟩ ?_
      rintro ⟨m, i, r, d1, c⟩ ⟨hr1, hs1, hm, hi, hc⟩ n0
      simp only at hr1 hs1 hm hi hc ⊢
      have eqq : (a : Int) + ((L : Int).tdiv 4) * 2 + 1 = ((i0 + 2 : Nat) : Int) := by rw [eq4]; exact ej
      refine awp_seqP rfl ?_
      refine awp_seqP rfl ?_
      refine awp_regP (Γ := noEnv) [33, 0, 1, 6, 7, 8, 9] (noEnv_ok _ _) rfl rfl rfl (fun K hK => ?_)
      simp (disch := omega) only [Try.f44, go_sem, Nat.reduceAdd, Int.reduceEq, ↓reduceIte, eq4, ej]
      refine hK _ ?_
      refine nx_then ?_
      refine awp_ifD (.tmp 33) rfl rfl rfl (fun h => ?_) (fun h => ?_)
      · skip
        refine awp_drop rfl ?_
        obtain ⟨m, rfl⟩ : ∃ m', m = m' + 1 := ⟨m - 1, by omega⟩
        rw [brkL] at hr1
        obtain ⟨o, ho⟩ : ∃ o, (xs64 r).toNat &&& ((1 <<< Sort.bitsLen L) - 1) = o := ⟨_, rfl⟩
        have ho2 : o < 2 * L := by rw [← ho]; exact brk_le _ _ _ (by omega) rfl
        have hst : Sort.breakStep a L (1 <<< Sort.bitsLen L) (UInt64.ofBitVec r, d1) i = (.ofBitVec (xs64 r), Sort.swp d1 i (a + if o ≥ L then o - L else o)) := by
          rw [← ho]; rfl
        rw [hst] at hr1
        have hin : i < n := by omega
        have eand : (xs64 r &&& (1#64 <<< Sort.bitsLen L - 1#64)).toNat = o := by rw [brk_and _ _ h20]; exact ho
        refine awp_skipP rfl ?_
        refine nx_then ?_
        refine awp_seqP rfl ?_
        refine awp_blockN 1 rfl rfl ?_
        refine awp_seqP rfl ?_
        refine awp_regP (Γ := envL [(55, .heap nxtH)]) [0, 1, 6, 7, 8, 9, 10] (envOK_cons oku106 envOK_nil) rfl rfl rfl (fun K hK => ?_)
        simp (disch := omega) only [Try.f44, go_sem, Nat.reduceAdd, Int.reduceLE, Int.reduceLT, BitVec.reduceOfInt, ↓reduceIte, eand]
        refine hK _ ?_
        refine nx_then ?_
        refine awp_seqP rfl ?_
        refine awp_seqP rfl ?_
        refine awp_regP (Γ := noEnv) [43, 0, 1, 6, 7, 8, 9, 10] (noEnv_ok _ _) rfl rfl rfl (fun K hK => ?_)
        simp (disch := omega) only [Try.f44, go_sem, Nat.reduceAdd, ↓reduceIte]
        refine hK _ ?_
        refine nx_then ?_
        refine awp_ifD (.tmp 43) rfl rfl rfl (fun h => ?_) (fun h => ?_)
        · skip
          refine awp_drop rfl ?_
          have hoL : o ≥ L := by omega
          rw [if_pos hoL] at hr1
          have eo : (o : Int) - (L : Int) = ((o - L : Nat) : Int) := by omega
          refine awp_regP (Γ := noEnv) [0, 1, 6, 7, 8, 9, 10] (noEnv_ok _ _) rfl rfl rfl (fun K hK => ?_)
          simp (disch := omega) only [Try.f44, go_sem, Nat.reduceAdd, ↓reduceIte, eo]
          refine hK _ ?_
          refine nx_then ?_
          obtain ⟨w, hw⟩ : ∃ w, a + (o - L) = w := ⟨_, rfl⟩
          have ew : (a : Int) + ((o - L : Nat) : Int) = (w : Int) := by omega
          have hwn : w < n := by omega
          rw [hw] at hr1
          have hsw : (d1.setIfInBounds i d1[w]!).setIfInBounds w d1[i]! = Sort.swp d1 i w := rfl
          refine awp_drwP (Γ := noEnv) (fun _ => 2) [0, 1, 6, 7, 8, 9] mixed (noEnv_ok _ _) rfl rfl rfl (by kernel_rfl) (fun K hK => ?_)
          simp (disch := omega) only [Try.f44, go_sem, Nat.reduceAdd, ↓reduceIte, ew, hsw, Int.toNat_natCast]
          refine hK _ ?_
          refine nx_blk (nx_then ?_)
          refine awp_regP (Γ := noEnv) [0, 1, 6, 7, 8, 9] (noEnv_ok _ _) rfl rfl rfl (fun K hK => ?_)
          simp (disch := omega) only [Try.f44, go_sem, Nat.reduceAdd, ↓reduceIte]
          refine hK _ ?_
          refine nx_loop ?_
          refine ⟨⟨m, i + 1, xs64 r, Sort.swp d1 i w, _⟩, ⟨hr1, by simp only [swp_size]; exact hs1, by simp only; omega, by simp only; omega, by simp only; omega⟩, by simp only; omega, ⟨fun _ => .inr (by simp only [Int.natCast_add, Int.natCast_one]), hsub_cons (by simp (disch := omega) only [up_app, nat_ne, ↓reduceIte, eq_self]) (hsub_cons (by simp (disch := omega) only [up_app, ↓reduceIte, eq_self]) hsub_nil), Nat.le_refl _⟩⟩
        · skip
          refine awp_drop rfl ?_
          have hoL : ¬ o ≥ L := by omega
          rw [if_neg hoL] at hr1
          refine awp_skipP rfl ?_
          refine nx_then ?_
          obtain ⟨w, hw⟩ : ∃ w, a + o = w := ⟨_, rfl⟩
          have ew : (a : Int) + (o : Int) = (w : Int) := by omega
          have hwn : w < n := by omega
          rw [hw] at hr1
          have hsw : (d1.setIfInBounds i d1[w]!).setIfInBounds w d1[i]! = Sort.swp d1 i w := rfl
          refine awp_drwP (Γ := noEnv) (fun _ => 2) [0, 1, 6, 7, 8, 9] mixed (noEnv_ok _ _) rfl rfl rfl (by kernel_rfl) (fun K hK => ?_)
          simp (disch := omega) only [Try.f44, go_sem, Nat.reduceAdd, ↓reduceIte, ew, hsw, Int.toNat_natCast]
          refine hK _ ?_
          refine nx_blk (nx_then ?_)
          refine awp_regP (Γ := noEnv) [0, 1, 6, 7, 8, 9] (noEnv_ok _ _) rfl rfl rfl (fun K hK => ?_)
          simp (disch := omega) only [Try.f44, go_sem, Nat.reduceAdd, ↓reduceIte]
          refine hK _ ?_
          refine nx_loop ?_
          refine ⟨⟨m, i + 1, xs64 r, Sort.swp d1 i w, _⟩, ⟨hr1, by simp only [swp_size]; exact hs1, by simp only; omega, by simp only; omega, by simp only; omega⟩, by simp only; omega, ⟨fun _ => .inr (by simp only [Int.natCast_add, Int.natCast_one]), hsub_cons (by simp (disch := omega) only [up_app, nat_ne, ↓reduceIte, eq_self]) (hsub_cons (by simp (disch := omega) only [up_app, ↓reduceIte, eq_self]) hsub_nil), Nat.le_refl _⟩⟩
      · skip
        refine awp_drop rfl ?_
        refine awp_exitN 0 rfl rfl ?_
        refine nx_ex_then (nx_ex_loop (nx_ex_blk ?_))
        obtain rfl : m = 0 := by omega
        rw [brkL] at hr1
        simp only at hr1
        subst hr1
        exact ⟨rfl, by simp (disch := omega) only [up_app, nat_ne, if_true, if_false], rfl, cA_nm _⟩
    · skip
      refine awp_drop rfl ?_
      have hL8 : ¬ L ≥ 8 := by omega
      refine awp_skipP rfl ?_
      have hR2 : d = R := by rw [← hR]; unfold Sort.breakPatterns; simp only [hL, if_neg hL8]
      subst hR2
      exact ⟨rfl, by simp only [up_app, if_true], rfl, cA_nm _⟩
  · cases hg
theorem oku95 : EntOK Try.prog GLh 44 (.heap (mutH brkG)) := ⟨⟨_, Try.func44, rfl, rfl⟩, brk_ok⟩
end Go.AX

namespace Go.AX
open Go Go.Proofs

structure SKC where
  k : Nat
  c : Nat

set_option maxHeartbeats 1000000 in
theorem pt_up1 {id n a I J I2 nx0 cx0 : Nat} {gg : Bool} {D : Array T32} {Q : Exit → S → Prop} (hI : Sort.scanUp (fun x => ltN x D[a]!) D J I = I2) (hs : D.size = n) (hJ : J < n) (ha : a < n) (hbig : n ≤ 1000000) (hid : id < cx0)
    (hQ : ∀ n1 c1, id < c1 → Q .normal { fr := [(0, .os id 0 n 1 gg), (1, .i (a : Int)), (10, .i (I2 : Int)), (11, .i (J : Int))], hp := upd (fun _ => none) id (.cells (cA D) true), nx := n1, cx := c1 }) :
    Awp Try.prog GLh Try.f50.ntmps (cl (cr (cr (cr (bodyOf Try.f50))))) { fr := [(0, .os id 0 n 1 gg), (1, .i (a : Int)), (10, .i (I : Int)), (11, .i (J : Int))], hp := upd (fun _ => none) id (.cells (cA D) true), nx := nx0, cx := cx0 } Q := by
    refine awp_blockN 0 rfl rfl ?_
    refine awp_loopP (fun q : SKC => { fr := [(0, .os id 0 n 1 gg), (1, .i a), (10, .i q.k), (11, .i J)], hp := upd (fun _ => none) id (.cells (cA D) true), nx := 0, cx := q.c }) (fun q => Sort.scanUp (fun x => ltN x D[a]!) D J q.k = I2 ∧ id < q.c) (fun q => J + 1 - q.k) rfl ⟨⟨I, _⟩, ⟨hI, hid⟩, sub_same rfl rfl (Nat.le_refl _)⟩ ?_
    rintro ⟨i, c⟩ ⟨hr, hc⟩ n0
    simp only at hr hc ⊢
    by_cases hij : i ≤ J
    · skip
      have hd1 : decide ((i : Int) ≤ (J : Int)) = true := decide_eq_true (by omega)
      have hin : i < n := by omega
      obtain ⟨v, hv⟩ : ∃ v, ltN D[i]! D[a]! = v := ⟨_, rfl⟩
      rw [Sort.scanUp, decide_eq_true hij, Bool.true_and] at hr
      simp only [hv] at hr
      refine awp_seqP rfl ?_
      refine awp_seqP rfl ?_
      refine awp_drwP (Γ := envL [(48, .pure true lessG)]) (fun k => if k = 12 then 0 else 2) [43, 0, 1, 10, 11] mixed (envOK_cons oku99 envOK_nil) rfl rfl rfl (by kernel_rfl) (fun K hK => ?_)
      simp (disch := omega) only [Try.f50, go_sem, Nat.reduceAdd, ↓reduceIte, hd1, hv, Int.toNat_natCast]
      refine hK _ ?_
      refine nx_then ?_
      cases v
      · skip
        simp only [Bool.false_eq_true, if_false] at hr
        subst hr
        refine awp_ifB (.tmp 43) rfl rfl rfl (fun h => ?_) (fun h => ?_)
        · skip
          refine awp_drop rfl ?_
          cases h
        · skip
          refine awp_drop rfl ?_
          refine awp_exitN 0 rfl rfl ?_
          refine nx_ex_then (nx_ex_loop (nx_ex_blk ?_))
          exact hQ _ _ (by omega)
      · skip
        simp only [if_true] at hr
        refine awp_ifB (.tmp 43) rfl rfl rfl (fun h => ?_) (fun h => ?_)
        · skip
          refine awp_drop rfl ?_
          refine awp_skipP rfl ?_
          refine nx_then ?_
          refine awp_blockN 1 rfl rfl ?_
          refine awp_regP (Γ := noEnv) [0, 1, 10, 11] (noEnv_ok _ _) rfl rfl rfl (fun K hK => ?_)
          simp (disch := omega) only [Try.f50, go_sem, Nat.reduceAdd, ↓reduceIte]
          refine hK _ ?_
          refine nx_blk (nx_loop ?_)
          refine ⟨⟨i + 1, _⟩, ⟨hr, by simp only; omega⟩, by simp only; omega, sub_same (by simp only [Int.natCast_add, Int.natCast_one]) rfl (Nat.le_refl _)⟩
        · skip
          refine awp_drop rfl ?_
          cases h
    · skip
      have hd1 : decide ((i : Int) ≤ (J : Int)) = false := decide_eq_false (by omega)
      rw [Sort.scanUp, decide_eq_false hij, Bool.false_and] at hr
      simp only [Bool.false_eq_true, if_false] at hr
      subst hr
      refine awp_seqP rfl ?_
      refine awp_seqP rfl ?_
      refine awp_drwP (Γ := envL [(48, .pure true lessG)]) (fun k => if k = 12 then 0 else 2) [43, 0, 1, 10, 11] mixed (envOK_cons oku99 envOK_nil) rfl rfl rfl (by kernel_rfl) (fun K hK => ?_)
      simp (disch := omega) only [Try.f50, go_sem, Nat.reduceAdd, reduceCtorEq, ↓reduceIte, hd1]
      refine hK _ ?_
      refine nx_then ?_
      refine awp_ifB (.tmp 43) rfl rfl rfl (fun h => ?_) (fun h => ?_)
      · skip
        refine awp_drop rfl ?_
        cases h
      · skip
        refine awp_drop rfl ?_
        refine awp_exitN 0 rfl rfl ?_
        refine nx_ex_then (nx_ex_loop (nx_ex_blk ?_))
        exact hQ _ _ (by omega)

set_option maxHeartbeats 1000000 in
theorem pt_dn1 {id n a I J J2 nx0 cx0 : Nat} {gg : Bool} {D : Array T32} {Q : Exit → S → Prop} (hJ2 : Sort.scanDown (fun x => !ltN x D[a]!) D I J = J2) (hs : D.size = n) (hJ : J < n) (hI1 : 0 < I) (ha : a < n) (hbig : n ≤ 1000000) (hid : id < cx0)
    (hQ : ∀ n1 c1, id < c1 → Q .normal { fr := [(0, .os id 0 n 1 gg), (1, .i (a : Int)), (10, .i (I : Int)), (11, .i (J2 : Int))], hp := upd (fun _ => none) id (.cells (cA D) true), nx := n1, cx := c1 }) :
    Awp Try.prog GLh Try.f50.ntmps (cl (cr (cr (cr (cr (bodyOf Try.f50)))))) { fr := [(0, .os id 0 n 1 gg), (1, .i (a : Int)), (10, .i (I : Int)), (11, .i (J : Int))], hp := upd (fun _ => none) id (.cells (cA D) true), nx := nx0, cx := cx0 } Q := by
    refine awp_blockN 2 rfl rfl ?_
    refine awp_loopP (fun q : SKC => { fr := [(0, .os id 0 n 1 gg), (1, .i a), (10, .i I), (11, .i q.k)], hp := upd (fun _ => none) id (.cells (cA D) true), nx := 0, cx := q.c }) (fun q => Sort.scanDown (fun x => !ltN x D[a]!) D I q.k = J2 ∧ q.k < n ∧ id < q.c) (fun q => q.k) rfl ⟨⟨J, _⟩, ⟨hJ2, hJ, hid⟩, sub_same rfl rfl (Nat.le_refl _)⟩ ?_
    rintro ⟨j, c⟩ ⟨hr, hjn, hc⟩ n0
    simp only at hr hjn hc ⊢
    by_cases hij : I ≤ j
    · skip
      have hd1 : decide ((I : Int) ≤ (j : Int)) = true := decide_eq_true (by omega)
      obtain ⟨j, rfl⟩ : ∃ j', j = j' + 1 := ⟨j - 1, by omega⟩
      have ej1 : ((j + 1 : Nat) : Int) - 1 = (j : Int) := by omega
      obtain ⟨v, hv⟩ : ∃ v, ltN D[j + 1]! D[a]! = v := ⟨_, rfl⟩
      rw [Sort.scanDown, decide_eq_true hij, Bool.true_and] at hr
      simp only [hv] at hr
      refine awp_seqP rfl ?_
      refine awp_seqP rfl ?_
      refine awp_drwP (Γ := envL [(48, .pure true lessG)]) (fun k => if k = 12 then 0 else 2) [60, 0, 1, 10, 11] mixed (envOK_cons oku99 envOK_nil) rfl rfl rfl (by kernel_rfl) (fun K hK => ?_)
      simp (disch := omega) only [Try.f50, go_sem, Nat.reduceAdd, ↓reduceIte, hd1, hv, Int.toNat_natCast]
      refine hK _ ?_
      refine nx_then ?_
      cases v
      · skip
        simp only [Bool.not_false, if_true] at hr
        refine awp_ifB (.tmp 60) rfl rfl rfl (fun h => ?_) (fun h => ?_)
        · skip
          refine awp_drop rfl ?_
          refine awp_skipP rfl ?_
          refine nx_then ?_
          refine awp_blockN 3 rfl rfl ?_
          refine awp_regP (Γ := noEnv) [0, 1, 10, 11] (noEnv_ok _ _) rfl rfl rfl (fun K hK => ?_)
          simp (disch := omega) only [Try.f50, go_sem, Nat.reduceAdd, ↓reduceIte, ej1]
          refine hK _ ?_
          refine nx_blk (nx_loop ?_)
          refine ⟨⟨j, _⟩, ⟨hr, by simp only; omega, by simp only; omega⟩, by simp only; omega, sub_same rfl rfl (Nat.le_refl _)⟩
        · skip
          refine awp_drop rfl ?_
          cases h
      · skip
        simp only [Bool.not_true, Bool.false_eq_true, if_false] at hr
        subst hr
        refine awp_ifB (.tmp 60) rfl rfl rfl (fun h => ?_) (fun h => ?_)
        · skip
          refine awp_drop rfl ?_
          cases h
        · skip
          refine awp_drop rfl ?_
          refine awp_exitN 2 rfl rfl ?_
          refine nx_ex_then (nx_ex_loop (nx_ex_blk ?_))
          exact hQ _ _ (by omega)
    · skip
      have hd1 : decide ((I : Int) ≤ (j : Int)) = false := decide_eq_false (by omega)
      have hr2 : j = J2 := by
        rw [← hr]
        cases j with
        | zero => rfl
        | succ k => rw [Sort.scanDown, decide_eq_false hij, Bool.false_and]; rfl
      subst hr2
      refine awp_seqP rfl ?_
      refine awp_seqP rfl ?_
      refine awp_drwP (Γ := envL [(48, .pure true lessG)]) (fun k => if k = 12 then 0 else 2) [60, 0, 1, 10, 11] mixed (envOK_cons oku99 envOK_nil) rfl rfl rfl (by kernel_rfl) (fun K hK => ?_)
      simp (disch := omega) only [Try.f50, go_sem, Nat.reduceAdd, reduceCtorEq, ↓reduceIte, hd1]
      refine hK _ ?_
      refine nx_then ?_
      refine awp_ifB (.tmp 60) rfl rfl rfl (fun h => ?_) (fun h => ?_)
      · skip
        refine awp_drop rfl ?_
        cases h
      · skip
        refine awp_drop rfl ?_
        refine awp_exitN 2 rfl rfl ?_
        refine nx_ex_then (nx_ex_loop (nx_ex_blk ?_))
        exact hQ _ _ (by omega)

set_option maxHeartbeats 1000000 in
theorem pt_up2 {id n a I J I2 nx0 cx0 : Nat} {gg : Bool} {D : Array T32} {Q : Exit → S → Prop} (hI : Sort.scanUp (fun x => ltN x D[a]!) D J I = I2) (hs : D.size = n) (hJ : J < n) (ha : a < n) (hbig : n ≤ 1000000) (hid : id < cx0)
    (hQ : ∀ n1 c1, id < c1 → Q .normal { fr := [(0, .os id 0 n 1 gg), (1, .i (a : Int)), (10, .i (I2 : Int)), (11, .i (J : Int))], hp := upd (fun _ => none) id (.cells (cA D) true), nx := n1, cx := c1 }) :
    Awp Try.prog GLh Try.f50.ntmps (cl (cl (cl (cl (cl (cr (cr (cr (cr (cr (cr (cr (cr (cr (bodyOf Try.f50))))))))))))))) { fr := [(0, .os id 0 n 1 gg), (1, .i (a : Int)), (10, .i (I : Int)), (11, .i (J : Int))], hp := upd (fun _ => none) id (.cells (cA D) true), nx := nx0, cx := cx0 } Q := by
    refine awp_blockN 6 rfl rfl ?_
    refine awp_loopP (fun q : SKC => { fr := [(0, .os id 0 n 1 gg), (1, .i a), (10, .i q.k), (11, .i J)], hp := upd (fun _ => none) id (.cells (cA D) true), nx := 0, cx := q.c }) (fun q => Sort.scanUp (fun x => ltN x D[a]!) D J q.k = I2 ∧ id < q.c) (fun q => J + 1 - q.k) rfl ⟨⟨I, _⟩, ⟨hI, hid⟩, sub_same rfl rfl (Nat.le_refl _)⟩ ?_
    rintro ⟨i, c⟩ ⟨hr, hc⟩ n0
    simp only at hr hc ⊢
    by_cases hij : i ≤ J
    · skip
      have hd1 : decide ((i : Int) ≤ (J : Int)) = true := decide_eq_true (by omega)
      have hin : i < n := by omega
      obtain ⟨v, hv⟩ : ∃ v, ltN D[i]! D[a]! = v := ⟨_, rfl⟩
      rw [Sort.scanUp, decide_eq_true hij, Bool.true_and] at hr
      simp only [hv] at hr
      refine awp_seqP rfl ?_
      refine awp_seqP rfl ?_
      refine awp_drwP (Γ := envL [(48, .pure true lessG)]) (fun k => if k = 12 then 0 else 2) [112, 0, 1, 10, 11] mixed (envOK_cons oku99 envOK_nil) rfl rfl rfl (by kernel_rfl) (fun K hK => ?_)
      simp (disch := omega) only [Try.f50, go_sem, Nat.reduceAdd, ↓reduceIte, hd1, hv, Int.toNat_natCast]
      refine hK _ ?_
      refine nx_then ?_
      cases v
      · skip
        simp only [Bool.false_eq_true, if_false] at hr
        subst hr
        refine awp_ifB (.tmp 112) rfl rfl rfl (fun h => ?_) (fun h => ?_)
        · skip
          refine awp_drop rfl ?_
          cases h
        · skip
          refine awp_drop rfl ?_
          refine awp_exitN 6 rfl rfl ?_
          refine nx_ex_then (nx_ex_loop (nx_ex_blk ?_))
          exact hQ _ _ (by omega)
      · skip
        simp only [if_true] at hr
        refine awp_ifB (.tmp 112) rfl rfl rfl (fun h => ?_) (fun h => ?_)
        · skip
          refine awp_drop rfl ?_
          refine awp_skipP rfl ?_
          refine nx_then ?_
          refine awp_blockN 7 rfl rfl ?_
          refine awp_regP (Γ := noEnv) [0, 1, 10, 11] (noEnv_ok _ _) rfl rfl rfl (fun K hK => ?_)
          simp (disch := omega) only [Try.f50, go_sem, Nat.reduceAdd, ↓reduceIte]
          refine hK _ ?_
          refine nx_blk (nx_loop ?_)
          refine ⟨⟨i + 1, _⟩, ⟨hr, by simp only; omega⟩, by simp only; omega, sub_same (by simp only [Int.natCast_add, Int.natCast_one]) rfl (Nat.le_refl _)⟩
        · skip
          refine awp_drop rfl ?_
          cases h
    · skip
      have hd1 : decide ((i : Int) ≤ (J : Int)) = false := decide_eq_false (by omega)
      rw [Sort.scanUp, decide_eq_false hij, Bool.false_and] at hr
      simp only [Bool.false_eq_true, if_false] at hr
      subst hr
      refine awp_seqP rfl ?_
      refine awp_seqP rfl ?_
      refine awp_drwP (Γ := envL [(48, .pure true lessG)]) (fun k => if k = 12 then 0 else 2) [112, 0, 1, 10, 11] mixed (envOK_cons oku99 envOK_nil) rfl rfl rfl (by kernel_rfl) (fun K hK => ?_)
      simp (disch := omega) only [Try.f50, go_sem, Nat.reduceAdd, reduceCtorEq, ↓reduceIte, hd1]
      refine hK _ ?_
      refine nx_then ?_
      refine awp_ifB (.tmp 112) rfl rfl rfl (fun h => ?_) (fun h => ?_)
      · skip
        refine awp_drop rfl ?_
        cases h
      · skip
        refine awp_drop rfl ?_
        refine awp_exitN 6 rfl rfl ?_
        refine nx_ex_then (nx_ex_loop (nx_ex_blk ?_))
        exact hQ _ _ (by omega)

set_option maxHeartbeats 1000000 in
theorem pt_dn2 {id n a I J J2 nx0 cx0 : Nat} {gg : Bool} {D : Array T32} {Q : Exit → S → Prop} (hJ2 : Sort.scanDown (fun x => !ltN x D[a]!) D I J = J2) (hs : D.size = n) (hJ : J < n) (hI1 : 0 < I) (ha : a < n) (hbig : n ≤ 1000000) (hid : id < cx0)
    (hQ : ∀ n1 c1, id < c1 → Q .normal { fr := [(0, .os id 0 n 1 gg), (1, .i (a : Int)), (10, .i (I : Int)), (11, .i (J2 : Int))], hp := upd (fun _ => none) id (.cells (cA D) true), nx := n1, cx := c1 }) :
    Awp Try.prog GLh Try.f50.ntmps (cl (cr (cl (cl (cl (cl (cr (cr (cr (cr (cr (cr (cr (cr (cr (bodyOf Try.f50)))))))))))))))) { fr := [(0, .os id 0 n 1 gg), (1, .i (a : Int)), (10, .i (I : Int)), (11, .i (J : Int))], hp := upd (fun _ => none) id (.cells (cA D) true), nx := nx0, cx := cx0 } Q := by
    refine awp_blockN 8 rfl rfl ?_
    refine awp_loopP (fun q : SKC => { fr := [(0, .os id 0 n 1 gg), (1, .i a), (10, .i I), (11, .i q.k)], hp := upd (fun _ => none) id (.cells (cA D) true), nx := 0, cx := q.c }) (fun q => Sort.scanDown (fun x => !ltN x D[a]!) D I q.k = J2 ∧ q.k < n ∧ id < q.c) (fun q => q.k) rfl ⟨⟨J, _⟩, ⟨hJ2, hJ, hid⟩, sub_same rfl rfl (Nat.le_refl _)⟩ ?_
    rintro ⟨j, c⟩ ⟨hr, hjn, hc⟩ n0
    simp only at hr hjn hc ⊢
    by_cases hij : I ≤ j
    · skip
      have hd1 : decide ((I : Int) ≤ (j : Int)) = true := decide_eq_true (by omega)
      obtain ⟨j, rfl⟩ : ∃ j', j = j' + 1 := ⟨j - 1, by omega⟩
      have ej1 : ((j + 1 : Nat) : Int) - 1 = (j : Int) := by omega
      obtain ⟨v, hv⟩ : ∃ v, ltN D[j + 1]! D[a]! = v := ⟨_, rfl⟩
      rw [Sort.scanDown, decide_eq_true hij, Bool.true_and] at hr
      simp only [hv] at hr
      refine awp_seqP rfl ?_
      refine awp_seqP rfl ?_
      refine awp_drwP (Γ := envL [(48, .pure true lessG)]) (fun k => if k = 12 then 0 else 2) [129, 0, 1, 10, 11] mixed (envOK_cons oku99 envOK_nil) rfl rfl rfl (by kernel_rfl) (fun K hK => ?_)
      simp (disch := omega) only [Try.f50, go_sem, Nat.reduceAdd, ↓reduceIte, hd1, hv, Int.toNat_natCast]
      refine hK _ ?_
      refine nx_then ?_
      cases v
      · skip
        simp only [Bool.not_false, if_true] at hr
        refine awp_ifB (.tmp 129) rfl rfl rfl (fun h => ?_) (fun h => ?_)
        · skip
          refine awp_drop rfl ?_
          refine awp_skipP rfl ?_
          refine nx_then ?_
          refine awp_blockN 9 rfl rfl ?_
          refine awp_regP (Γ := noEnv) [0, 1, 10, 11] (noEnv_ok _ _) rfl rfl rfl (fun K hK => ?_)
          simp (disch := omega) only [Try.f50, go_sem, Nat.reduceAdd, ↓reduceIte, ej1]
          refine hK _ ?_
          refine nx_blk (nx_loop ?_)
          refine ⟨⟨j, _⟩, ⟨hr, by simp only; omega, by simp only; omega⟩, by simp only; omega, sub_same rfl rfl (Nat.le_refl _)⟩
        · skip
          refine awp_drop rfl ?_
          cases h
      · skip
        simp only [Bool.not_true, Bool.false_eq_true, if_false] at hr
        subst hr
        refine awp_ifB (.tmp 129) rfl rfl rfl (fun h => ?_) (fun h => ?_)
        · skip
          refine awp_drop rfl ?_
          cases h
        · skip
          refine awp_drop rfl ?_
          refine awp_exitN 8 rfl rfl ?_
          refine nx_ex_then (nx_ex_loop (nx_ex_blk ?_))
          exact hQ _ _ (by omega)
    · skip
      have hd1 : decide ((I : Int) ≤ (j : Int)) = false := decide_eq_false (by omega)
      have hr2 : j = J2 := by
        rw [← hr]
        cases j with
        | zero => rfl
        | succ k => rw [Sort.scanDown, decide_eq_false hij, Bool.false_and]; rfl
      subst hr2
      refine awp_seqP rfl ?_
      refine awp_seqP rfl ?_
      refine awp_drwP (Γ := envL [(48, .pure true lessG)]) (fun k => if k = 12 then 0 else 2) [129, 0, 1, 10, 11] mixed (envOK_cons oku99 envOK_nil) rfl rfl rfl (by kernel_rfl) (fun K hK => ?_)
      simp (disch := omega) only [Try.f50, go_sem, Nat.reduceAdd, reduceCtorEq, ↓reduceIte, hd1]
      refine hK _ ?_
      refine nx_then ?_
      refine awp_ifB (.tmp 129) rfl rfl rfl (fun h => ?_) (fun h => ?_)
      · skip
        refine awp_drop rfl ?_
        cases h
      · skip
        refine awp_drop rfl ?_
        refine awp_exitN 8 rfl rfl ?_
        refine nx_ex_then (nx_ex_loop (nx_ex_blk ?_))
        exact hQ _ _ (by omega)

set_option maxHeartbeats 1000000 in
theorem pe_up {id n a I J I2 nx0 cx0 : Nat} {gg : Bool} {D : Array T32} {Q : Exit → S → Prop} (hI : Sort.scanUp (fun x => !ltN D[a]! x) D J I = I2) (hs : D.size = n) (hJ : J < n) (ha : a < n) (hbig : n ≤ 1000000) (hid : id < cx0)
    (hQ : ∀ n1 c1, id < c1 → Q .normal { fr := [(0, .os id 0 n 1 gg), (1, .i (a : Int)), (9, .i (I2 : Int)), (10, .i (J : Int))], hp := upd (fun _ => none) id (.cells (cA D) true), nx := n1, cx := c1 }) :
    Awp Try.prog GLh Try.f49.ntmps (cl (cl (cl (cl (cl (cr (cr (cr (bodyOf Try.f49))))))))) { fr := [(0, .os id 0 n 1 gg), (1, .i (a : Int)), (9, .i (I : Int)), (10, .i (J : Int))], hp := upd (fun _ => none) id (.cells (cA D) true), nx := nx0, cx := cx0 } Q := by
    refine awp_blockN 2 rfl rfl ?_
    refine awp_loopP (fun q : SKC => { fr := [(0, .os id 0 n 1 gg), (1, .i a), (9, .i q.k), (10, .i J)], hp := upd (fun _ => none) id (.cells (cA D) true), nx := 0, cx := q.c }) (fun q => Sort.scanUp (fun x => !ltN D[a]! x) D J q.k = I2 ∧ id < q.c) (fun q => J + 1 - q.k) rfl ⟨⟨I, _⟩, ⟨hI, hid⟩, sub_same rfl rfl (Nat.le_refl _)⟩ ?_
    rintro ⟨i, c⟩ ⟨hr, hc⟩ n0
    simp only at hr hc ⊢
    by_cases hij : i ≤ J
    · skip
      have hd1 : decide ((i : Int) ≤ (J : Int)) = true := decide_eq_true (by omega)
      have hin : i < n := by omega
      obtain ⟨v, hv⟩ : ∃ v, ltN D[a]! D[i]! = v := ⟨_, rfl⟩
      rw [Sort.scanUp, decide_eq_true hij, Bool.true_and] at hr
      simp only [hv] at hr
      refine awp_seqP rfl ?_
      refine awp_seqP rfl ?_
      refine awp_drwP (Γ := envL [(48, .pure true lessG)]) (fun k => if k = 12 then 0 else 2) [43, 0, 1, 9, 10] mixed (envOK_cons oku99 envOK_nil) rfl rfl rfl (by kernel_rfl) (fun K hK => ?_)
      simp (disch := omega) only [Try.f49, go_sem, Nat.reduceAdd, ↓reduceIte, hd1, hv, Int.toNat_natCast]
      refine hK _ ?_
      refine nx_then ?_
      cases v
      · skip
        simp only [Bool.not_false, if_true] at hr
        refine awp_ifB (.tmp 43) rfl rfl rfl (fun h => ?_) (fun h => ?_)
        · skip
          refine awp_drop rfl ?_
          refine awp_skipP rfl ?_
          refine nx_then ?_
          refine awp_blockN 3 rfl rfl ?_
          refine awp_regP (Γ := noEnv) [0, 1, 9, 10] (noEnv_ok _ _) rfl rfl rfl (fun K hK => ?_)
          simp (disch := omega) only [Try.f49, go_sem, Nat.reduceAdd, ↓reduceIte]
          refine hK _ ?_
          refine nx_blk (nx_loop ?_)
          refine ⟨⟨i + 1, _⟩, ⟨hr, by simp only; omega⟩, by simp only; omega, sub_same (by simp only [Int.natCast_add, Int.natCast_one]) rfl (Nat.le_refl _)⟩
        · skip
          refine awp_drop rfl ?_
          cases h
      · skip
        simp only [Bool.not_true, Bool.false_eq_true, if_false] at hr
        subst hr
        refine awp_ifB (.tmp 43) rfl rfl rfl (fun h => ?_) (fun h => ?_)
        · skip
          refine awp_drop rfl ?_
          cases h
        · skip
          refine awp_drop rfl ?_
          refine awp_exitN 2 rfl rfl ?_
          refine nx_ex_then (nx_ex_loop (nx_ex_blk ?_))
          exact hQ _ _ (by omega)
    · skip
      have hd1 : decide ((i : Int) ≤ (J : Int)) = false := decide_eq_false (by omega)
      rw [Sort.scanUp, decide_eq_false hij, Bool.false_and] at hr
      simp only [Bool.false_eq_true, if_false] at hr
      subst hr
      refine awp_seqP rfl ?_
      refine awp_seqP rfl ?_
      refine awp_drwP (Γ := envL [(48, .pure true lessG)]) (fun k => if k = 12 then 0 else 2) [43, 0, 1, 9, 10] mixed (envOK_cons oku99 envOK_nil) rfl rfl rfl (by kernel_rfl) (fun K hK => ?_)
      simp (disch := omega) only [Try.f49, go_sem, Nat.reduceAdd, reduceCtorEq, ↓reduceIte, hd1]
      refine hK _ ?_
      refine nx_then ?_
      refine awp_ifB (.tmp 43) rfl rfl rfl (fun h => ?_) (fun h => ?_)
      · skip
        refine awp_drop rfl ?_
        cases h
      · skip
        refine awp_drop rfl ?_
        refine awp_exitN 2 rfl rfl ?_
        refine nx_ex_then (nx_ex_loop (nx_ex_blk ?_))
        exact hQ _ _ (by omega)

set_option maxHeartbeats 1000000 in
theorem pe_dn {id n a I J J2 nx0 cx0 : Nat} {gg : Bool} {D : Array T32} {Q : Exit → S → Prop} (hJ2 : Sort.scanDown (fun x => ltN D[a]! x) D I J = J2) (hs : D.size = n) (hJ : J < n) (hI1 : 0 < I) (ha : a < n) (hbig : n ≤ 1000000) (hid : id < cx0)
    (hQ : ∀ n1 c1, id < c1 → Q .normal { fr := [(0, .os id 0 n 1 gg), (1, .i (a : Int)), (9, .i (I : Int)), (10, .i (J2 : Int))], hp := upd (fun _ => none) id (.cells (cA D) true), nx := n1, cx := c1 }) :
    Awp Try.prog GLh Try.f49.ntmps (cl (cr (cl (cl (cl (cl (cr (cr (cr (bodyOf Try.f49)))))))))) { fr := [(0, .os id 0 n 1 gg), (1, .i (a : Int)), (9, .i (I : Int)), (10, .i (J : Int))], hp := upd (fun _ => none) id (.cells (cA D) true), nx := nx0, cx := cx0 } Q := by
    refine awp_blockN 4 rfl rfl ?_
    refine awp_loopP (fun q : SKC => { fr := [(0, .os id 0 n 1 gg), (1, .i a), (9, .i I), (10, .i q.k)], hp := upd (fun _ => none) id (.cells (cA D) true), nx := 0, cx := q.c }) (fun q => Sort.scanDown (fun x => ltN D[a]! x) D I q.k = J2 ∧ q.k < n ∧ id < q.c) (fun q => q.k) rfl ⟨⟨J, _⟩, ⟨hJ2, hJ, hid⟩, sub_same rfl rfl (Nat.le_refl _)⟩ ?_
    rintro ⟨j, c⟩ ⟨hr, hjn, hc⟩ n0
    simp only at hr hjn hc ⊢
    by_cases hij : I ≤ j
    · skip
      have hd1 : decide ((I : Int) ≤ (j : Int)) = true := decide_eq_true (by omega)
      obtain ⟨j, rfl⟩ : ∃ j', j = j' + 1 := ⟨j - 1, by omega⟩
      have ej1 : ((j + 1 : Nat) : Int) - 1 = (j : Int) := by omega
      obtain ⟨v, hv⟩ : ∃ v, ltN D[a]! D[j + 1]! = v := ⟨_, rfl⟩
      rw [Sort.scanDown, decide_eq_true hij, Bool.true_and] at hr
      simp only [hv] at hr
      refine awp_seqP rfl ?_
      refine awp_seqP rfl ?_
      refine awp_drwP (Γ := envL [(48, .pure true lessG)]) (fun k => if k = 12 then 0 else 2) [59, 0, 1, 9, 10] mixed (envOK_cons oku99 envOK_nil) rfl rfl rfl (by kernel_rfl) (fun K hK => ?_)
      simp (disch := omega) only [Try.f49, go_sem, Nat.reduceAdd, ↓reduceIte, hd1, hv, Int.toNat_natCast]
      refine hK _ ?_
      refine nx_then ?_
      cases v
      · skip
        simp only [Bool.false_eq_true, if_false] at hr
        subst hr
        refine awp_ifB (.tmp 59) rfl rfl rfl (fun h => ?_) (fun h => ?_)
        · skip
          refine awp_drop rfl ?_
          cases h
        · skip
          refine awp_drop rfl ?_
          refine awp_exitN 4 rfl rfl ?_
          refine nx_ex_then (nx_ex_loop (nx_ex_blk ?_))
          exact hQ _ _ (by omega)
      · skip
        simp only [if_true] at hr
        refine awp_ifB (.tmp 59) rfl rfl rfl (fun h => ?_) (fun h => ?_)
        · skip
          refine awp_drop rfl ?_
          refine awp_skipP rfl ?_
          refine nx_then ?_
          refine awp_blockN 5 rfl rfl ?_
          refine awp_regP (Γ := noEnv) [0, 1, 9, 10] (noEnv_ok _ _) rfl rfl rfl (fun K hK => ?_)
          simp (disch := omega) only [Try.f49, go_sem, Nat.reduceAdd, ↓reduceIte, ej1]
          refine hK _ ?_
          refine nx_blk (nx_loop ?_)
          refine ⟨⟨j, _⟩, ⟨hr, by simp only; omega, by simp only; omega⟩, by simp only; omega, sub_same rfl rfl (Nat.le_refl _)⟩
        · skip
          refine awp_drop rfl ?_
          cases h
    · skip
      have hd1 : decide ((I : Int) ≤ (j : Int)) = false := decide_eq_false (by omega)
      have hr2 : j = J2 := by
        rw [← hr]
        cases j with
        | zero => rfl
        | succ k => rw [Sort.scanDown, decide_eq_false hij, Bool.false_and]; rfl
      subst hr2
      refine awp_seqP rfl ?_
      refine awp_seqP rfl ?_
      refine awp_drwP (Γ := envL [(48, .pure true lessG)]) (fun k => if k = 12 then 0 else 2) [59, 0, 1, 9, 10] mixed (envOK_cons oku99 envOK_nil) rfl rfl rfl (by kernel_rfl) (fun K hK => ?_)
      simp (disch := omega) only [Try.f49, go_sem, Nat.reduceAdd, reduceCtorEq, ↓reduceIte, hd1]
      refine hK _ ?_
      refine nx_then ?_
      refine awp_ifB (.tmp 59) rfl rfl rfl (fun h => ?_) (fun h => ?_)
      · skip
        refine awp_drop rfl ?_
        cases h
      · skip
        refine awp_drop rfl ?_
        refine awp_exitN 4 rfl rfl ?_
        refine nx_ex_then (nx_ex_loop (nx_ex_blk ?_))
        exact hQ _ _ (by omega)

def ptG : List AV → List AV → Option (AV × List AV)
  | [.os _ 0 n 1 _, .i a, .i b, .i p], xs => obind (unA xs) fun l => guardO (l.length = n ∧ 0 ≤ a ∧ a < b ∧ b ≤ n ∧ 0 ≤ p ∧ p < n ∧ n ≤ 1000000) (some (.tup [.i (Sort.partition ltN l.toArray a.toNat b.toNat p.toNat).1, .b (Sort.partition ltN l.toArray a.toNat b.toNat p.toNat).2.1], cA (Sort.partition ltN l.toArray a.toNat b.toNat p.toNat).2.2))
  | _, _ => none
theorem ptG_eq (id n : Nat) (gg : Bool) (a b p : Int) (xs : List AV) : ptG [.os id 0 n 1 gg, .i a, .i b, .i p] xs = obind (unA xs) fun l => guardO (l.length = n ∧ 0 ≤ a ∧ a < b ∧ b ≤ n ∧ 0 ≤ p ∧ p < n ∧ n ≤ 1000000) (some (.tup [.i (Sort.partition ltN l.toArray a.toNat b.toNat p.toNat).1, .b (Sort.partition ltN l.toArray a.toNat b.toNat p.toNat).2.1], cA (Sort.partition ltN l.toArray a.toNat b.toNat p.toNat).2.2)) := (rfl)
attribute [go_sem] ptG_eq
set_option maxHeartbeats 2000000 in
theorem pt_ok : HeapOK Try.prog GLh 50 (mutH ptG) := by
  refine mut_of_awp Try.func50 (bodyOf_some rfl) ?_
  intro id off n e gg rest nx xs r ys hg
  unfold ptG at hg
  split at hg
  · rename_i id2 n2 gg2 a0 b0 p0 heq
    simp only [List.cons.injEq, AV.os.injEq] at heq
    obtain ⟨⟨rfl, rfl, rfl, rfl, rfl⟩, rfl⟩ := heq
    replace hg := obind_inv hg; obtain ⟨l, hl, hg⟩ := hg
    replace hg := guardO_inv hg; obtain ⟨⟨hn, ha, hab, hbn, hp0, hpn, hbig⟩, hg⟩ := hg
    simp only [Option.some.injEq, Prod.mk.injEq] at hg; obtain ⟨rfl, rfl⟩ := hg
    have := unA_inv hl; subst this
    obtain ⟨a, rfl⟩ := Int.eq_ofNat_of_zero_le ha
    obtain ⟨b, rfl⟩ := Int.eq_ofNat_of_zero_le (show 0 ≤ b0 by omega)
    obtain ⟨p, rfl⟩ := Int.eq_ofNat_of_zero_le hp0
    simp only [Int.toNat_natCast] at *
    obtain ⟨d, hd⟩ : ∃ d, l.toArray = d := ⟨_, rfl⟩
    have hds : d.size = n := by rw [← hd]; simpa using hn
    have hab2 : a < b := by omega
    have hbn2 : b ≤ n := by omega
    have hpn2 : p < n := by omega
    rw [hd]
    refine ⟨Nat.le_of_ble_eq_true rfl, fun hid => ?_⟩
    clear hl hn ha hab hbn hp0 hpn
    obtain ⟨R, hR⟩ : ∃ R, Sort.partition ltN d a b p = R := ⟨_, rfl⟩
    rw [hR]
    unfold Sort.partition at hR
    obtain ⟨D, hD⟩ : ∃ D, Sort.swp d a p = D := ⟨_, rfl⟩
    have hDs : D.size = n := by rw [← hD, swp_size]; exact hds
    have hsw : (d.setIfInBounds a d[p]!).setIfInBounds p d[a]! = D := hD
    have ea : (a : Int) + 1 = ((a + 1 : Nat) : Int) := by omega
    have eb : (b : Int) - 1 = ((b - 1 : Nat) : Int) := by omega
    obtain ⟨i2, hi2⟩ : ∃ i2, Sort.scanUp (fun x => ltN x D[a]!) D (b - 1) (a + 1) = i2 := ⟨_, rfl⟩
    have gi2 := Sort.scanUp_ge (fun x => ltN x D[a]!) D (b - 1) (a + 1)
    rw [hi2] at gi2
    obtain ⟨j2, hj2⟩ : ∃ j2, Sort.scanDown (fun x => !ltN x D[a]!) D i2 (b - 1) = j2 := ⟨_, rfl⟩
    have gj2 := Sort.scanDown_le (fun x => !ltN x D[a]!) D i2 (b - 1)
    rw [hj2] at gj2
    simp only [hD, hi2, hj2] at hR
    have han : a < n := by omega
    have hj2n : j2 < n := by omega
    refine awp_seqP rfl ?_
    refine awp_regP (Γ := noEnv) [0, 1, 2, 3] (noEnv_ok _ _) rfl rfl rfl (fun K hK => ?_)
    simp (disch := omega) only [Try.f50, go_sem, Nat.reduceAdd, ↓reduceIte]
    refine hK _ ?_
    refine nx_then ?_
    refine awp_seqP rfl ?_
    refine awp_drwP (Γ := noEnv) (fun _ => 2) [0, 1, 2] mixed (noEnv_ok _ _) rfl rfl rfl (by kernel_rfl) (fun K hK => ?_)
    simp (disch := omega) only [Try.f50, go_sem, Nat.reduceAdd, ↓reduceIte, hsw, hds, Int.toNat_natCast]
    refine hK _ ?_
    refine nx_then ?_
    refine awp_seqP rfl ?_
    refine awp_regP (Γ := noEnv) [0, 1, 10, 11] (noEnv_ok _ _) rfl rfl rfl (fun K hK => ?_)
    simp (disch := omega) only [Try.f50, go_sem, Nat.reduceAdd, ↓reduceIte, ea, eb]
    refine hK _ ?_
    refine nx_then ?_
    refine awp_seqP rfl ?_
    refine pt_up1 hi2 hDs (by omega) han hbig (by omega) (fun n1 c1 hc1 => ?_)
    refine nx_then ?_
    refine awp_seqP rfl ?_
    refine pt_dn1 hj2 hDs (by omega) (by omega) han hbig hc1 (fun n2 c2 hc2 => ?_)
    refine nx_then ?_
    refine awp_seqP rfl ?_
    refine awp_seqP rfl ?_
    refine awp_regP (Γ := noEnv) [65, 0, 1, 10, 11] (noEnv_ok _ _) rfl rfl rfl (fun K hK => ?_)
    simp (disch := omega) only [Try.f50, go_sem, Nat.reduceAdd, ↓reduceIte]
    refine hK _ ?_
    refine nx_then ?_
    refine awp_ifD (.tmp 65) rfl rfl rfl (fun h => ?_) (fun h => ?_)
    · skip
      refine awp_drop rfl ?_
      have hij : i2 > j2 := by omega
      rw [if_pos hij] at hR
      subst hR
      have hsw2 : (D.setIfInBounds j2 D[a]!).setIfInBounds a D[j2]! = Sort.swp D j2 a := rfl
      refine awp_seqP rfl ?_
      refine awp_drwP (Γ := noEnv) (fun _ => 2) [11] mixed (noEnv_ok _ _) rfl rfl rfl (by kernel_rfl) (fun K hK => ?_)
      simp (disch := omega) only [Try.f50, go_sem, Nat.reduceAdd, ↓reduceIte, hsw2, hDs, Int.toNat_natCast]
      refine hK _ ?_
      refine nx_then ?_
      refine awp_seqP rfl ?_
      refine awp_regP (Γ := noEnv) [8, 9] (noEnv_ok _ _) rfl rfl rfl (fun K hK => ?_)
      simp (disch := omega) only [Try.f50, go_sem, Nat.reduceAdd, ↓reduceIte]
      refine hK _ ?_
      refine nx_then ?_
      refine awp_retP rfl ?_
      refine nx_ret_then ?_
      exact ⟨rfl, by simp only [up_app, if_true], rfl, cA_nm _⟩
    · skip
      refine awp_drop rfl ?_
      have hij : ¬ i2 > j2 := by omega
      rw [if_neg hij] at hR
      have hi2n : i2 < n := by omega
      have hsw2 : (D.setIfInBounds i2 D[j2]!).setIfInBounds j2 D[i2]! = Sort.swp D i2 j2 := rfl
      have ei : (i2 : Int) + 1 = ((i2 + 1 : Nat) : Int) := by omega
      have ej : (j2 : Int) - 1 = ((j2 - 1 : Nat) : Int) := by omega
      obtain ⟨⟨M, E⟩, hME⟩ : ∃ r, Sort.partLoop ltN a (i2 + 1) (j2 - 1) (Sort.swp D i2 j2) = r := ⟨_, rfl⟩
      simp only [hME] at hR
      subst hR
      refine awp_skipP rfl ?_
      refine nx_then ?_
      refine awp_seqP rfl ?_
      refine awp_drwP (Γ := noEnv) (fun _ => 2) [0, 1, 10, 11] mixed (noEnv_ok _ _) rfl rfl rfl (by kernel_rfl) (fun K hK => ?_)
      simp (disch := omega) only [Try.f50, go_sem, Nat.reduceAdd, ↓reduceIte, hsw2, hDs, Int.toNat_natCast]
      refine hK _ ?_
      refine nx_then ?_
      refine awp_seqP rfl ?_
      refine awp_regP (Γ := noEnv) [0, 1, 10, 11] (noEnv_ok _ _) rfl rfl rfl (fun K hK => ?_)
      simp (disch := omega) only [Try.f50, go_sem, Nat.reduceAdd, ↓reduceIte, ei]
      refine hK _ ?_
      refine nx_then ?_
      refine awp_seqP rfl ?_
      refine awp_regP (Γ := noEnv) [0, 1, 10, 11] (noEnv_ok _ _) rfl rfl rfl (fun K hK => ?_)
      simp (disch := omega) only [Try.f50, go_sem, Nat.reduceAdd, ↓reduceIte, ej]
      refine hK _ ?_
      refine nx_then ?_
      refine awp_seqP rfl ?_
      refine awp_blockN 4 rfl rfl ?_
      refine awp_loopP (fun p : SDJ => { fr := [(0, .os id 0 n 1 gg), (1, .i a), (10, .i p.k), (11, .i p.j)], hp := upd (fun _ => none) id (.cells (cA p.d) true), nx := 0, cx := p.c }) (fun p => Sort.partLoop ltN a p.k p.j p.d = (M, E) ∧ p.d.size = n ∧ a < p.k ∧ p.j < n ∧ id < p.c) (fun p => p.j + 1 - p.k) rfl ⟨⟨i2 + 1, j2 - 1, Sort.swp D i2 j2, _⟩, ⟨hME, by simp only [swp_size]; exact hDs, by simp only; omega, by simp only; omega, by simp only; omega⟩, sub_same rfl rfl (Nat.le_refl _)⟩ ?_
      rintro ⟨i, j, d1, c⟩ ⟨hr, hs1, hai, hjn, hc⟩ n0
      simp only at hr hs1 hai hjn hc ⊢
      clear hsw hsw2 ei ej
      obtain ⟨i3, hi3⟩ : ∃ i3, Sort.scanUp (fun x => ltN x d1[a]!) d1 j i = i3 := ⟨_, rfl⟩
      have gi3 := Sort.scanUp_ge (fun x => ltN x d1[a]!) d1 j i
      rw [hi3] at gi3
      obtain ⟨j3, hj3⟩ : ∃ j3, Sort.scanDown (fun x => !ltN x d1[a]!) d1 i3 j = j3 := ⟨_, rfl⟩
      have gj3 := Sort.scanDown_le (fun x => !ltN x d1[a]!) d1 i3 j
      rw [hj3] at gj3
      rw [Sort.partLoop_eq, hi3, hj3] at hr
      have hj3n : j3 < n := by omega
      refine awp_blockN 5 rfl rfl ?_
      refine awp_seqP rfl ?_
      refine pt_up2 hi3 hs1 hjn han hbig hc (fun n3 c3 hc3 => ?_)
      refine nx_then ?_
      refine awp_seqP rfl ?_
      refine pt_dn2 hj3 hs1 hjn (by omega) han hbig hc3 (fun n4 c4 hc4 => ?_)
      refine nx_then ?_
      refine awp_seqP rfl ?_
      refine awp_seqP rfl ?_
      refine awp_regP (Γ := noEnv) [134, 0, 1, 10, 11] (noEnv_ok _ _) rfl rfl rfl (fun K hK => ?_)
      simp (disch := omega) only [Try.f50, go_sem, Nat.reduceAdd, ↓reduceIte]
      refine hK _ ?_
      refine nx_then ?_
      refine awp_ifD (.tmp 134) rfl rfl rfl (fun h => ?_) (fun h => ?_)
      · skip
        refine awp_drop rfl ?_
        have hij3 : i3 > j3 := by omega
        rw [if_pos hij3] at hr
        simp only [Prod.mk.injEq] at hr
        obtain ⟨rfl, rfl⟩ := hr
        have hsw3 : (d1.setIfInBounds j3 d1[a]!).setIfInBounds a d1[j3]! = Sort.swp d1 j3 a := rfl
        refine awp_exitN 4 rfl rfl ?_
        refine nx_ex_then (nx_ex_out (nx_ex_loop (nx_ex_blk ?_)) rfl)
        refine nx_then ?_
        refine awp_seqP rfl ?_
        refine awp_drwP (Γ := noEnv) (fun _ => 2) [11] mixed (noEnv_ok _ _) rfl rfl rfl (by kernel_rfl) (fun K hK => ?_)
        simp (disch := omega) only [Try.f50, go_sem, Nat.reduceAdd, ↓reduceIte, hsw3, hs1, Int.toNat_natCast]
        refine hK _ ?_
        refine nx_then ?_
        refine awp_seqP rfl ?_
        refine awp_regP (Γ := noEnv) [8, 9] (noEnv_ok _ _) rfl rfl rfl (fun K hK => ?_)
        simp (disch := omega) only [Try.f50, go_sem, Nat.reduceAdd, ↓reduceIte]
        refine hK _ ?_
        refine nx_then ?_
        refine awp_retP rfl ?_
        exact ⟨rfl, by simp only [up_app, if_true], rfl, cA_nm _⟩
      · skip
        refine awp_drop rfl ?_
        have hij3 : ¬ i3 > j3 := by omega
        rw [if_neg hij3] at hr
        have hi3n : i3 < n := by omega
        have hsw3 : (d1.setIfInBounds i3 d1[j3]!).setIfInBounds j3 d1[i3]! = Sort.swp d1 i3 j3 := rfl
        have ej3 : (j3 : Int) - 1 = ((j3 - 1 : Nat) : Int) := by omega
        refine awp_skipP rfl ?_
        refine nx_then ?_
        refine awp_seqP rfl ?_
        refine awp_drwP (Γ := noEnv) (fun _ => 2) [0, 1, 10, 11] mixed (noEnv_ok _ _) rfl rfl rfl (by kernel_rfl) (fun K hK => ?_)
        simp (disch := omega) only [Try.f50, go_sem, Nat.reduceAdd, ↓reduceIte, hsw3, hs1, Int.toNat_natCast]
        refine hK _ ?_
        refine nx_then ?_
        refine awp_seqP rfl ?_
        refine awp_regP (Γ := noEnv) [0, 1, 10, 11] (noEnv_ok _ _) rfl rfl rfl (fun K hK => ?_)
        simp (disch := omega) only [Try.f50, go_sem, Nat.reduceAdd, ↓reduceIte]
        refine hK _ ?_
        refine nx_then ?_
        refine awp_regP (Γ := noEnv) [0, 1, 10, 11] (noEnv_ok _ _) rfl rfl rfl (fun K hK => ?_)
        simp (disch := omega) only [Try.f50, go_sem, Nat.reduceAdd, ↓reduceIte, ej3]
        refine hK _ ?_
        refine nx_blk (nx_loop ?_)
        refine ⟨⟨i3 + 1, j3 - 1, Sort.swp d1 i3 j3, _⟩, ⟨hr, by simp only [swp_size]; exact hs1, by simp only; omega, by simp only; omega, by simp only; omega⟩, by simp only; omega, ⟨fun _ => .inr (by simp only [Int.natCast_add, Int.natCast_one]), hsub_cons (by simp (disch := omega) only [up_app, ↓reduceIte, eq_self]) hsub_nil, Nat.le_refl _⟩⟩
  · cases hg
theorem oku101 : EntOK Try.prog GLh 50 (.heap (mutH ptG)) := ⟨⟨_, Try.func50, rfl, rfl⟩, pt_ok⟩

def peG : List AV → List AV → Option (AV × List AV)
  | [.os _ 0 n 1 _, .i a, .i b, .i p], xs => obind (unA xs) fun l => guardO (l.length = n ∧ 0 ≤ a ∧ a < b ∧ b ≤ n ∧ 0 ≤ p ∧ p < n ∧ n ≤ 1000000) (some (.i (Sort.partitionEqual ltN l.toArray a.toNat b.toNat p.toNat).1, cA (Sort.partitionEqual ltN l.toArray a.toNat b.toNat p.toNat).2))
  | _, _ => none
theorem peG_eq (id n : Nat) (gg : Bool) (a b p : Int) (xs : List AV) : peG [.os id 0 n 1 gg, .i a, .i b, .i p] xs = obind (unA xs) fun l => guardO (l.length = n ∧ 0 ≤ a ∧ a < b ∧ b ≤ n ∧ 0 ≤ p ∧ p < n ∧ n ≤ 1000000) (some (.i (Sort.partitionEqual ltN l.toArray a.toNat b.toNat p.toNat).1, cA (Sort.partitionEqual ltN l.toArray a.toNat b.toNat p.toNat).2)) := (rfl)
attribute [go_sem] peG_eq
set_option maxHeartbeats 2000000 in
theorem pe_ok : HeapOK Try.prog GLh 49 (mutH peG) := by
  refine mut_of_awp Try.func49 (bodyOf_some rfl) ?_
  intro id off n e gg rest nx xs r ys hg
  unfold peG at hg
  split at hg
  · rename_i id2 n2 gg2 a0 b0 p0 heq
    simp only [List.cons.injEq, AV.os.injEq] at heq
    obtain ⟨⟨rfl, rfl, rfl, rfl, rfl⟩, rfl⟩ := heq
    replace hg := obind_inv hg; obtain ⟨l, hl, hg⟩ := hg
    replace hg := guardO_inv hg; obtain ⟨⟨hn, ha, hab, hbn, hp0, hpn, hbig⟩, hg⟩ := hg
    simp only [Option.some.injEq, Prod.mk.injEq] at hg; obtain ⟨rfl, rfl⟩ := hg
    have := unA_inv hl; subst this
    obtain ⟨a, rfl⟩ := Int.eq_ofNat_of_zero_le ha
    obtain ⟨b, rfl⟩ := Int.eq_ofNat_of_zero_le (show 0 ≤ b0 by omega)
    obtain ⟨p, rfl⟩ := Int.eq_ofNat_of_zero_le hp0
    simp only [Int.toNat_natCast] at *
    obtain ⟨d, hd⟩ : ∃ d, l.toArray = d := ⟨_, rfl⟩
    have hds : d.size = n := by rw [← hd]; simpa using hn
    have hab2 : a < b := by omega
    have hbn2 : b ≤ n := by omega
    have hpn2 : p < n := by omega
    rw [hd]
    refine ⟨Nat.le_of_ble_eq_true rfl, fun hid => ?_⟩
    clear hl hn ha hab hbn hp0 hpn
    obtain ⟨⟨M, E⟩, hR⟩ : ∃ R, Sort.partitionEqual ltN d a b p = R := ⟨_, rfl⟩
    rw [hR]
    obtain ⟨D, hD⟩ : ∃ D, Sort.swp d a p = D := ⟨_, rfl⟩
    have hDs : D.size = n := by rw [← hD, swp_size]; exact hds
    have hsw : (d.setIfInBounds a d[p]!).setIfInBounds p d[a]! = D := hD
    have ea : (a : Int) + 1 = ((a + 1 : Nat) : Int) := by omega
    have eb : (b : Int) - 1 = ((b - 1 : Nat) : Int) := by omega
    have hME : Sort.partEqLoop ltN a (a + 1) (b - 1) D = (M, E) := by rw [← hD]; exact hR
    have han : a < n := by omega
    clear hR
    refine awp_seqP rfl ?_
    refine awp_regP (Γ := noEnv) [0, 1, 2, 3] (noEnv_ok _ _) rfl rfl rfl (fun K hK => ?_)
    simp (disch := omega) only [Try.f49, go_sem, Nat.reduceAdd, ↓reduceIte]
    refine hK _ ?_
    refine nx_then ?_
    refine awp_seqP rfl ?_
    refine awp_drwP (Γ := noEnv) (fun _ => 2) [0, 1, 2] mixed (noEnv_ok _ _) rfl rfl rfl (by kernel_rfl) (fun K hK => ?_)
    simp (disch := omega) only [Try.f49, go_sem, Nat.reduceAdd, ↓reduceIte, hsw, hds, Int.toNat_natCast]
    refine hK _ ?_
    refine nx_then ?_
    refine awp_seqP rfl ?_
    refine awp_regP (Γ := noEnv) [0, 1, 9, 10] (noEnv_ok _ _) rfl rfl rfl (fun K hK => ?_)
    simp (disch := omega) only [Try.f49, go_sem, Nat.reduceAdd, ↓reduceIte, ea, eb]
    refine hK _ ?_
    refine nx_then ?_
    refine awp_seqP rfl ?_
    refine awp_blockN 0 rfl rfl ?_
    refine awp_loopP (fun p : SDJ => { fr := [(0, .os id 0 n 1 gg), (1, .i a), (9, .i p.k), (10, .i p.j)], hp := upd (fun _ => none) id (.cells (cA p.d) true), nx := 0, cx := p.c }) (fun p => Sort.partEqLoop ltN a p.k p.j p.d = (M, E) ∧ p.d.size = n ∧ a < p.k ∧ p.j < n ∧ id < p.c) (fun p => p.j + 1 - p.k) rfl ⟨⟨a + 1, b - 1, D, _⟩, ⟨hME, hDs, by simp only; omega, by simp only; omega, by simp only; omega⟩, sub_same rfl rfl (Nat.le_refl _)⟩ ?_
    rintro ⟨i, j, d1, c⟩ ⟨hr, hs1, hai, hjn, hc⟩ n0
    simp only at hr hs1 hai hjn hc ⊢
    clear hsw ea eb
    obtain ⟨i3, hi3⟩ : ∃ i3, Sort.scanUp (fun x => !ltN d1[a]! x) d1 j i = i3 := ⟨_, rfl⟩
    have gi3 := Sort.scanUp_ge (fun x => !ltN d1[a]! x) d1 j i
    rw [hi3] at gi3
    obtain ⟨j3, hj3⟩ : ∃ j3, Sort.scanDown (fun x => ltN d1[a]! x) d1 i3 j = j3 := ⟨_, rfl⟩
    have gj3 := Sort.scanDown_le (fun x => ltN d1[a]! x) d1 i3 j
    rw [hj3] at gj3
    rw [Sort.partEqLoop_eq, hi3, hj3] at hr
    have hj3n : j3 < n := by omega
    refine awp_blockN 1 rfl rfl ?_
    refine awp_seqP rfl ?_
    refine pe_up hi3 hs1 hjn han hbig hc (fun n3 c3 hc3 => ?_)
    refine nx_then ?_
    refine awp_seqP rfl ?_
    refine pe_dn hj3 hs1 hjn (by omega) han hbig hc3 (fun n4 c4 hc4 => ?_)
    refine nx_then ?_
    refine awp_seqP rfl ?_
    refine awp_seqP rfl ?_
    refine awp_regP (Γ := noEnv) [64, 0, 1, 9, 10] (noEnv_ok _ _) rfl rfl rfl (fun K hK => ?_)
    simp (disch := omega) only [Try.f49, go_sem, Nat.reduceAdd, ↓reduceIte]
    refine hK _ ?_
    refine nx_then ?_
    refine awp_ifD (.tmp 64) rfl rfl rfl (fun h => ?_) (fun h => ?_)
    · skip
      refine awp_drop rfl ?_
      have hij3 : i3 > j3 := by omega
      rw [if_pos hij3] at hr
      simp only [Prod.mk.injEq] at hr
      obtain ⟨rfl, rfl⟩ := hr
      refine awp_exitN 0 rfl rfl ?_
      refine nx_ex_then (nx_ex_out (nx_ex_loop (nx_ex_blk ?_)) rfl)
      refine nx_then ?_
      refine awp_seqP rfl ?_
      refine awp_regP (Γ := noEnv) [8] (noEnv_ok _ _) rfl rfl rfl (fun K hK => ?_)
      simp (disch := omega) only [Try.f49, go_sem, Nat.reduceAdd, ↓reduceIte]
      refine hK _ ?_
      refine nx_then ?_
      refine awp_retP rfl ?_
      exact ⟨rfl, by simp only [up_app, if_true], rfl, cA_nm _⟩
    · skip
      refine awp_drop rfl ?_
      have hij3 : ¬ i3 > j3 := by omega
      rw [if_neg hij3] at hr
      have hi3n : i3 < n := by omega
      have hsw3 : (d1.setIfInBounds i3 d1[j3]!).setIfInBounds j3 d1[i3]! = Sort.swp d1 i3 j3 := rfl
      have ej3 : (j3 : Int) - 1 = ((j3 - 1 : Nat) : Int) := by omega
      refine awp_skipP rfl ?_
      refine nx_then ?_
      refine awp_seqP rfl ?_
      refine awp_drwP (Γ := noEnv) (fun _ => 2) [0, 1, 9, 10] mixed (noEnv_ok _ _) rfl rfl rfl (by kernel_rfl) (fun K hK => ?_)
      simp (disch := omega) only [Try.f49, go_sem, Nat.reduceAdd, ↓reduceIte, hsw3, hs1, Int.toNat_natCast]
      refine hK _ ?_
      refine nx_then ?_
      refine awp_seqP rfl ?_
      refine awp_regP (Γ := noEnv) [0, 1, 9, 10] (noEnv_ok _ _) rfl rfl rfl (fun K hK => ?_)
      simp (disch := omega) only [Try.f49, go_sem, Nat.reduceAdd, ↓reduceIte]
      refine hK _ ?_
      refine nx_then ?_
      refine awp_regP (Γ := noEnv) [0, 1, 9, 10] (noEnv_ok _ _) rfl rfl rfl (fun K hK => ?_)
      simp (disch := omega) only [Try.f49, go_sem, Nat.reduceAdd, ↓reduceIte, ej3]
      refine hK _ ?_
      refine nx_blk (nx_loop ?_)
      refine ⟨⟨i3 + 1, j3 - 1, Sort.swp d1 i3 j3, _⟩, ⟨hr, by simp only [swp_size]; exact hs1, by simp only; omega, by simp only; omega, by simp only; omega⟩, by simp only; omega, ⟨fun _ => .inr (by simp only [Int.natCast_add, Int.natCast_one]), hsub_cons (by simp (disch := omega) only [up_app, ↓reduceIte, eq_self]) hsub_nil, Nat.le_refl _⟩⟩
  · cases hg
theorem oku100 : EntOK Try.prog GLh 49 (.heap (mutH peG)) := ⟨⟨_, Try.func49, rfl, rfl⟩, pe_ok⟩
end Go.AX

namespace Go.AX
open Go Go.Proofs

theorem sd_size : ∀ (j : Nat) (d : Array T32), (Sort.shiftDown ltN j d).size = d.size
  | 0, d => rfl
  | j + 1, d => by
    rw [Sort.shiftDown]
    split
    · rfl
    · rw [sd_size j, swp_size]
theorem su_size (b : Nat) : ∀ (m j : Nat) (d : Array T32), b - j ≤ m → (Sort.shiftUp ltN b j d).size = d.size := by
  intro m
  induction m with
  | zero => intro j d h; rw [Sort.shiftUp, if_neg (by omega)]
  | succ m ih =>
    intro j d h
    rw [Sort.shiftUp]
    split
    · split
      · rfl
      · rw [ih _ _ (by omega), swp_size]
    · rfl
theorem ss_le (b : Nat) (d : Array T32) : ∀ (m i : Nat), b - i ≤ m → i ≤ b → i ≤ Sort.scanSorted ltN d b i ∧ Sort.scanSorted ltN d b i ≤ b := by
  intro m
  induction m with
  | zero => intro i h hi; rw [Sort.scanSorted, decide_eq_false (by omega : ¬ i < b), Bool.false_and]; simp only [Bool.false_eq_true, if_false]; omega
  | succ m ih =>
    intro i h hi
    rw [Sort.scanSorted]
    by_cases hib : i < b
    · split
      · have := ih (i + 1) (by omega) (by omega); omega
      · omega
    · rw [decide_eq_false hib, Bool.false_and]; simp only [Bool.false_eq_true, if_false]; omega

set_option maxHeartbeats 1000000 in
theorem pi_sc {id n a b I I2 nx0 cx0 : Nat} {s : Int} {gg : Bool} {D : Array T32} {Q : Exit → S → Prop} (hI : Sort.scanSorted ltN D b I = I2) (hs : D.size = n) (hI1 : 0 < I) (hb : b ≤ n) (hbig : n ≤ 1000000) (hid : id < cx0)
    (hQ : ∀ n1 c1, id < c1 → Q .normal { fr := [(0, .os id 0 n 1 gg), (1, .i (a : Int)), (2, .i (b : Int)), (7, .i (I2 : Int)), (8, .i s)], hp := upd (fun _ => none) id (.cells (cA D) true), nx := n1, cx := c1 }) :
    Awp Try.prog GLh Try.f47.ntmps (cl (cl (cl (cr (cl (cl (cr (cl (cr (cr (bodyOf Try.f47))))))))))) { fr := [(0, .os id 0 n 1 gg), (1, .i (a : Int)), (2, .i (b : Int)), (7, .i (I : Int)), (8, .i s)], hp := upd (fun _ => none) id (.cells (cA D) true), nx := nx0, cx := cx0 } Q := by
    refine awp_blockN 2 rfl rfl ?_
    refine awp_loopP (fun q : SKC => { fr := [(0, .os id 0 n 1 gg), (1, .i a), (2, .i b), (7, .i q.k), (8, .i s)], hp := upd (fun _ => none) id (.cells (cA D) true), nx := 0, cx := q.c }) (fun q => Sort.scanSorted ltN D b q.k = I2 ∧ 0 < q.k ∧ id < q.c) (fun q => b - q.k) rfl ⟨⟨I, _⟩, ⟨hI, hI1, hid⟩, sub_same rfl rfl (Nat.le_refl _)⟩ ?_
    rintro ⟨i, c⟩ ⟨hr, hi, hc⟩ n0
    simp only at hr hi hc ⊢
    by_cases hij : i < b
    · skip
      have hd1 : decide ((i : Int) < (b : Int)) = true := decide_eq_true (by omega)
      have hin : i < n := by omega
      have ei : (i : Int) - 1 = ((i - 1 : Nat) : Int) := by omega
      obtain ⟨v, hv⟩ : ∃ v, ltN D[i]! D[i - 1]! = v := ⟨_, rfl⟩
      rw [Sort.scanSorted, decide_eq_true hij, Bool.true_and, hv] at hr
      refine awp_seqP rfl ?_
      refine awp_seqP rfl ?_
      refine awp_drwP (Γ := envL [(48, .pure true lessG)]) (fun k => if k = 13 then 0 else 2) [32, 0, 1, 2, 7, 8] mixed (envOK_cons oku99 envOK_nil) rfl rfl rfl (by kernel_rfl) (fun K hK => ?_)
      simp (disch := omega) only [Try.f47, go_sem, Nat.reduceAdd, ↓reduceIte, hd1, ei, hv, Int.toNat_natCast]
      refine hK _ ?_
      refine nx_then ?_
      cases v
      · skip
        simp only [Bool.not_false, if_true] at hr
        refine awp_ifB (.tmp 32) rfl rfl rfl (fun h => ?_) (fun h => ?_)
        · skip
          refine awp_drop rfl ?_
          refine awp_skipP rfl ?_
          refine nx_then ?_
          refine awp_blockN 3 rfl rfl ?_
          refine awp_regP (Γ := noEnv) [0, 1, 2, 7, 8] (noEnv_ok _ _) rfl rfl rfl (fun K hK => ?_)
          simp (disch := omega) only [Try.f47, go_sem, Nat.reduceAdd, ↓reduceIte]
          refine hK _ ?_
          refine nx_blk (nx_loop ?_)
          refine ⟨⟨i + 1, _⟩, ⟨hr, by simp only; omega, by simp only; omega⟩, by simp only; omega, sub_same (by simp only [Int.natCast_add, Int.natCast_one]) rfl (Nat.le_refl _)⟩
        · skip
          refine awp_drop rfl ?_
          cases h
      · skip
        simp only [Bool.not_true, Bool.false_eq_true, if_false] at hr
        subst hr
        refine awp_ifB (.tmp 32) rfl rfl rfl (fun h => ?_) (fun h => ?_)
        · skip
          refine awp_drop rfl ?_
          cases h
        · skip
          refine awp_drop rfl ?_
          refine awp_exitN 2 rfl rfl ?_
          refine nx_ex_then (nx_ex_loop (nx_ex_blk ?_))
          exact hQ _ _ (by omega)
    · skip
      have hd1 : decide ((i : Int) < (b : Int)) = false := decide_eq_false (by omega)
      rw [Sort.scanSorted, decide_eq_false hij, Bool.false_and] at hr
      simp only [Bool.false_eq_true, if_false] at hr
      subst hr
      refine awp_seqP rfl ?_
      refine awp_seqP rfl ?_
      refine awp_drwP (Γ := envL [(48, .pure true lessG)]) (fun k => if k = 13 then 0 else 2) [32, 0, 1, 2, 7, 8] mixed (envOK_cons oku99 envOK_nil) rfl rfl rfl (by kernel_rfl) (fun K hK => ?_)
      simp (disch := omega) only [Try.f47, go_sem, Nat.reduceAdd, reduceCtorEq, ↓reduceIte, hd1]
      refine hK _ ?_
      refine nx_then ?_
      refine awp_ifB (.tmp 32) rfl rfl rfl (fun h => ?_) (fun h => ?_)
      · skip
        refine awp_drop rfl ?_
        cases h
      · skip
        refine awp_drop rfl ?_
        refine awp_exitN 2 rfl rfl ?_
        refine nx_ex_then (nx_ex_loop (nx_ex_blk ?_))
        exact hQ _ _ (by omega)

set_option maxHeartbeats 1000000 in
theorem pi_sd {id n a b i J nx0 cx0 : Nat} {s : Int} {gg : Bool} {D E : Array T32} {Q : Exit → S → Prop} (hE : Sort.shiftDown ltN J D = E) (hs : D.size = n) (hJ : J < n) (hbig : n ≤ 1000000) (hid : id < cx0)
    (hQ : ∀ jj n1 c1, id < c1 → Q .normal { fr := [(0, .os id 0 n 1 gg), (1, .i (a : Int)), (2, .i (b : Int)), (7, .i (i : Int)), (8, .i s), (9, .i jj)], hp := upd (fun _ => none) id (.cells (cA E) true), nx := n1, cx := c1 }) :
    Awp Try.prog GLh Try.f47.ntmps (cr (cl (cr (cl (cr (cr (cr (cr (cl (cl (cr (cl (cl (cr (cl (cr (cr (bodyOf Try.f47)))))))))))))))))) { fr := [(0, .os id 0 n 1 gg), (1, .i (a : Int)), (2, .i (b : Int)), (7, .i (i : Int)), (8, .i s), (9, .i (J : Int))], hp := upd (fun _ => none) id (.cells (cA D) true), nx := nx0, cx := cx0 } Q := by
    refine awp_blockN 4 rfl rfl ?_
    refine awp_loopP (fun q : SDC => { fr := [(0, .os id 0 n 1 gg), (1, .i a), (2, .i b), (7, .i i), (8, .i s), (9, .i q.k)], hp := upd (fun _ => none) id (.cells (cA q.d) true), nx := 0, cx := q.c }) (fun q => Sort.shiftDown ltN q.k q.d = E ∧ q.d.size = n ∧ q.k < n ∧ id < q.c) (fun q => q.k) rfl ⟨⟨J, D, _⟩, ⟨hE, hs, hJ, hid⟩, sub_same rfl rfl (Nat.le_refl _)⟩ ?_
    rintro ⟨j, d1, c⟩ ⟨hr, hs1, hj, hc⟩ n0
    simp only at hr hs1 hj hc ⊢
    refine awp_seqP rfl ?_
    refine awp_seqP rfl ?_
    refine awp_regP (Γ := noEnv) [65, 0, 1, 2, 7, 8, 9] (noEnv_ok _ _) rfl rfl rfl (fun K hK => ?_)
    simp (disch := omega) only [Try.f47, go_sem, Nat.reduceAdd, ↓reduceIte]
    refine hK _ ?_
    refine nx_then ?_
    refine awp_ifD (.tmp 65) rfl rfl rfl (fun h => ?_) (fun h => ?_)
    · skip
      refine awp_drop rfl ?_
      obtain ⟨j, rfl⟩ : ∃ j', j = j' + 1 := ⟨j - 1, by omega⟩
      have ej1 : ((j + 1 : Nat) : Int) - 1 = (j : Int) := by omega
      obtain ⟨v, hv⟩ : ∃ v, ltN d1[j + 1]! d1[j]! = v := ⟨_, rfl⟩
      rw [Sort.shiftDown, hv] at hr
      refine awp_skipP rfl ?_
      refine nx_then ?_
      refine awp_seqP rfl ?_
      refine awp_blockN 5 rfl rfl ?_
      refine awp_seqP rfl ?_
      refine awp_seqP rfl ?_
      refine awp_drwP (Γ := envL [(48, .pure true lessG)]) (fun k => if k = 9 then 0 else 2) [78, 0, 1, 2, 7, 8, 9] mixed (envOK_cons oku99 envOK_nil) rfl rfl rfl (by kernel_rfl) (fun K hK => ?_)
      simp (disch := omega) only [Try.f47, go_sem, Nat.reduceAdd, ↓reduceIte, ej1, hv, Int.toNat_natCast]
      refine hK _ ?_
      refine nx_then ?_
      cases v
      · skip
        simp only [Bool.not_false, if_true] at hr
        subst hr
        refine awp_ifB (.tmp 78) rfl rfl rfl (fun h => ?_) (fun h => ?_)
        · skip
          refine awp_drop rfl ?_
          refine awp_exitN 4 rfl rfl ?_
          refine nx_ex_then (nx_ex_out (nx_ex_then (nx_ex_loop (nx_ex_blk ?_))) rfl)
          exact hQ _ _ _ (by omega)
        · skip
          refine awp_drop rfl ?_
          cases h
      · skip
        simp only [Bool.not_true, Bool.false_eq_true, if_false] at hr
        refine awp_ifB (.tmp 78) rfl rfl rfl (fun h => ?_) (fun h => ?_)
        · skip
          refine awp_drop rfl ?_
          cases h
        · skip
          refine awp_drop rfl ?_
          refine awp_skipP rfl ?_
          refine nx_then ?_
          have hsw : (d1.setIfInBounds (j + 1) d1[j]!).setIfInBounds j d1[j + 1]! = Sort.swp d1 (j + 1) j := rfl
          refine awp_drwP (Γ := noEnv) (fun _ => 2) [0, 1, 2, 7, 8, 9] mixed (noEnv_ok _ _) rfl rfl rfl (by kernel_rfl) (fun K hK => ?_)
          simp (disch := omega) only [Try.f47, go_sem, Nat.reduceAdd, ↓reduceIte, ej1, hsw, Int.toNat_natCast]
          refine hK _ ?_
          refine nx_blk (nx_then ?_)
          refine awp_regP (Γ := noEnv) [0, 1, 2, 7, 8, 9] (noEnv_ok _ _) rfl rfl rfl (fun K hK => ?_)
          simp (disch := omega) only [Try.f47, go_sem, Nat.reduceAdd, ↓reduceIte, ej1]
          refine hK _ ?_
          refine nx_loop ?_
          refine ⟨⟨j, Sort.swp d1 (j + 1) j, _⟩, ⟨hr, by simp only [swp_size]; exact hs1, by simp only; omega, by simp only; omega⟩, by simp only; omega, ⟨fun _ => .inr rfl, hsub_cons (by simp (disch := omega) only [up_app, ↓reduceIte, eq_self]) hsub_nil, Nat.le_refl _⟩⟩
    · skip
      refine awp_drop rfl ?_
      obtain rfl : j = 0 := by omega
      rw [Sort.shiftDown] at hr
      subst hr
      refine awp_exitN 4 rfl rfl ?_
      refine nx_ex_then (nx_ex_loop (nx_ex_blk ?_))
      exact hQ _ _ _ (by omega)

set_option maxHeartbeats 1000000 in
theorem pi_su {id n a b i J nx0 cx0 : Nat} {s : Int} {gg : Bool} {D E : Array T32} {Q : Exit → S → Prop} (hE : Sort.shiftUp ltN b J D = E) (hs : D.size = n) (hJ : 0 < J) (hb : b ≤ n) (hbig : n ≤ 1000000) (hid : id < cx0)
    (hQ : ∀ jj n1 c1, id < c1 → Q .normal { fr := [(0, .os id 0 n 1 gg), (1, .i (a : Int)), (2, .i (b : Int)), (7, .i (i : Int)), (8, .i s), (10, .i jj)], hp := upd (fun _ => none) id (.cells (cA E) true), nx := n1, cx := c1 }) :
    Awp Try.prog GLh Try.f47.ntmps (cr (cl (cr (cr (cr (cr (cr (cr (cl (cl (cr (cl (cl (cr (cl (cr (cr (bodyOf Try.f47)))))))))))))))))) { fr := [(0, .os id 0 n 1 gg), (1, .i (a : Int)), (2, .i (b : Int)), (7, .i (i : Int)), (8, .i s), (10, .i (J : Int))], hp := upd (fun _ => none) id (.cells (cA D) true), nx := nx0, cx := cx0 } Q := by
    refine awp_blockN 6 rfl rfl ?_
    refine awp_loopP (fun q : SDC => { fr := [(0, .os id 0 n 1 gg), (1, .i a), (2, .i b), (7, .i i), (8, .i s), (10, .i q.k)], hp := upd (fun _ => none) id (.cells (cA q.d) true), nx := 0, cx := q.c }) (fun q => Sort.shiftUp ltN b q.k q.d = E ∧ q.d.size = n ∧ 0 < q.k ∧ id < q.c) (fun q => b - q.k) rfl ⟨⟨J, D, _⟩, ⟨hE, hs, hJ, hid⟩, sub_same rfl rfl (Nat.le_refl _)⟩ ?_
    rintro ⟨j, d1, c⟩ ⟨hr, hs1, hj, hc⟩ n0
    simp only at hr hs1 hj hc ⊢
    refine awp_seqP rfl ?_
    refine awp_seqP rfl ?_
    refine awp_regP (Γ := noEnv) [103, 0, 1, 2, 7, 8, 10] (noEnv_ok _ _) rfl rfl rfl (fun K hK => ?_)
    simp (disch := omega) only [Try.f47, go_sem, Nat.reduceAdd, ↓reduceIte]
    refine hK _ ?_
    refine nx_then ?_
    refine awp_ifD (.tmp 103) rfl rfl rfl (fun h => ?_) (fun h => ?_)
    · skip
      refine awp_drop rfl ?_
      have hjb : j < b := by omega
      have hjn : j < n := by omega
      have ej1 : (j : Int) - 1 = ((j - 1 : Nat) : Int) := by omega
      obtain ⟨v, hv⟩ : ∃ v, ltN d1[j]! d1[j - 1]! = v := ⟨_, rfl⟩
      rw [Sort.shiftUp, if_pos hjb, hv] at hr
      refine awp_skipP rfl ?_
      refine nx_then ?_
      refine awp_seqP rfl ?_
      refine awp_blockN 7 rfl rfl ?_
      refine awp_seqP rfl ?_
      refine awp_seqP rfl ?_
      refine awp_drwP (Γ := envL [(48, .pure true lessG)]) (fun k => if k = 9 then 0 else 2) [116, 0, 1, 2, 7, 8, 10] mixed (envOK_cons oku99 envOK_nil) rfl rfl rfl (by kernel_rfl) (fun K hK => ?_)
      simp (disch := omega) only [Try.f47, go_sem, Nat.reduceAdd, ↓reduceIte, ej1, hv, Int.toNat_natCast]
      refine hK _ ?_
      refine nx_then ?_
      cases v
      · skip
        simp only [Bool.not_false, if_true] at hr
        subst hr
        refine awp_ifB (.tmp 116) rfl rfl rfl (fun h => ?_) (fun h => ?_)
        · skip
          refine awp_drop rfl ?_
          refine awp_exitN 6 rfl rfl ?_
          refine nx_ex_then (nx_ex_out (nx_ex_then (nx_ex_loop (nx_ex_blk ?_))) rfl)
          exact hQ _ _ _ (by omega)
        · skip
          refine awp_drop rfl ?_
          cases h
      · skip
        simp only [Bool.not_true, Bool.false_eq_true, if_false] at hr
        refine awp_ifB (.tmp 116) rfl rfl rfl (fun h => ?_) (fun h => ?_)
        · skip
          refine awp_drop rfl ?_
          cases h
        · skip
          refine awp_drop rfl ?_
          refine awp_skipP rfl ?_
          refine nx_then ?_
          have hsw : (d1.setIfInBounds j d1[j - 1]!).setIfInBounds (j - 1) d1[j]! = Sort.swp d1 j (j - 1) := rfl
          refine awp_drwP (Γ := noEnv) (fun _ => 2) [0, 1, 2, 7, 8, 10] mixed (noEnv_ok _ _) rfl rfl rfl (by kernel_rfl) (fun K hK => ?_)
          simp (disch := omega) only [Try.f47, go_sem, Nat.reduceAdd, ↓reduceIte, ej1, hsw, Int.toNat_natCast]
          refine hK _ ?_
          refine nx_blk (nx_then ?_)
          refine awp_regP (Γ := noEnv) [0, 1, 2, 7, 8, 10] (noEnv_ok _ _) rfl rfl rfl (fun K hK => ?_)
          simp (disch := omega) only [Try.f47, go_sem, Nat.reduceAdd, ↓reduceIte]
          refine hK _ ?_
          refine nx_loop ?_
          refine ⟨⟨j + 1, Sort.swp d1 j (j - 1), _⟩, ⟨hr, by simp only [swp_size]; exact hs1, by simp only; omega, by simp only; omega⟩, by simp only; omega, ⟨fun _ => .inr (by simp only [Int.natCast_add, Int.natCast_one]), hsub_cons (by simp (disch := omega) only [up_app, ↓reduceIte, eq_self]) hsub_nil, Nat.le_refl _⟩⟩
    · skip
      refine awp_drop rfl ?_
      have hjb : ¬ j < b := by omega
      rw [Sort.shiftUp, if_neg hjb] at hr
      subst hr
      refine awp_exitN 6 rfl rfl ?_
      refine nx_ex_then (nx_ex_loop (nx_ex_blk ?_))
      exact hQ _ _ _ (by omega)

structure SPI where
  s : Nat
  i : Nat
  d : Array T32
  c : Nat
def piG : List AV → List AV → Option (AV × List AV)
  | [.os _ 0 n 1 _, .i a, .i b], xs => obind (unA xs) fun l => guardO (l.length = n ∧ 0 ≤ a ∧ a < b ∧ b ≤ n ∧ n ≤ 1000000) (some (.b (Sort.partialInsertionSort ltN l.toArray a.toNat b.toNat).2, cA (Sort.partialInsertionSort ltN l.toArray a.toNat b.toNat).1))
  | _, _ => none
theorem piG_eq (id n : Nat) (gg : Bool) (a b : Int) (xs : List AV) : piG [.os id 0 n 1 gg, .i a, .i b] xs = obind (unA xs) fun l => guardO (l.length = n ∧ 0 ≤ a ∧ a < b ∧ b ≤ n ∧ n ≤ 1000000) (some (.b (Sort.partialInsertionSort ltN l.toArray a.toNat b.toNat).2, cA (Sort.partialInsertionSort ltN l.toArray a.toNat b.toNat).1)) := (rfl)
attribute [go_sem] piG_eq
set_option maxHeartbeats 2000000 in
theorem pi_ok : HeapOK Try.prog GLh 47 (mutH piG) := by
  refine mut_of_awp Try.func47 (bodyOf_some rfl) ?_
  intro id off n e gg rest nx xs r ys hg
  unfold piG at hg
  split at hg
  · rename_i id2 n2 gg2 a0 b0 heq
    simp only [List.cons.injEq, AV.os.injEq] at heq
    obtain ⟨⟨rfl, rfl, rfl, rfl, rfl⟩, rfl⟩ := heq
    replace hg := obind_inv hg; obtain ⟨l, hl, hg⟩ := hg
    replace hg := guardO_inv hg; obtain ⟨⟨hn, ha, hab, hbn, hbig⟩, hg⟩ := hg
    simp only [Option.some.injEq, Prod.mk.injEq] at hg; obtain ⟨rfl, rfl⟩ := hg
    have := unA_inv hl; subst this
    obtain ⟨a, rfl⟩ := Int.eq_ofNat_of_zero_le ha
    obtain ⟨b, rfl⟩ := Int.eq_ofNat_of_zero_le (show 0 ≤ b0 by omega)
    simp only [Int.toNat_natCast] at *
    obtain ⟨d, hd⟩ : ∃ d, l.toArray = d := ⟨_, rfl⟩
    have hds : d.size = n := by rw [← hd]; simpa using hn
    have hab2 : a < b := by omega
    have hbn2 : b ≤ n := by omega
    rw [hd]
    refine ⟨Nat.le_of_ble_eq_true rfl, fun hid => ?_⟩
    clear hl hn ha hab hbn
    obtain ⟨⟨E, F⟩, hR⟩ : ∃ R, Sort.partialInsertionSort ltN d a b = R := ⟨_, rfl⟩
    rw [hR]
    have hR0 : Sort.partialIns ltN a b 5 (a + 1) d = (E, F) := hR
    clear hR
    have ebL : (b : Int) - (a : Int) = ((b - a : Nat) : Int) := by omega
    refine awp_seqP rfl ?_
    refine awp_regP (Γ := noEnv) [0, 1, 2] (noEnv_ok _ _) rfl rfl rfl (fun K hK => ?_)
    simp (disch := omega) only [Try.f47, go_sem, Nat.reduceAdd, ↓reduceIte]
    refine hK _ ?_
    refine nx_then ?_
    refine awp_seqP rfl ?_
    refine awp_regP (Γ := noEnv) [0, 1, 2, 7] (noEnv_ok _ _) rfl rfl rfl (fun K hK => ?_)
    simp (disch := omega) only [Try.f47, go_sem, Nat.reduceAdd, ↓reduceIte]
    refine hK _ ?_
    refine nx_then ?_
    refine awp_seqP rfl ?_
    refine awp_seqP rfl ?_
    refine awp_regP (Γ := noEnv) [0, 1, 2, 7, 8] (noEnv_ok _ _) rfl rfl rfl (fun K hK => ?_)
    simp (disch := omega) only [Try.f47, go_sem, ↓reduceIte]
    refine hK _ ?_
    refine nx_then ?_
    refine awp_blockN 0 rfl rfl ?_
    refine awp_loopP (fun p : SPI => { fr := [(0, .os id 0 n 1 gg), (1, .i a), (2, .i b), (7, .i p.i), (8, .i (5 - (p.s : Int)))], hp := upd (fun _ => none) id (.cells (cA p.d) true), nx := 0, cx := p.c }) (fun p => Sort.partialIns ltN a b p.s p.i p.d = (E, F) ∧ p.d.size = n ∧ a < p.i ∧ p.i ≤ b ∧ p.s ≤ 5 ∧ id < p.c) (fun p => p.s) rfl ⟨⟨5, a + 1, d, _⟩, ⟨hR0, hds, by simp only; omega, by simp only; omega, by simp only; omega, by simp only; omega⟩, sub_same (by simp only [Int.natCast_add, Int.cast_ofNat_Int, Int.sub_self]) rfl (Nat.le_refl _)⟩ ?_
    rintro ⟨s, i, d1, c⟩ ⟨hr, hs1, hai, hib, hs5, hc⟩ n0
    simp only at hr hs1 hai hib hs5 hc ⊢
    refine awp_seqP rfl ?_
    refine awp_seqP rfl ?_
    refine awp_regP (Γ := noEnv) [14, 0, 1, 2, 7, 8] (noEnv_ok _ _) rfl rfl rfl (fun K hK => ?_)
    simp (disch := omega) only [Try.f47, go_sem, Nat.reduceAdd, ↓reduceIte]
    refine hK _ ?_
    refine nx_then ?_
    refine awp_ifD (.tmp 14) rfl rfl rfl (fun h => ?_) (fun h => ?_)
    · skip
      refine awp_drop rfl ?_
      obtain ⟨s, rfl⟩ : ∃ s', s = s' + 1 := ⟨s - 1, by omega⟩
      obtain ⟨i2, hi2⟩ : ∃ i2, Sort.scanSorted ltN d1 b i = i2 := ⟨_, rfl⟩
      have gi2 := ss_le b d1 _ i (Nat.le_refl _) hib
      rw [hi2] at gi2
      rw [Sort.partialIns, hi2] at hr
      refine awp_skipP rfl ?_
      refine nx_then ?_
      refine awp_seqP rfl ?_
      refine awp_blockN 1 rfl rfl ?_
      refine awp_seqP rfl ?_
      refine pi_sc hi2 hs1 (by omega) hbn2 hbig (by omega) (fun n1 c1 hc1 => ?_)
      refine nx_then ?_
      refine awp_seqP rfl ?_
      refine awp_seqP rfl ?_
      refine awp_regP (Γ := noEnv) [37, 0, 1, 2, 7, 8] (noEnv_ok _ _) rfl rfl rfl (fun K hK => ?_)
      simp (disch := omega) only [Try.f47, go_sem, Nat.reduceAdd, ↓reduceIte]
      refine hK _ ?_
      refine nx_then ?_
      refine awp_ifD (.tmp 37) rfl rfl rfl (fun h => ?_) (fun h => ?_)
      · skip
        refine awp_drop rfl ?_
        have hib2 : i2 = b := by omega
        rw [if_pos hib2] at hr
        simp only [Prod.mk.injEq] at hr
        obtain ⟨rfl, rfl⟩ := hr
        refine awp_seqP rfl ?_
        refine awp_regP (Γ := noEnv) [6] (noEnv_ok _ _) rfl rfl rfl (fun K hK => ?_)
        simp (disch := omega) only [Try.f47, go_sem, ↓reduceIte]
        refine hK _ ?_
        refine nx_then ?_
        refine awp_retP rfl ?_
        refine nx_ret_then (nx_ret_blk (nx_ret_then (nx_ret_loop (nx_ret_blk (nx_ret_then ?_)))))
        exact ⟨rfl, by simp only [up_app, if_true], rfl, cA_nm _⟩
      · skip
        refine awp_drop rfl ?_
        have hib2 : ¬ i2 = b := by omega
        rw [if_neg hib2] at hr
        refine awp_skipP rfl ?_
        refine nx_then ?_
        refine awp_seqP rfl ?_
        refine awp_seqP rfl ?_
        refine awp_regP (Γ := noEnv) [41, 0, 1, 2, 7, 8] (noEnv_ok _ _) rfl rfl rfl (fun K hK => ?_)
        simp (disch := omega) only [Try.f47, go_sem, Nat.reduceAdd, ↓reduceIte]
        refine hK _ ?_
        refine nx_then ?_
        refine awp_ifD (.tmp 41) rfl rfl rfl (fun h => ?_) (fun h => ?_)
        · skip
          refine awp_drop rfl ?_
          have hab50 : b - a < 50 := by omega
          rw [if_pos hab50] at hr
          simp only [Prod.mk.injEq] at hr
          obtain ⟨rfl, rfl⟩ := hr
          refine awp_seqP rfl ?_
          refine awp_regP (Γ := noEnv) [6] (noEnv_ok _ _) rfl rfl rfl (fun K hK => ?_)
          simp (disch := omega) only [Try.f47, go_sem, ↓reduceIte]
          refine hK _ ?_
          refine nx_then ?_
          refine awp_retP rfl ?_
          refine nx_ret_then (nx_ret_blk (nx_ret_then (nx_ret_loop (nx_ret_blk (nx_ret_then ?_)))))
          exact ⟨rfl, by simp only [up_app, if_true], rfl, cA_nm _⟩
        · skip
          refine awp_drop rfl ?_
          have hab50 : ¬ b - a < 50 := by omega
          rw [if_neg hab50] at hr
          refine awp_skipP rfl ?_
          refine nx_then ?_
          refine awp_seqP rfl ?_
          have hin : i2 < n := by omega
          have ei2 : (i2 : Int) - 1 = ((i2 - 1 : Nat) : Int) := by omega
          have hsw : (d1.setIfInBounds i2 d1[i2 - 1]!).setIfInBounds (i2 - 1) d1[i2]! = Sort.swp d1 i2 (i2 - 1) := rfl
          refine awp_drwP (Γ := noEnv) (fun _ => 2) [0, 1, 2, 7, 8] mixed (noEnv_ok _ _) rfl rfl rfl (by kernel_rfl) (fun K hK => ?_)
          simp (disch := omega) only [Try.f47, go_sem, Nat.reduceAdd, ↓reduceIte, ei2, hsw, Int.toNat_natCast]
          refine hK _ ?_
          refine nx_then ?_
          obtain ⟨d2, hd2⟩ : ∃ d2, Sort.swp d1 i2 (i2 - 1) = d2 := ⟨_, rfl⟩
          have hs2 : d2.size = n := by rw [← hd2, swp_size]; exact hs1
          rw [hd2]
          simp only [hd2] at hr
          have e5 : 5 - ((s + 1 : Nat) : Int) + 1 = 5 - (s : Int) := by omega
          have ei3 : (i2 : Int) + 1 = ((i2 + 1 : Nat) : Int) := by omega
          clear hsw
          refine awp_seqP rfl ?_
          refine awp_seqP rfl ?_
          refine awp_regP (Γ := noEnv) [61, 0, 1, 2, 7, 8] (noEnv_ok _ _) rfl rfl rfl (fun K hK => ?_)
          simp (disch := omega) only [Try.f47, go_sem, Nat.reduceAdd, ↓reduceIte]
          refine hK _ ?_
          refine nx_then ?_
          refine awp_ifD (.tmp 61) rfl rfl rfl (fun h => ?_) (fun h => ?_)
          · skip
            refine awp_drop rfl ?_
            have hia : i2 - a ≥ 2 := by omega
            simp only [if_pos hia] at hr
            obtain ⟨d3, hd3⟩ : ∃ d3, Sort.shiftDown ltN (i2 - 1) d2 = d3 := ⟨_, rfl⟩
            have hs3 : d3.size = n := by rw [← hd3, sd_size]; exact hs2
            rw [hd3] at hr
            refine awp_seqP rfl ?_
            refine awp_regP (Γ := noEnv) [0, 1, 2, 7, 8, 9] (noEnv_ok _ _) rfl rfl rfl (fun K hK => ?_)
            simp (disch := omega) only [Try.f47, go_sem, Nat.reduceAdd, ↓reduceIte, ei2]
            refine hK _ ?_
            refine nx_then ?_
            refine pi_sd hd3 hs2 (by omega) hbig (by omega) (fun jj n2 c2 hc2 => ?_)
            refine nx_then ?_
            refine awp_seqP rfl ?_
            refine awp_regP (Γ := noEnv) [98, 0, 1, 2, 7, 8] (noEnv_ok _ _) rfl rfl rfl (fun K hK => ?_)
            simp (disch := omega) only [Try.f47, go_sem, Nat.reduceAdd, ↓reduceIte]
            refine hK _ ?_
            refine nx_then ?_
            refine awp_ifD (.tmp 98) rfl rfl rfl (fun h => ?_) (fun h => ?_)
            · skip
              refine awp_drop rfl ?_
              have hbi : b - i2 ≥ 2 := by omega
              simp only [if_pos hbi] at hr
              obtain ⟨d4, hd4⟩ : ∃ d4, Sort.shiftUp ltN b (i2 + 1) d3 = d4 := ⟨_, rfl⟩
              have hs4 : d4.size = n := by rw [← hd4, su_size b _ _ _ (Nat.le_refl _)]; exact hs3
              rw [hd4] at hr
              refine awp_seqP rfl ?_
              refine awp_regP (Γ := noEnv) [0, 1, 2, 7, 8, 10] (noEnv_ok _ _) rfl rfl rfl (fun K hK => ?_)
              simp (disch := omega) only [Try.f47, go_sem, Nat.reduceAdd, ↓reduceIte, ei3]
              refine hK _ ?_
              refine nx_then ?_
              refine pi_su hd4 hs3 (by omega) hbn2 hbig (by omega) (fun jj n3 c3 hc3 => ?_)
              refine nx_blk (nx_then ?_)
              refine awp_regP (Γ := noEnv) [0, 1, 2, 7, 8] (noEnv_ok _ _) rfl rfl rfl (fun K hK => ?_)
              simp (disch := omega) only [Try.f47, go_sem, Nat.reduceAdd, ↓reduceIte]
              refine hK _ ?_
              refine nx_loop ?_
              refine ⟨⟨s, i2, d4, _⟩, ⟨hr, hs4, by simp only; omega, by simp only; omega, by simp only; omega, by simp only; omega⟩, by simp only; omega, sub_same (by simp only [e5]) rfl (Nat.le_refl _)⟩
            · skip
              refine awp_drop rfl ?_
              have hbi : ¬ b - i2 ≥ 2 := by omega
              simp only [if_neg hbi] at hr
              refine awp_skipP rfl ?_
              refine nx_blk (nx_then ?_)
              refine awp_regP (Γ := noEnv) [0, 1, 2, 7, 8] (noEnv_ok _ _) rfl rfl rfl (fun K hK => ?_)
              simp (disch := omega) only [Try.f47, go_sem, Nat.reduceAdd, ↓reduceIte]
              refine hK _ ?_
              refine nx_loop ?_
              refine ⟨⟨s, i2, d3, _⟩, ⟨hr, hs3, by simp only; omega, by simp only; omega, by simp only; omega, by simp only; omega⟩, by simp only; omega, sub_same (by simp only [e5]) rfl (Nat.le_refl _)⟩
          · skip
            refine awp_drop rfl ?_
            have hia : ¬ i2 - a ≥ 2 := by omega
            simp only [if_neg hia] at hr
            refine awp_skipP rfl ?_
            refine nx_then ?_
            refine awp_seqP rfl ?_
            refine awp_regP (Γ := noEnv) [98, 0, 1, 2, 7, 8] (noEnv_ok _ _) rfl rfl rfl (fun K hK => ?_)
            simp (disch := omega) only [Try.f47, go_sem, Nat.reduceAdd, ↓reduceIte]
            refine hK _ ?_
            refine nx_then ?_
            refine awp_ifD (.tmp 98) rfl rfl rfl (fun h => ?_) (fun h => ?_)
            · skip
              refine awp_drop rfl ?_
              have hbi : b - i2 ≥ 2 := by omega
              simp only [if_pos hbi] at hr
              obtain ⟨d4, hd4⟩ : ∃ d4, Sort.shiftUp ltN b (i2 + 1) d2 = d4 := ⟨_, rfl⟩
              have hs4 : d4.size = n := by rw [← hd4, su_size b _ _ _ (Nat.le_refl _)]; exact hs2
              rw [hd4] at hr
              refine awp_seqP rfl ?_
              refine awp_regP (Γ := noEnv) [0, 1, 2, 7, 8, 10] (noEnv_ok _ _) rfl rfl rfl (fun K hK => ?_)
              simp (disch := omega) only [Try.f47, go_sem, Nat.reduceAdd, ↓reduceIte, ei3]
              refine hK _ ?_
              refine nx_then ?_
              refine pi_su hd4 hs2 (by omega) hbn2 hbig (by omega) (fun jj n3 c3 hc3 => ?_)
              refine nx_blk (nx_then ?_)
              refine awp_regP (Γ := noEnv) [0, 1, 2, 7, 8] (noEnv_ok _ _) rfl rfl rfl (fun K hK => ?_)
              simp (disch := omega) only [Try.f47, go_sem, Nat.reduceAdd, ↓reduceIte]
              refine hK _ ?_
              refine nx_loop ?_
              refine ⟨⟨s, i2, d4, _⟩, ⟨hr, hs4, by simp only; omega, by simp only; omega, by simp only; omega, by simp only; omega⟩, by simp only; omega, sub_same (by simp only [e5]) rfl (Nat.le_refl _)⟩
            · skip
              refine awp_drop rfl ?_
              have hbi : ¬ b - i2 ≥ 2 := by omega
              simp only [if_neg hbi] at hr
              refine awp_skipP rfl ?_
              refine nx_blk (nx_then ?_)
              refine awp_regP (Γ := noEnv) [0, 1, 2, 7, 8] (noEnv_ok _ _) rfl rfl rfl (fun K hK => ?_)
              simp (disch := omega) only [Try.f47, go_sem, Nat.reduceAdd, ↓reduceIte]
              refine hK _ ?_
              refine nx_loop ?_
              refine ⟨⟨s, i2, d2, _⟩, ⟨hr, hs2, by simp only; omega, by simp only; omega, by simp only; omega, by simp only; omega⟩, by simp only; omega, sub_same (by simp only [e5]) rfl (Nat.le_refl _)⟩
    · skip
      refine awp_drop rfl ?_
      obtain rfl : s = 0 := by omega
      rw [Sort.partialIns] at hr
      simp only [Prod.mk.injEq] at hr
      obtain ⟨rfl, rfl⟩ := hr
      refine awp_exitN 0 rfl rfl ?_
      refine nx_ex_then (nx_ex_loop (nx_ex_blk ?_))
      refine nx_then ?_
      refine awp_seqP rfl ?_
      refine awp_regP (Γ := noEnv) [6] (noEnv_ok _ _) rfl rfl rfl (fun K hK => ?_)
      simp (disch := omega) only [Try.f47, go_sem, ↓reduceIte]
      refine hK _ ?_
      refine nx_then ?_
      refine awp_retP rfl ?_
      exact ⟨rfl, by simp only [up_app, if_true], rfl, cA_nm _⟩
  · cases hg
theorem oku98 : EntOK Try.prog GLh 47 (.heap (mutH piG)) := ⟨⟨_, Try.func47, rfl, rfl⟩, pi_ok⟩
end Go.AX

namespace Go.AX
open Go Go.Proofs

noncomputable def guardC {α : Type} (p : Prop) (x : Option α) : Option α := @guardO _ p (Classical.propDecidable p) x
theorem guardC_inv {α : Type} {p : Prop} {x : Option α} {y : α} (h : guardC p x = some y) : p ∧ x = some y := @guardO_inv _ p (Classical.propDecidable p) x y h
theorem guardC_T {α : Type} (x : Option α) : guardC True x = x := @guardO_true _ True (Classical.propDecidable True) x trivial
attribute [go_sem] guardC_T
noncomputable def pdqG (N : Nat) : List AV → List AV → Option (AV × List AV)
  | [.os _ 0 n 1 _, .i a, .i b, .i k], xs => obind (unA xs) fun l => guardO (l.length = n ∧ 0 ≤ a ∧ a ≤ b ∧ b ≤ n ∧ 0 ≤ k ∧ k ≤ 1000 ∧ n ≤ 1000000 ∧ b - a < N) (guardC (Sort.Below ltN a.toNat b.toNat l.toArray) (some (.tup [], cA (Sort.pdq ltN l.toArray a.toNat b.toNat k.toNat true true))))
  | _, _ => none
theorem pdqG_eq (N id n : Nat) (gg : Bool) (a b k : Int) (xs : List AV) : pdqG N [.os id 0 n 1 gg, .i a, .i b, .i k] xs = obind (unA xs) fun l => guardO (l.length = n ∧ 0 ≤ a ∧ a ≤ b ∧ b ≤ n ∧ 0 ≤ k ∧ k ≤ 1000 ∧ n ≤ 1000000 ∧ b - a < N) (guardC (Sort.Below ltN a.toNat b.toNat l.toArray) (some (.tup [], cA (Sort.pdq ltN l.toArray a.toNat b.toNat k.toNat true true)))) := (rfl)
attribute [go_sem] pdqG_eq
structure SPQ where
  a : Nat
  b : Nat
  l : Nat
  wb : Bool
  wp : Bool
  d : Array T32
  c : Nat
theorem pdq_ok0 : HeapOK Try.prog GLh 39 (mutH (pdqG 0)) := by
  refine mut_of_awp Try.func39 (bodyOf_some rfl) ?_
  intro id off n e gg rest nx xs r ys hg
  exfalso
  unfold pdqG at hg
  split at hg
  · replace hg := obind_inv hg; obtain ⟨l, hl, hg⟩ := hg
    replace hg := guardO_inv hg; obtain ⟨⟨hn, ha, hab, hbn, hk, hk2, hbig, hN⟩, hg⟩ := hg
    omega
  · cases hg
theorem perm_if {a b : Nat} {d x : Array T32} (c : Prop) [Decidable c] (h : Sort.PermIn a b d x) : Sort.PermIn a b d (if c then x else d) := by
  split
  · exact h
  · exact Sort.permIn_refl _ _ _

set_option maxHeartbeats 1000000 in
theorem pd_brk {id n a b k L nx0 cx0 : Nat} {gg wb wp : Bool} {d : Array T32} {Q : Exit → S → Prop} {k1 : Nat} {d1 : Array T32} (hd1 : (if (!wb) = true then Sort.breakPatterns d a b else d) = d1) (hk1 : (if (!wb) = true then k - 1 else k) = k1) (hk : 0 < k) (hk2 : k ≤ 1000) (hds : d.size = n) (hab : a < b) (hbn : b ≤ n) (hbig : n ≤ 1000000) (hid : id < cx0)
    (hQ : ∀ n1 c1, id < c1 → Q .normal { fr := [(0, .os id 0 n 1 gg), (1, .i (a : Int)), (2, .i (b : Int)), (3, .i (k1 : Int)), (8, .b wb), (9, .b wp), (10, .i (L : Int))], hp := upd (fun _ => none) id (.cells (cA d1) true), nx := n1, cx := c1 }) :
    Awp Try.prog GLh Try.f39.ntmps (cl (cr (cr (cr (cl (cl (cl (cr (cr (bodyOf Try.f39)))))))))) { fr := [(0, .os id 0 n 1 gg), (1, .i (a : Int)), (2, .i (b : Int)), (3, .i (k : Int)), (8, .b wb), (9, .b wp), (10, .i (L : Int))], hp := upd (fun _ => none) id (.cells (cA d) true), nx := nx0, cx := cx0 } Q := by
    cases wb
    · skip
      simp only [Bool.not_false, if_true] at hd1 hk1
      have ek : (k : Int) - 1 = (k1 : Int) := by omega
      refine awp_seqP rfl ?_
      refine awp_regP (Γ := noEnv) [35, 0, 1, 2, 3, 8, 9, 10] (noEnv_ok _ _) rfl rfl rfl (fun K hK => ?_)
      simp (disch := omega) only [Try.f39, go_sem, Nat.reduceAdd, ↓reduceIte]
      refine hK _ ?_
      refine nx_then ?_
      refine awp_ifB (.tmp 35) rfl rfl rfl (fun h => ?_) (fun h => ?_)
      · skip
        refine awp_drop rfl ?_
        refine awp_seqP rfl ?_
        refine awp_regP (Γ := envL [(44, .heap (mutH brkG))]) [0, 1, 2, 3, 8, 9, 10] (envOK_cons oku95 envOK_nil) rfl rfl rfl (fun K hK => ?_)
        simp (disch := omega) only [Try.f39, go_sem, Nat.reduceAdd, ↓reduceIte, hds, hd1, Int.toNat_natCast]
        refine hK _ ?_
        refine nx_then ?_
        refine awp_regP (Γ := noEnv) [0, 1, 2, 3, 8, 9, 10] (noEnv_ok _ _) rfl rfl rfl (fun K hK => ?_)
        simp (disch := omega) only [Try.f39, go_sem, Nat.reduceAdd, ↓reduceIte, ek]
        refine hK _ ?_
        exact hQ _ _ (by omega)
      · skip
        refine awp_drop rfl ?_
        cases h
    · skip
      simp only [Bool.not_true, Bool.false_eq_true, if_false] at hd1 hk1
      subst hd1; subst hk1
      refine awp_seqP rfl ?_
      refine awp_regP (Γ := noEnv) [35, 0, 1, 2, 3, 8, 9, 10] (noEnv_ok _ _) rfl rfl rfl (fun K hK => ?_)
      simp (disch := omega) only [Try.f39, go_sem, Nat.reduceAdd, ↓reduceIte]
      refine hK _ ?_
      refine nx_then ?_
      refine awp_ifB (.tmp 35) rfl rfl rfl (fun h => ?_) (fun h => ?_)
      · skip
        refine awp_drop rfl ?_
        cases h
      · skip
        refine awp_drop rfl ?_
        refine awp_skipP rfl ?_
        exact hQ _ _ (by omega)

set_option maxHeartbeats 1000000 in
theorem pd_rev {id n a b k L nx0 cx0 : Nat} {gg wb wp : Bool} {d : Array T32} {Q : Exit → S → Prop} {pv pv2 : Nat} {ht ht2 : Sort.Hint} {d2 : Array T32} (hd2 : (if ht = Sort.Hint.decreasing then Sort.reverseRange d a b else d) = d2) (hpv2 : (if ht = Sort.Hint.decreasing then (b - 1) - (pv - a) else pv) = pv2) (hht2 : (if ht = Sort.Hint.decreasing then Sort.Hint.increasing else ht) = ht2) (hpa : a ≤ pv) (hpb : pv < b) (hds : d.size = n) (hab : a < b) (hbn : b ≤ n) (hbig : n ≤ 1000000) (hid : id < cx0)
    (hQ : ∀ n1 c1, id < c1 → Q .normal { fr := [(0, .os id 0 n 1 gg), (1, .i (a : Int)), (2, .i (b : Int)), (3, .i (k : Int)), (8, .b wb), (9, .b wp), (10, .i (L : Int)), (11, .i (pv2 : Int)), (12, .i (hintI ht2))], hp := upd (fun _ => none) id (.cells (cA d2) true), nx := n1, cx := c1 }) :
    Awp Try.prog GLh Try.f39.ntmps (cl (cr (cr (cr (cr (cr (cl (cl (cl (cr (cr (bodyOf Try.f39)))))))))))) { fr := [(0, .os id 0 n 1 gg), (1, .i (a : Int)), (2, .i (b : Int)), (3, .i (k : Int)), (8, .b wb), (9, .b wp), (10, .i (L : Int)), (11, .i (pv : Int)), (12, .i (hintI ht))], hp := upd (fun _ => none) id (.cells (cA d) true), nx := nx0, cx := cx0 } Q := by
    cases ht
    · skip
      simp only [reduceCtorEq, if_false] at hd2 hpv2 hht2
      subst hd2; subst hpv2; subst hht2
      refine awp_seqP rfl ?_
      refine awp_regP (Γ := noEnv) [50, 0, 1, 2, 3, 8, 9, 10, 11, 12] (noEnv_ok _ _) rfl rfl rfl (fun K hK => ?_)
      simp (disch := omega) only [Try.f39, go_sem, Nat.reduceAdd, Int.reduceEq, ↓reduceIte, hintI, decide_false]
      refine hK _ ?_
      refine nx_then ?_
      refine awp_ifB (.tmp 50) rfl rfl rfl (fun h => ?_) (fun h => ?_)
      · skip
        refine awp_drop rfl ?_
        cases h
      · skip
        refine awp_drop rfl ?_
        refine awp_skipP rfl ?_
        exact hQ _ _ (by omega)
    · skip
      simp only [reduceCtorEq, if_false] at hd2 hpv2 hht2
      subst hd2; subst hpv2; subst hht2
      refine awp_seqP rfl ?_
      refine awp_regP (Γ := noEnv) [50, 0, 1, 2, 3, 8, 9, 10, 11, 12] (noEnv_ok _ _) rfl rfl rfl (fun K hK => ?_)
      simp (disch := omega) only [Try.f39, go_sem, Nat.reduceAdd, Int.reduceEq, ↓reduceIte, hintI, decide_false]
      refine hK _ ?_
      refine nx_then ?_
      refine awp_ifB (.tmp 50) rfl rfl rfl (fun h => ?_) (fun h => ?_)
      · skip
        refine awp_drop rfl ?_
        cases h
      · skip
        refine awp_drop rfl ?_
        refine awp_skipP rfl ?_
        exact hQ _ _ (by omega)
    · skip
      simp only [if_true] at hd2 hpv2 hht2
      subst hht2
      have ep : (b : Int) - 1 - ((pv : Int) - (a : Int)) = (pv2 : Int) := by omega
      refine awp_seqP rfl ?_
      refine awp_regP (Γ := noEnv) [50, 0, 1, 2, 3, 8, 9, 10, 11, 12] (noEnv_ok _ _) rfl rfl rfl (fun K hK => ?_)
      simp (disch := omega) only [Try.f39, go_sem, Nat.reduceAdd, ↓reduceIte, hintI, decide_true]
      refine hK _ ?_
      refine nx_then ?_
      refine awp_ifB (.tmp 50) rfl rfl rfl (fun h => ?_) (fun h => ?_)
      · skip
        refine awp_drop rfl ?_
        refine awp_seqP rfl ?_
        refine awp_regP (Γ := envL [(46, .heap (mutH revG))]) [0, 1, 2, 3, 8, 9, 10, 11] (envOK_cons oku97 envOK_nil) rfl rfl rfl (fun K hK => ?_)
        simp (disch := omega) only [Try.f39, go_sem, Nat.reduceAdd, ↓reduceIte, hds, hd2, Int.toNat_natCast]
        refine hK _ ?_
        refine nx_then ?_
        refine awp_seqP rfl ?_
        refine awp_regP (Γ := noEnv) [0, 1, 2, 3, 8, 9, 10, 11] (noEnv_ok _ _) rfl rfl rfl (fun K hK => ?_)
        simp (disch := omega) only [Try.f39, go_sem, Nat.reduceAdd, ↓reduceIte, ep]
        refine hK _ ?_
        refine nx_then ?_
        refine awp_regP (Γ := noEnv) [0, 1, 2, 3, 8, 9, 10, 11, 12] (noEnv_ok _ _) rfl rfl rfl (fun K hK => ?_)
        simp (disch := omega) only [Try.f39, go_sem, ↓reduceIte]
        refine hK _ ?_
        exact hQ _ _ (by omega)
      · skip
        refine awp_drop rfl ?_
        cases h

set_option maxHeartbeats 1000000 in
theorem pd_par {id n a b k L nx0 cx0 : Nat} {gg wb wp : Bool} {d : Array T32} {Q : Exit → S → Prop} {pv : Nat} {ht : Sort.Hint} {d3 : Array T32} {ok : Bool} (hpi : (if (wb && wp && decide (ht = Sort.Hint.increasing)) = true then Sort.partialInsertionSort ltN d a b else (d, false)) = (d3, ok)) (hds : d.size = n) (hab : a < b) (hbn : b ≤ n) (hbig : n ≤ 1000000) (hid : id < cx0)
    (hQ : ∀ n1 c1, id < c1 → ok = false → Q .normal { fr := [(0, .os id 0 n 1 gg), (1, .i (a : Int)), (2, .i (b : Int)), (3, .i (k : Int)), (8, .b wb), (9, .b wp), (10, .i (L : Int)), (11, .i (pv : Int))], hp := upd (fun _ => none) id (.cells (cA d3) true), nx := n1, cx := c1 })
    (hQr : ∀ fr n1 c1, id < c1 → ok = true → Q .ret { fr := fr, hp := upd (fun _ => none) id (.cells (cA d3) true), nx := n1, cx := c1 }) :
    Awp Try.prog GLh Try.f39.ntmps (cl (cr (cr (cr (cr (cr (cr (cl (cl (cl (cr (cr (bodyOf Try.f39))))))))))))) { fr := [(0, .os id 0 n 1 gg), (1, .i (a : Int)), (2, .i (b : Int)), (3, .i (k : Int)), (8, .b wb), (9, .b wp), (10, .i (L : Int)), (11, .i (pv : Int)), (12, .i (hintI ht))], hp := upd (fun _ => none) id (.cells (cA d) true), nx := nx0, cx := cx0 } Q := by
    cases wb
    · skip
      simp only [Bool.false_and, Bool.false_eq_true, if_false, Prod.mk.injEq] at hpi
      obtain ⟨rfl, rfl⟩ := hpi
      refine awp_seqP rfl ?_
      refine awp_regP (Γ := noEnv) [68, 0, 1, 2, 3, 8, 9, 10, 11] (noEnv_ok _ _) rfl rfl rfl (fun K hK => ?_)
      simp (disch := omega) only [Try.f39, go_sem, Nat.reduceAdd, reduceCtorEq, ↓reduceIte, hintI]
      refine hK _ ?_
      refine nx_then ?_
      refine awp_ifB (.tmp 68) rfl rfl rfl (fun h => ?_) (fun h => ?_)
      · skip
        refine awp_drop rfl ?_
        cases h
      · skip
        refine awp_drop rfl ?_
        refine awp_skipP rfl ?_
        exact hQ _ _ (by omega) rfl
    · skip
      cases wp
      · skip
        simp only [Bool.and_false, Bool.false_and, Bool.false_eq_true, if_false, Prod.mk.injEq] at hpi
        obtain ⟨rfl, rfl⟩ := hpi
        refine awp_seqP rfl ?_
        refine awp_regP (Γ := noEnv) [68, 0, 1, 2, 3, 8, 9, 10, 11] (noEnv_ok _ _) rfl rfl rfl (fun K hK => ?_)
        simp (disch := omega) only [Try.f39, go_sem, Nat.reduceAdd, reduceCtorEq, ↓reduceIte, hintI]
        refine hK _ ?_
        refine nx_then ?_
        refine awp_ifB (.tmp 68) rfl rfl rfl (fun h => ?_) (fun h => ?_)
        · skip
          refine awp_drop rfl ?_
          cases h
        · skip
          refine awp_drop rfl ?_
          refine awp_skipP rfl ?_
          exact hQ _ _ (by omega) rfl
      · skip
        cases ht
        · skip
          simp only [Bool.and_true, Bool.and_false, reduceCtorEq, decide_false, Bool.false_eq_true, if_false, Prod.mk.injEq] at hpi
          obtain ⟨rfl, rfl⟩ := hpi
          refine awp_seqP rfl ?_
          refine awp_regP (Γ := noEnv) [68, 0, 1, 2, 3, 8, 9, 10, 11] (noEnv_ok _ _) rfl rfl rfl (fun K hK => ?_)
          simp (disch := omega) only [Try.f39, go_sem, Nat.reduceAdd, Int.reduceEq, ↓reduceIte, hintI, decide_false]
          refine hK _ ?_
          refine nx_then ?_
          refine awp_ifB (.tmp 68) rfl rfl rfl (fun h => ?_) (fun h => ?_)
          · skip
            refine awp_drop rfl ?_
            cases h
          · skip
            refine awp_drop rfl ?_
            refine awp_skipP rfl ?_
            exact hQ _ _ (by omega) rfl
        · skip
          simp only [Bool.and_true, decide_true, if_true] at hpi
          refine awp_seqP rfl ?_
          refine awp_regP (Γ := noEnv) [68, 0, 1, 2, 3, 8, 9, 10, 11] (noEnv_ok _ _) rfl rfl rfl (fun K hK => ?_)
          simp (disch := omega) only [Try.f39, go_sem, Nat.reduceAdd, ↓reduceIte, hintI, decide_true]
          refine hK _ ?_
          refine nx_then ?_
          refine awp_ifB (.tmp 68) rfl rfl rfl (fun h => ?_) (fun h => ?_)
          · skip
            refine awp_drop rfl ?_
            refine awp_seqP rfl ?_
            refine awp_regP (Γ := envL [(47, .heap (mutH piG))]) [72, 0, 1, 2, 3, 8, 9, 10, 11] (envOK_cons oku98 envOK_nil) rfl rfl rfl (fun K hK => ?_)
            simp (disch := omega) only [Try.f39, go_sem, Nat.reduceAdd, ↓reduceIte, hds, hpi, Int.toNat_natCast]
            refine hK _ ?_
            refine nx_then ?_
            refine awp_ifB (.tmp 72) rfl rfl rfl (fun h => ?_) (fun h => ?_)
            · skip
              refine awp_drop rfl ?_
              refine awp_retP rfl ?_
              exact hQr _ _ _ (by omega) h
            · skip
              refine awp_drop rfl ?_
              refine awp_skipP rfl ?_
              exact hQ _ _ (by omega) (by simpa using h)
          · skip
            refine awp_drop rfl ?_
            cases h
        · skip
          simp only [Bool.and_true, Bool.and_false, reduceCtorEq, decide_false, Bool.false_eq_true, if_false, Prod.mk.injEq] at hpi
          obtain ⟨rfl, rfl⟩ := hpi
          refine awp_seqP rfl ?_
          refine awp_regP (Γ := noEnv) [68, 0, 1, 2, 3, 8, 9, 10, 11] (noEnv_ok _ _) rfl rfl rfl (fun K hK => ?_)
          simp (disch := omega) only [Try.f39, go_sem, Nat.reduceAdd, Int.reduceEq, ↓reduceIte, hintI, decide_false]
          refine hK _ ?_
          refine nx_then ?_
          refine awp_ifB (.tmp 68) rfl rfl rfl (fun h => ?_) (fun h => ?_)
          · skip
            refine awp_drop rfl ?_
            cases h
          · skip
            refine awp_drop rfl ?_
            refine awp_skipP rfl ?_
            exact hQ _ _ (by omega) rfl

set_option maxHeartbeats 1000000 in
theorem pd_les {id n a b k L nx0 cx0 : Nat} {gg wb wp : Bool} {d : Array T32} {Q : Exit → S → Prop} {pv : Nat} {u : Bool} (hu : (decide (a > 0) && !ltN d[a - 1]! d[pv]!) = u) (hpb : pv < b) (hds : d.size = n) (hab : a < b) (hbn : b ≤ n) (hbig : n ≤ 1000000) (hid : id < cx0)
    (hQ : ∀ n1 c1, id < c1 → Q .normal { fr := [(87, .b u), (0, .os id 0 n 1 gg), (1, .i (a : Int)), (2, .i (b : Int)), (3, .i (k : Int)), (8, .b wb), (9, .b wp), (10, .i (L : Int)), (11, .i (pv : Int))], hp := upd (fun _ => none) id (.cells (cA d) true), nx := n1, cx := c1 }) :
    Awp Try.prog GLh Try.f39.ntmps (cl (cl (cr (cr (cr (cr (cr (cr (cr (cl (cl (cl (cr (cr (bodyOf Try.f39))))))))))))))) { fr := [(0, .os id 0 n 1 gg), (1, .i (a : Int)), (2, .i (b : Int)), (3, .i (k : Int)), (8, .b wb), (9, .b wp), (10, .i (L : Int)), (11, .i (pv : Int))], hp := upd (fun _ => none) id (.cells (cA d) true), nx := nx0, cx := cx0 } Q := by
    by_cases ha : a > 0
    · skip
      have hd1 : decide (0 < (a : Int)) = true := decide_eq_true (by omega)
      have ea : (a : Int) - 1 = ((a - 1 : Nat) : Int) := by omega
      have han : a < n := by omega
      have hpn : pv < n := by omega
      obtain ⟨v, hv⟩ : ∃ v, ltN d[a - 1]! d[pv]! = v := ⟨_, rfl⟩
      rw [decide_eq_true ha, hv, Bool.true_and] at hu
      subst hu
      refine awp_drwP (Γ := envL [(48, .pure true lessG)]) (fun k => if k = 12 then 0 else 2) [87, 0, 1, 2, 3, 8, 9, 10, 11] mixed (envOK_cons oku99 envOK_nil) rfl rfl rfl (by kernel_rfl) (fun K hK => ?_)
      simp (disch := omega) only [Try.f39, go_sem, Nat.reduceAdd, ↓reduceIte, hd1, ea, hv, Int.toNat_natCast]
      refine hK _ ?_
      exact hQ _ _ (by omega)
    · skip
      have hd1 : decide (0 < (a : Int)) = false := decide_eq_false (by omega)
      rw [decide_eq_false ha, Bool.false_and] at hu
      subst hu
      refine awp_drwP (Γ := envL [(48, .pure true lessG)]) (fun k => if k = 12 then 0 else 2) [87, 0, 1, 2, 3, 8, 9, 10, 11] mixed (envOK_cons oku99 envOK_nil) rfl rfl rfl (by kernel_rfl) (fun K hK => ?_)
      simp (disch := omega) only [Try.f39, go_sem, Nat.reduceAdd, reduceCtorEq, ↓reduceIte, hd1]
      refine hK _ ?_
      exact hQ _ _ (by omega)

set_option maxHeartbeats 4000000 in
theorem pdq_okS (N : Nat) (ih : HeapOK Try.prog GLh 39 (mutH (pdqG N))) : HeapOK Try.prog GLh 39 (mutH (pdqG (N + 1))) := by
  have oku91 : EntOK Try.prog GLh 39 (.heap (mutH (pdqG N))) := ⟨⟨_, Try.func39, rfl, rfl⟩, ih⟩
  refine mut_of_awp Try.func39 (bodyOf_some rfl) ?_
  intro id off n e gg rest nx xs r ys hg
  unfold pdqG at hg
  split at hg
  · rename_i id2 n2 gg2 a0 b0 k0 heq
    simp only [List.cons.injEq, AV.os.injEq] at heq
    obtain ⟨⟨rfl, rfl, rfl, rfl, rfl⟩, rfl⟩ := heq
    replace hg := obind_inv hg; obtain ⟨l, hl, hg⟩ := hg
    replace hg := guardO_inv hg; obtain ⟨⟨hn, ha, hab, hbn, hk0, hk1, hbig, hN⟩, hg⟩ := hg
    replace hg := guardC_inv hg; obtain ⟨hB, hg⟩ := hg
    simp only [Option.some.injEq, Prod.mk.injEq] at hg; obtain ⟨rfl, rfl⟩ := hg
    have := unA_inv hl; subst this
    obtain ⟨a, rfl⟩ := Int.eq_ofNat_of_zero_le ha
    obtain ⟨b, rfl⟩ := Int.eq_ofNat_of_zero_le (show 0 ≤ b0 by omega)
    obtain ⟨k, rfl⟩ := Int.eq_ofNat_of_zero_le hk0
    simp only [Int.toNat_natCast] at *
    obtain ⟨d, hd⟩ : ∃ d, l.toArray = d := ⟨_, rfl⟩
    have hds : d.size = n := by rw [← hd]; simpa using hn
    have hab2 : a ≤ b := by omega
    have hbn2 : b ≤ n := by omega
    have hk2 : k ≤ 1000 := by omega
    have hN2 : b - a < N + 1 := by omega
    rw [hd] at hB ⊢
    refine ⟨Nat.le_of_ble_eq_true rfl, fun hid => ?_⟩
    obtain ⟨R, hR⟩ : ∃ R, Sort.pdq ltN d a b k true true = R := ⟨_, rfl⟩
    rw [hR]
    clear hl hn ha hab hbn hk0 hk1 hN
    refine awp_seqP rfl ?_
    refine awp_regP (Γ := noEnv) [0, 1, 2, 3, 8] (noEnv_ok _ _) rfl rfl rfl (fun K hK => ?_)
    simp (disch := omega) only [Try.f39, go_sem, Nat.reduceAdd, ↓reduceIte]
    refine hK _ ?_
    refine nx_then ?_
    refine awp_seqP rfl ?_
    refine awp_regP (Γ := noEnv) [0, 1, 2, 3, 8, 9] (noEnv_ok _ _) rfl rfl rfl (fun K hK => ?_)
    simp (disch := omega) only [Try.f39, go_sem, ↓reduceIte]
    refine hK _ ?_
    refine nx_then ?_
    refine awp_blockN 0 rfl rfl ?_
    refine awp_loopP (fun p : SPQ => { fr := [(0, .os id 0 n 1 gg), (1, .i p.a), (2, .i p.b), (3, .i p.l), (8, .b p.wb), (9, .b p.wp)], hp := upd (fun _ => none) id (.cells (cA p.d) true), nx := 0, cx := p.c }) (fun p => Sort.pdq ltN p.d p.a p.b p.l p.wb p.wp = R ∧ p.d.size = n ∧ p.a ≤ p.b ∧ p.b ≤ n ∧ p.l ≤ 1000 ∧ p.b - p.a < N + 1 ∧ Sort.Below ltN p.a p.b p.d ∧ id < p.c) (fun p => p.b - p.a) rfl ⟨⟨a, b, k, true, true, d, _⟩, ⟨hR, hds, hab2, hbn2, hk2, hN2, hB, by simp only; omega⟩, sub_same rfl rfl (Nat.le_refl _)⟩ ?_
    rintro ⟨a, b, k, wb, wp, d, c⟩ ⟨hr, hds, hab, hbn, hk, hN, hB, hc⟩ n0
    simp only at hr hds hab hbn hk hN hB hc ⊢
    have ebL : (b : Int) - (a : Int) = ((b - a : Nat) : Int) := by omega
    refine awp_blockN 1 rfl rfl ?_
    refine awp_seqP rfl ?_
    refine awp_regP (Γ := noEnv) [0, 1, 2, 3, 8, 9, 10] (noEnv_ok _ _) rfl rfl rfl (fun K hK => ?_)
    simp (disch := omega) only [Try.f39, go_sem, Nat.reduceAdd, ↓reduceIte, ebL]
    refine hK _ ?_
    refine nx_then ?_
    refine awp_seqP rfl ?_
    refine awp_seqP rfl ?_
    refine awp_regP (Γ := noEnv) [23, 0, 1, 2, 3, 8, 9, 10] (noEnv_ok _ _) rfl rfl rfl (fun K hK => ?_)
    simp (disch := omega) only [Try.f39, go_sem, Nat.reduceAdd, ↓reduceIte]
    refine hK _ ?_
    refine nx_then ?_
    refine awp_ifD (.tmp 23) rfl rfl rfl (fun h => ?_) (fun h => ?_)
    · skip
      refine awp_drop rfl ?_
      have h12 : b - a ≤ 12 := by omega
      rw [Sort.pdq, if_pos h12] at hr
      refine awp_seqP rfl ?_
      refine awp_regP (Γ := envL [(42, .heap (mutH insG))]) [] (envOK_cons oku93 envOK_nil) rfl rfl rfl (fun K hK => ?_)
      simp (disch := omega) only [Try.f39, go_sem, Nat.reduceAdd, ↓reduceIte, hds, Int.toNat_natCast]
      refine hK _ ?_
      refine nx_then ?_
      refine awp_retP rfl ?_
      refine nx_ret_then (nx_ret_blk (nx_ret_loop (nx_ret_blk ?_)))
      exact ⟨rfl, by simp only [up_app, if_true, hr], rfl, cA_nm _⟩
    · skip
      refine awp_drop rfl ?_
      have h12 : ¬ b - a ≤ 12 := by omega
      rw [Sort.pdq, if_neg h12] at hr
      refine awp_skipP rfl ?_
      refine nx_then ?_
      refine awp_seqP rfl ?_
      refine awp_seqP rfl ?_
      refine awp_regP (Γ := noEnv) [29, 0, 1, 2, 3, 8, 9, 10] (noEnv_ok _ _) rfl rfl rfl (fun K hK => ?_)
      simp (disch := omega) only [Try.f39, go_sem, Nat.reduceAdd, ↓reduceIte]
      refine hK _ ?_
      refine nx_then ?_
      refine awp_ifD (.tmp 29) rfl rfl rfl (fun h => ?_) (fun h => ?_)
      · skip
        refine awp_drop rfl ?_
        have hk0 : k = 0 := by omega
        rw [if_pos hk0] at hr
        refine awp_seqP rfl ?_
        refine awp_regP (Γ := envL [(43, .heap (mutH hepG))]) [] (envOK_cons oku94 envOK_nil) rfl rfl rfl (fun K hK => ?_)
        simp (disch := omega) only [Try.f39, go_sem, Nat.reduceAdd, ↓reduceIte, hds, Int.toNat_natCast]
        refine hK _ ?_
        refine nx_then ?_
        refine awp_retP rfl ?_
        refine nx_ret_then (nx_ret_blk (nx_ret_loop (nx_ret_blk ?_)))
        exact ⟨rfl, by simp only [up_app, if_true, hr], rfl, cA_nm _⟩
      · skip
        refine awp_drop rfl ?_
        have hk0 : ¬ k = 0 := by omega
        rw [if_neg hk0] at hr
        obtain ⟨d1, hd1⟩ : ∃ x, (if (!wb) = true then Sort.breakPatterns d a b else d) = x := ⟨_, rfl⟩
        obtain ⟨k1, hk1⟩ : ∃ x, (if (!wb) = true then k - 1 else k) = x := ⟨_, rfl⟩
        obtain ⟨⟨pv, ht⟩, hch⟩ : ∃ x, Sort.choosePivot ltN d1 a b = x := ⟨_, rfl⟩
        obtain ⟨d2, hd2⟩ : ∃ x, (if ht = Sort.Hint.decreasing then Sort.reverseRange d1 a b else d1) = x := ⟨_, rfl⟩
        obtain ⟨pv2, hpv2⟩ : ∃ x, (if ht = Sort.Hint.decreasing then (b - 1) - (pv - a) else pv) = x := ⟨_, rfl⟩
        obtain ⟨ht2, hht2⟩ : ∃ x, (if ht = Sort.Hint.decreasing then Sort.Hint.increasing else ht) = x := ⟨_, rfl⟩
        obtain ⟨⟨d3, ok⟩, hpi⟩ : ∃ x, (if (wb && wp && decide (ht2 = Sort.Hint.increasing)) = true then Sort.partialInsertionSort ltN d2 a b else (d2, false)) = x := ⟨_, rfl⟩
        simp only [hd1, hk1, hch, hd2, hpv2, hht2, hpi] at hr
        have hk1b : k1 ≤ 1000 := by rw [← hk1]; split <;> omega
        have hab3 : a < b := by omega
        have p1 : Sort.PermIn a b d d1 := by rw [← hd1]; exact perm_if _ (Sort.breakPatterns_holds d a b hab (by omega))
        have s1 : d1.size = n := by rw [p1.1]; exact hds
        refine awp_skipP rfl ?_
        refine nx_then ?_
        refine awp_seqP rfl ?_
        refine pd_brk hd1 hk1 (by omega) hk hds hab3 hbn hbig (by omega) (fun n1 c1 hc1 => ?_)
        refine nx_then ?_
        refine awp_seqP rfl ?_
        refine awp_regP (Γ := envL [(45, .heap (mutH chG))]) [0, 1, 2, 3, 8, 9, 10, 11, 12] (envOK_cons oku96 envOK_nil) rfl rfl rfl (fun K hK => ?_)
        simp (disch := omega) only [Try.f39, go_sem, Nat.reduceAdd, ↓reduceIte, s1, hch, Int.toNat_natCast]
        refine hK _ ?_
        refine nx_then ?_
        have hcr := Sort.choosePivot_holds ltN d1 a b hab3
        rw [hch] at hcr
        simp only at hcr
        have p2 : Sort.PermIn a b d1 d2 := by rw [← hd2]; exact perm_if _ (Sort.reverseRange_holds d1 a b hab (by omega))
        have s2 : d2.size = n := by rw [p2.1]; exact s1
        refine awp_seqP rfl ?_
        refine pd_rev hd2 hpv2 hht2 hcr.1 hcr.2 s1 hab3 hbn hbig (by omega) (fun n2 c2 hc2 => ?_)
        refine nx_then ?_
        have hb2 : Sort.Below ltN a b d2 := (hB.perm (by omega) p1).perm (by omega) p2
        have hps := Sort.step_partial Sort.partialInsertionSort_holds ltN_swo d2 hab3 (by omega) hb2 ((wb && wp && decide (ht2 = Sort.Hint.increasing)) = true)
        have hpi2 : (if _h : (wb && wp && decide (ht2 = Sort.Hint.increasing)) = true then Sort.partialInsertionSort ltN d2 a b else (d2, false)) = (d3, ok) := by rw [← hpi]; split <;> simp_all
        rw [hpi2] at hps
        have p3 : Sort.PermIn a b d2 d3 := hps.1
        have s3 : d3.size = n := by rw [p3.1]; exact s2
        have hb3 : Sort.Below ltN a b d3 := hb2.perm (by omega) p3
        have hpv : a ≤ pv2 ∧ pv2 < b := by rw [← hpv2]; split <;> omega
        refine awp_seqP rfl ?_
        refine pd_par hpi s2 hab3 hbn hbig hc2 (fun n3 c3 hc3 hok => ?_) (fun fr n3 c3 hc3 hok => by subst hok; rw [if_pos rfl] at hr; subst hr; exact (show MutEnd Try.prog Try.f39.results.toList (.tup []) id (cA d3) _ from ⟨rfl, by simp only [up_app, if_true], rfl, cA_nm _⟩))
        refine nx_then ?_
        subst hok
        simp only [Bool.false_eq_true, if_false] at hr
        obtain ⟨u, hu⟩ : ∃ u, (decide (a > 0) && !ltN d3[a - 1]! d3[pv2]!) = u := ⟨_, rfl⟩
        rw [hu] at hr
        refine awp_seqP rfl ?_
        refine awp_seqP rfl ?_
        refine pd_les hu hpv.2 s3 hab3 hbn hbig hc3 (fun n4 c4 hc4 => ?_)
        refine nx_then ?_
        cases u
        · skip
          obtain ⟨⟨mid, ap, d4⟩, hx⟩ : ∃ x, Sort.partition ltN d3 a b pv2 = x := ⟨_, rfl⟩
          obtain ⟨g1, g2, hs4, hBa, hBr, hleft, hright⟩ := Sort.round_part ltN_swo (Sort.partition_holds ltN) hpv.1 hpv.2 (by omega) hb3 hx
          have s4 : d4.size = n := by rw [hs4]; exact s3
          have hpn : pv2 < n := by omega
          simp only [Bool.false_eq_true, if_false, hx, dif_pos (And.intro g1 g2)] at hr
          have eL : (mid : Int) - (a : Int) = ((mid - a : Nat) : Int) := by omega
          have eR : (b : Int) - (mid : Int) = ((b - mid : Nat) : Int) := by omega
          have e8 : ((b - a : Nat) : Int).tdiv 8 = (((b - a) / 8 : Nat) : Int) := by rw [Int.tdiv_eq_ediv_of_nonneg (by omega)]; omega
          have em : (mid : Int) + 1 = ((mid + 1 : Nat) : Int) := by omega
          have hd1 : decide ((((b - a) / 8 : Nat) : Int) ≤ ((mid - a : Nat) : Int)) = decide (mid - a ≥ (b - a) / 8) := decide_eq_decide.2 (by omega)
          have hd2 : decide ((((b - a) / 8 : Nat) : Int) ≤ ((b - mid : Nat) : Int)) = decide (b - mid ≥ (b - a) / 8) := decide_eq_decide.2 (by omega)
          refine awp_ifB (.tmp 87) rfl rfl rfl (fun h => ?_) (fun h => ?_)
          · skip
            cases h
          · skip
            refine awp_skipP rfl ?_
            refine nx_then ?_
            refine awp_seqP rfl ?_
            refine awp_regP (Γ := envL [(50, .heap (mutH ptG))]) [0, 1, 2, 3, 10, 14, 15] (envOK_cons oku101 envOK_nil) rfl rfl rfl (fun K hK => ?_)
            simp (disch := omega) only [Try.f39, go_sem, Nat.reduceAdd, ↓reduceIte, s3, hx, Int.toNat_natCast]
            refine hK _ ?_
            refine nx_then ?_
            refine awp_seqP rfl ?_
            refine awp_regP (Γ := noEnv) [0, 1, 2, 3, 9, 10, 14] (noEnv_ok _ _) rfl rfl rfl (fun K hK => ?_)
            simp (disch := omega) only [Try.f39, go_sem, Nat.reduceAdd, ↓reduceIte]
            refine hK _ ?_
            refine nx_then ?_
            refine awp_seqP rfl ?_
            refine awp_regP (Γ := noEnv) [0, 1, 2, 3, 9, 10, 14, 16, 17] (noEnv_ok _ _) rfl rfl rfl (fun K hK => ?_)
            simp (disch := omega) only [Try.f39, go_sem, Nat.reduceAdd, ↓reduceIte, eL, eR]
            refine hK _ ?_
            refine nx_then ?_
            refine awp_seqP rfl ?_
            refine awp_regP (Γ := noEnv) [0, 1, 2, 3, 9, 14, 16, 17, 18] (noEnv_ok _ _) rfl rfl rfl (fun K hK => ?_)
            simp (disch := omega) only [Try.f39, go_sem, Nat.reduceAdd, Int.reduceEq, ↓reduceIte, e8]
            refine hK _ ?_
            refine nx_then ?_
            refine awp_seqP rfl ?_
            refine awp_regP (Γ := noEnv) [113, 0, 1, 2, 3, 9, 14, 16, 17, 18] (noEnv_ok _ _) rfl rfl rfl (fun K hK => ?_)
            simp (disch := omega) only [Try.f39, go_sem, Nat.reduceAdd, ↓reduceIte]
            refine hK _ ?_
            refine nx_then ?_
            refine awp_ifD (.tmp 113) rfl rfl rfl (fun h => ?_) (fun h => ?_)
            · skip
              refine awp_drop rfl ?_
              have hlr : mid - a < b - mid := by omega
              rw [if_pos hlr] at hr
              obtain ⟨q1, q2⟩ := Sort.pdq_sorts ltN ltN_swo d4 a mid k1 true true g1 (by omega) hBa
              obtain ⟨d5, hd5⟩ : ∃ x, Sort.pdq ltN d4 a mid k1 true true = x := ⟨_, rfl⟩
              rw [hd5] at hr q1 q2
              have s5 : d5.size = n := by rw [q1.1]; exact s4
              have hB5 := (hleft d5 q1 q2).1
              refine awp_seqP rfl ?_
              refine awp_regP (Γ := noEnv) [0, 1, 2, 3, 8, 9, 14] (noEnv_ok _ _) rfl rfl rfl (fun K hK => ?_)
              simp (disch := omega) only [Try.f39, go_sem, Nat.reduceAdd, ↓reduceIte, hd1]
              refine hK _ ?_
              refine nx_then ?_
              refine awp_seqP rfl ?_
              refine awp_regP (Γ := envL [(39, .heap (mutH (pdqG N)))]) [0, 2, 3, 8, 9, 14] (envOK_cons oku91 envOK_nil) rfl rfl rfl (fun K hK => ?_)
              simp (disch := omega) only [Try.f39, go_sem, Nat.reduceAdd, ↓reduceIte, s4, hBa, hd5, Int.toNat_natCast]
              refine hK _ ?_
              refine nx_then ?_
              refine awp_regP (Γ := noEnv) [0, 1, 2, 3, 8, 9] (noEnv_ok _ _) rfl rfl rfl (fun K hK => ?_)
              simp (disch := omega) only [Try.f39, go_sem, Nat.reduceAdd, ↓reduceIte, em]
              refine hK _ ?_
              refine nx_blk (nx_loop ?_)
              refine ⟨⟨mid + 1, b, k1, decide (mid - a ≥ (b - a) / 8), ap, d5, _⟩, ⟨hr, s5, by simp only; omega, by simp only; omega, by simp only; omega, by simp only; omega, hB5, by simp only; omega⟩, by simp only; omega, ⟨fun _ => .inr rfl, hsub_cons (by simp (disch := omega) only [up_app, ↓reduceIte, eq_self]) hsub_nil, Nat.le_refl _⟩⟩
            · skip
              refine awp_drop rfl ?_
              have hlr : ¬ mid - a < b - mid := by omega
              rw [if_neg hlr] at hr
              obtain ⟨q1, q2⟩ := Sort.pdq_sorts ltN ltN_swo d4 (mid + 1) b k1 true true (by omega) (by omega) hBr
              obtain ⟨d5, hd5⟩ : ∃ x, Sort.pdq ltN d4 (mid + 1) b k1 true true = x := ⟨_, rfl⟩
              rw [hd5] at hr q1 q2
              have s5 : d5.size = n := by rw [q1.1]; exact s4
              have hB5 := (hright d5 q1 q2).1
              refine awp_seqP rfl ?_
              refine awp_regP (Γ := noEnv) [0, 1, 2, 3, 8, 9, 14] (noEnv_ok _ _) rfl rfl rfl (fun K hK => ?_)
              simp (disch := omega) only [Try.f39, go_sem, Nat.reduceAdd, ↓reduceIte, hd2]
              refine hK _ ?_
              refine nx_then ?_
              refine awp_seqP rfl ?_
              refine awp_regP (Γ := envL [(39, .heap (mutH (pdqG N)))]) [0, 1, 3, 8, 9, 14] (envOK_cons oku91 envOK_nil) rfl rfl rfl (fun K hK => ?_)
              simp (disch := omega) only [Try.f39, go_sem, Nat.reduceAdd, ↓reduceIte, em, s4, hBr, hd5, Int.toNat_natCast]
              refine hK _ ?_
              refine nx_then ?_
              refine awp_regP (Γ := noEnv) [0, 1, 2, 3, 8, 9] (noEnv_ok _ _) rfl rfl rfl (fun K hK => ?_)
              simp (disch := omega) only [Try.f39, go_sem, Nat.reduceAdd, ↓reduceIte]
              refine hK _ ?_
              refine nx_blk (nx_loop ?_)
              refine ⟨⟨a, mid, k1, decide (b - mid ≥ (b - a) / 8), ap, d5, _⟩, ⟨hr, s5, by simp only; omega, by simp only; omega, by simp only; omega, by simp only; omega, hB5, by simp only; omega⟩, by simp only; omega, ⟨fun _ => .inr rfl, hsub_cons (by simp (disch := omega) only [up_app, ↓reduceIte, eq_self]) hsub_nil, Nat.le_refl _⟩⟩
        · skip
          obtain ⟨⟨mid, d4⟩, hx⟩ : ∃ x, Sort.partitionEqual ltN d3 a b pv2 = x := ⟨_, rfl⟩
          simp only [Bool.and_eq_true, decide_eq_true_eq, Bool.not_eq_true'] at hu
          obtain ⟨g1, g2, hs4, hB4, _⟩ := Sort.round_eq ltN_swo (Sort.partitionEqual_holds ltN) hu.1 hpv.1 hpv.2 (by omega) hb3 hu.2 hx
          have s4 : d4.size = n := by rw [hs4]; exact s3
          have hpn : pv2 < n := by omega
          simp only [if_true, hx, dif_pos (And.intro g1 g2)] at hr
          refine awp_ifB (.tmp 87) rfl rfl rfl (fun h => ?_) (fun h => ?_)
          · skip
            refine awp_seqP rfl ?_
            refine awp_regP (Γ := envL [(49, .heap (mutH peG))]) [0, 2, 3, 8, 9, 13] (envOK_cons oku100 envOK_nil) rfl rfl rfl (fun K hK => ?_)
            simp (disch := omega) only [Try.f39, go_sem, Nat.reduceAdd, ↓reduceIte, s3, hx, Int.toNat_natCast]
            refine hK _ ?_
            refine nx_then ?_
            refine awp_seqP rfl ?_
            refine awp_regP (Γ := noEnv) [0, 1, 2, 3, 8, 9] (noEnv_ok _ _) rfl rfl rfl (fun K hK => ?_)
            simp (disch := omega) only [Try.f39, go_sem, Nat.reduceAdd, ↓reduceIte]
            refine hK _ ?_
            refine nx_then ?_
            refine awp_exitN 1 rfl rfl ?_
            refine nx_ex_then (nx_ex_blk ?_)
            refine nx_loop ?_
            refine ⟨⟨mid, b, k1, wb, wp, d4, _⟩, ⟨hr, s4, by simp only; omega, by simp only; omega, by simp only; omega, by simp only; omega, hB4, by simp only; omega⟩, by simp only; omega, ⟨fun _ => .inr rfl, hsub_cons (by simp (disch := omega) only [up_app, ↓reduceIte, eq_self]) hsub_nil, Nat.le_refl _⟩⟩
          · skip
            cases h
  · cases hg
end Go.AX

namespace Go.AX
open Go Go.Proofs

theorem pdq_okN : ∀ N : Nat, HeapOK Try.prog GLh 39 (mutH (pdqG N))
  | 0 => pdq_ok0
  | N + 1 => pdq_okS N (pdq_okN N)
theorem oku91 : EntOK Try.prog GLh 39 (.heap (mutH (pdqG 1000001))) := ⟨⟨_, Try.func39, rfl, rfl⟩, pdq_okN 1000001⟩

def srtG : List AV → List AV → Option (AV × List AV)
  | [.os _ 0 n 1 _], xs => obind (unA xs) fun l => guardO (l.length = n ∧ n ≤ 1000000) (some (.tup [], cA (sortL l).toArray))
  | _, _ => none
theorem srtG_eq (id n : Nat) (gg : Bool) (xs : List AV) : srtG [.os id 0 n 1 gg] xs = obind (unA xs) fun l => guardO (l.length = n ∧ n ≤ 1000000) (some (.tup [], cA (sortL l).toArray)) := (rfl)
theorem frzArg_fn (hp : H) (f : FuncId) (xs : List AV) : frzArg hp (.fn f xs) = some (.fn f xs, hp) := (rfl)
attribute [go_sem] srtG_eq frzArg_fn
set_option maxHeartbeats 1000000 in
theorem srt_ok : HeapOK Try.prog GLh 34 (mutH srtG) := by
  refine mut_of_awp Try.func34 (bodyOf_some rfl) ?_
  intro id off n e gg rest nx xs r ys hg
  unfold srtG at hg
  split at hg
  · rename_i id2 n2 gg2 heq
    simp only [List.cons.injEq, AV.os.injEq] at heq
    obtain ⟨⟨rfl, rfl, rfl, rfl, rfl⟩, rfl⟩ := heq
    replace hg := obind_inv hg; obtain ⟨l, hl, hg⟩ := hg
    replace hg := guardO_inv hg; obtain ⟨⟨hn, hbig⟩, hg⟩ := hg
    simp only [Option.some.injEq, Prod.mk.injEq] at hg; obtain ⟨rfl, rfl⟩ := hg
    have := unA_inv hl; subst this
    obtain ⟨R, hR⟩ : ∃ R, (sortL l).toArray = R := ⟨_, rfl⟩
    obtain ⟨d, hd⟩ : ∃ d, l.toArray = d := ⟨_, rfl⟩
    have hds : d.size = n := by rw [← hd]; simpa using hn
    have hR2 : Sort.pdq ltN d 0 n (Sort.bitsLen n) true true = R := by
      rw [← hR, ← hd]; unfold sortL Sort.sort; simp [← hds, ← hd]
    rw [hR, hd]
    have h20 := bits20 hbig
    have e1 := ofI_nat hbig
    have hB : Sort.Below ltN 0 n d := .inl rfl
    refine ⟨Nat.le_of_ble_eq_true rfl, fun hid => ?_⟩
    clear hl hn
    refine awp_seqP rfl ?_
    refine awp_regP (Γ := noEnv) [0, 2] (noEnv_ok _ _) rfl rfl rfl (fun K hK => ?_)
    simp (disch := omega) only [Try.f34, go_sem, Nat.reduceAdd, ↓reduceIte]
    refine hK _ ?_
    refine nx_then ?_
    refine awp_regP (Γ := envL [(40, .pure true blenG), (39, .heap (mutH (pdqG 1000001)))]) [] (envOK_cons oku92 (envOK_cons oku91 envOK_nil)) rfl rfl rfl (fun K hK => ?_)
    simp (disch := omega) only [Try.f34, go_sem, Nat.reduceAdd, Int.reduceLE, ↓reduceIte, e1, hds, hB, hR2, Int.toNat_natCast, Int.toNat_zero]
    refine hK _ ?_
    exact ⟨rfl, by simp only [up_app, if_true], rfl, cA_nm _⟩
  · cases hg
end Go.AX

namespace Go.AX
open Go Go.Proofs Go.RowKit Go.Shelf Go.Maps Go.Sort

abbrev encU : Int → Value := Value.int .u32
theorem encU_inj {x y : Int} (h : encU x = encU y) : x = y := by simpa [encU] using h
theorem keyOf_u32 {P : Program} {k : TypeId} (hk : P.underlying k = some (.int .u32)) {key : Value} {kl : Lit} (h : keyOf P k key = some kl) : ∃ x : Int, key = encU x ∧ kl = .int .u32 x ∧ (Lit.int .u32 x).wf = true := by
  cases key <;> simp [keyOf, hk, mapKey] at h
  rename_i q a
  obtain ⟨⟨rfl, hw⟩, rfl⟩ := h
  exact ⟨a, rfl, rfl, hw⟩
theorem perm_keysU {H : Type} {es : List (Lit × DataW H)} (hp : es.Pairwise (fun p q => p.1 ≠ q.1)) (hk : ∀ p ∈ es, ∃ x, p.1 = .int .u32 x) {ss : List Int} (hnd : ss.Nodup) (hm : ∀ x, x ∈ ss ↔ has (.map es) (.int .u32 x) = true) :
    ss.Perm (intKeys (.map es)) := by
  refine (List.perm_ext_iff_of_nodup hnd ?_).2 fun x => ?_
  · show (es.map fun p => intOf p.1).Nodup
    refine List.pairwise_map.2 (hp.imp_of_mem fun {p q} hp' hq' hne e => hne ?_)
    obtain ⟨a, ha⟩ := hk p hp'
    obtain ⟨b, hb⟩ := hk q hq'
    rw [ha, hb] at e ⊢
    exact congrArg _ e
  · rw [hm x, has_eq, List.any_eq_true]
    show _ ↔ x ∈ es.map fun p => intOf p.1
    rw [List.mem_map]
    constructor
    · rintro ⟨p, hp', hs⟩
      obtain ⟨a, ha⟩ := hk p hp'
      rw [ha] at hs
      exact ⟨p, hp', by rw [ha]; simpa [Lit.sameKey, intOf] using hs⟩
    · rintro ⟨p, hp', rfl⟩
      obtain ⟨a, ha⟩ := hk p hp'
      exact ⟨p, hp', by rw [ha]; simp [Lit.sameKey, intOf]⟩
def CollU {H : Type} (D0 : DataW H) (left : Lit → Bool) (ss : List Int) : Prop := ss.Nodup ∧ ∀ x, x ∈ ss ↔ (has D0 (.int .u32 x) = true ∧ left (.int .u32 x) = false)
section
variable {H : Type} {D0 : DataW H} {left : Lit → Bool} {ss : List Int}
theorem CollU.start (D0 : DataW H) : CollU D0 (has D0) [] := ⟨List.nodup_nil, fun x => by cases has D0 (.int .u32 x) <;> simp⟩
theorem CollU.step (h : CollU D0 left ss) {x : Int} {y : DataW H} (hlk : left (.int .u32 x) = true) (hat : ∀ zd, D0.atKey (.int .u32 x) zd = y) : CollU D0 (fun z => left z && !z.sameKey (.int .u32 x)) (ss ++ [x]) := by
  have hhas : has D0 (.int .u32 x) = true := has_true_of_atKey hat
  have hnew : x ∉ ss := fun hx => by have := ((h.2 x).1 hx).2; rw [hlk] at this; cases this
  refine ⟨List.nodup_append.2 ⟨h.1, by simp, fun a ha b hb => by simp at hb; subst hb; exact fun e => hnew (e ▸ ha)⟩, fun y => ?_⟩
  by_cases hy : y = x
  · subst hy; simp [hhas, Lit.sameKey]
  · simp [h.2 y, hy, Lit.sameKey]
variable {P : Program} {k : TypeId} {R : Value → Option (DataW H × List MemPlace)} {w : World} {b n : Nat}
theorem CollU.perm (h : CollU D0 left ss) (hown : w.ownsMap P k R b n D0) (K : Keyed P k) (hk : P.underlying k = some (.int .u32)) (hl : ∀ kl, left kl = false) : ss.Perm (intKeys D0) := by
  obtain ⟨es, hD, hpw, _⟩ := hown.entries K
  obtain ⟨es', hD', hko⟩ := hown.keysOf
  obtain rfl : es = es' := by rw [hD] at hD'; simpa using hD'
  subst hD
  exact perm_keysU hpw (fun p hp => by obtain ⟨v, hv⟩ := hko p hp; obtain ⟨x, _, hx, _⟩ := keyOf_u32 hk hv; exact ⟨x, hx⟩) h.1 (fun x => by rw [h.2 x, hl]; simp)
end

attribute [local go_sem] Oper.semAt_some
set_option maxRecDepth 100000 in
set_option maxHeartbeats 2000000 in
/-- A map's keys come, each once; or a round says that it is enough. -/
theorem keysU_in {H : Type} (F : Fence) (n : Nat) (h10 : F.fn 35) (hro : F.round = none) (hn : 1 ≤ n) (l Bm ob b nn : Nat) (D0 : DataW H) {R : Value → Option (DataW H × List MemPlace)} (J Jx : List Int → World → Prop)
    (hY : ∀ pre x W, J pre W → pre.length < Maps.size D0 → YieldAt F (n - 1) Try.prog l #[encU x] W fun e W' =>
      (e = .returned (.bool true) ∧ J (pre ++ [x]) W' ∧ KeepsWalks W W') ∨ (e = .returned (.bool false) ∧ Jx (pre ++ [x]) W'))
    (W : World) (hJ : AbidesFrom W.heap.size J) (hm : W.cell? ⟨Bm, ob, none⟩ = some (.map (some b))) (hown : W.ownsMap Try.prog 23 R b nn D0) (h0 : J [] W) :
    CallsIn F n Try.prog 35 #[.func (.yield l) #[] #[], .pointer (some ⟨Bm, ob, none⟩)] W fun e W' => (∃ v, e = .returned v) ∧
      ((∃ ss : List Int, ss.Perm (intKeys D0) ∧ J ss W') ∨ (∃ pre : List Int, True ∧ Jx pre W')) := by
  refine callsIn_of_wp Try.func35 rfl h10 ?_ hro
  simp only [Try.ntmps35, List.size_toArray, List.length_cons, List.length_nil, Nat.reduceAdd, Nat.reduceSub, Array.replicate_succ, Array.replicate_zero, List.push_toArray, List.append_toArray, List.nil_append, List.cons_append]
  gi_wp2_with (first
    | (gi_at_range; refine wpListIn_range_own _ rfl _ 71 rfl 23 47 (int_keyed Try.underlying23) Try.underlying71 _ b nn _ rfl hown ?_; intro w0 hrg0 hg0 hs0)
    | gi_in)
  go_frame
  gi_loopw [3] (fun _ wr => ∃ (left : Lit → Bool) (cnt : Nat) (ss : List Int), wr.ranges Try.prog 23 R b W.heap.size nn D0 left cnt ∧ ss.length + cnt ≤ Maps.size D0 ∧ CollU D0 left ss ∧ J ss wr)
    (fun _ wr => wr.rangeLeft b W.heap.size)
  case atStart =>
    exact ⟨_, _, [], hrg0, by simp, CollU.start D0, hJ [] W w0 none h0 hg0 (fun r e => by cases e)⟩
  case round =>
    obtain ⟨left, cnt, ss, hrg, hcs, hC, hJs⟩ := hrel
    gi_wp2_with (first
      | (gi_at_next; refine wpListIn_next_ranges _ rfl _ rfl 23 (int_keyed Try.underlying23) R encU id (fun key kl hk => by obtain ⟨x, hx, _⟩ := keyOf_u32 Try.underlying23 hk; exact ⟨x, hx⟩) (fun v _ _ => ⟨v, rfl⟩) b W.heap.size nn _ _ _ rfl hrg ?_ ?_)
      | gi_in)
    · intro hc0 hl0
      gi_wp2
      go_end0
      exact ⟨⟨_, rfl⟩, .inl ⟨ss, hC.perm hown (int_keyed Try.underlying23) Try.underlying23 hl0, hJs⟩⟩
    · intro x c kl yd yp w2 cnt2 hkey hlk hv hat hrg2 hlt hg2 hs2 hen
      obtain ⟨x', ex, rfl, _⟩ := keyOf_u32 Try.underlying23 hkey
      obtain rfl : x = x' := encU_inj ex
      have hJ2 : J ss w2 := hJ ss wr w2 (some W.heap.size) hJs hg2 (fun r e => by cases e; exact ⟨Nat.le_refl _, hrg.iter_walk⟩)
      obtain ⟨fn, tmps, assign, body, hy, hR⟩ := hY ss x w2 hJ2 (by omega)
      clear hs2
      gi_wp2
      refine hR.mono ?_
      have hC2 := hC.step hlk hat
      rintro e W3 (⟨rfl, hJ3, hk3⟩ | ⟨rfl, hJx3⟩)
      · gi_wp2
        have hrg3 := hrg2.of_walks hk3
        go_roundw
        case rel => exact ⟨_, cnt2, ss ++ [x], hrg3, by simp; omega, hC2, hJ3⟩
        case measure => rw [hrg3.left_eq, hrg.left_eq]; exact hlt
      · gi_wp2
        refine bodyPost_ret (results_none rfl _ _ _) rfl ?_
        exact ⟨⟨_, rfl⟩, .inr ⟨ss ++ [x], trivial, hJx3⟩⟩
theorem keysU_stops {H : Type} (F : Fence) (n : Nat) (h10 : F.fn 35) (hro : F.round = none) (hn : 1 ≤ n) (Bm ob b nn : Nat) (D0 : DataW H) {R : Value → Option (DataW H × List MemPlace)} (w : World) (hBm : Bm < w.heap.size)
    (hm : w.cell? ⟨Bm, ob, none⟩ = some (.map (some b))) (hown : w.ownsMap Try.prog 23 R b nn D0) :
    SeqStopsK F n Try.prog 35 #[.pointer (some ⟨Bm, ob, none⟩)] (fun x : Int => #[encU x]) KeepsWalks (fun ss => ss.Perm (intKeys D0)) (fun _ => True) (Maps.size D0) w := fun l J Jx W hW hJ _ hY h0 => by
  have hown' : W.ownsMap Try.prog 23 R b nn D0 := by
    have hbl := hown.lt
    obtain ⟨es, clock, hb, Ft, hs, hD⟩ := hown
    exact ⟨es, clock, (hW.block b hbl).trans hb, Ft, hs, hD⟩
  exact keysU_in F n h10 hro hn l Bm ob b nn D0 J Jx hY W hJ ((hW.cell (p := ⟨Bm, ob, none⟩) hBm).trans hm) hown' h0

theorem infoU : (Try.prog.info? 23).map (fun i => (i.zero, i.size, i.bytes)) = some (some (.int .u32 0), 1, 4) := by kernel_rfl
theorem row_not_walk {W : World} {base : Nat} {e : TypeId} {size : Nat} {v : Value} {k : Nat} {xs : List Value} (h : W.ownsRow base e size v k xs) : ∀ (j : Nat) (o : Obj), v.ownBlock = some j → W.heap[j]? = some o → o.isWalk = false := by
  intro j o hj ho
  rcases h.2 with ⟨rfl, _⟩ | ⟨g, cap, cur, rfl, _, hgb, _⟩
  · simp [Value.ownBlock] at hj
  · have : g = j := by simpa [Value.ownBlock] using hj
    subst this; rw [hgb] at ho; cases ho; rfl
set_option maxRecDepth 100000 in
set_option maxHeartbeats 2000000 in
theorem appU_in {H : Type} (F : Fence) (n : Nat) (h3 : F.fn 38) (h5 : F.fn 35) (hro : F.round = none) (hn : 3 ≤ n) (Bm ob b nn : Nat) (D0 : DataW H) (R : Value → Option (DataW H × List MemPlace)) (hlen : Maps.size D0 ≤ 1000000) (w : World) (hBm : Bm < w.heap.size)
    (hm : w.cell? ⟨Bm, ob, none⟩ = some (.map (some b))) (hown : w.ownsMap Try.prog 23 R b nn D0) :
    CallsIn F n Try.prog 38 #[.slice none 0 0, .func (.func 35) #[] #[.pointer (some ⟨Bm, ob, none⟩)]] w fun e W' => ∃ (v : Value) (ss : List Int), e = .returned v ∧ ss.Perm (intKeys D0) ∧ W'.ownsRow w.heap.size 23 1 v ss.length (ss.map encU) ∧ (v = .slice none 0 0 ↔ ss = []) ∧ Below w.heap.size w W' := by
  have h1 : 1 ≤ n := by omega
  obtain ⟨i0, hi, hz0, hz1, hz2⟩ := info_parts infoU
  refine callsIn_of_wp_marks Try.func38 rfl h3 ?_ hro
  simp only [Try.ntmps38, List.size_toArray, List.length_cons, List.length_nil, Nat.reduceAdd, Nat.reduceSub, Array.replicate_succ, Array.replicate_zero, List.push_toArray, List.append_toArray, List.nil_append, List.cons_append]
  gi_wp2
  have bO := Boxed.new w 42 (.slice none 0 0)
  have hB0 : Below w.heap.size w (w.alloc (.cells #[.slice none 0 0] 42)) := (Below.refl _ w).alloc (Nat.le_refl _) _
  have hown0 : (w.alloc (.cells #[.slice none 0 0] 42)).ownsMap Try.prog 23 R b nn D0 := by
    have hbl := hown.lt
    obtain ⟨es, clock, hb, Ft, hs, hD⟩ := hown
    exact ⟨es, clock, (hB0.block b hbl).trans hb, Ft, hs, hD⟩
  refine wpIn_rangeFunc_ownG hro h1 (gf := 35) (lb := #[.pointer (some ⟨Bm, ob, none⟩)]) rfl h5 (enters_of Try.func35 (by kernel_rfl) rfl)
    (keysU_stops F (n - 1) h5 hro (by omega) Bm ob b nn D0 _ (by simp; omega) ((hB0.cell (p := ⟨Bm, ob, none⟩) hBm).trans hm) hown0) walksK_t walksK_b (Below.refl _ _) (fun _ => rfl)
    (fun pre W => (∃ v, Boxed W w.heap.size 42 v ∧ W.ownsRow w.heap.size 23 1 v pre.length (pre.map encU) ∧ (v = .slice none 0 0 ↔ pre = [])) ∧ Below w.heap.size w W)
    (fun _ _ _ => False)
    (OwnFrom.and (Own.from (holdsRow_own w.heap.size w.heap.size 42 23 1 (fun pre => pre.length) (fun pre => pre.map encU) (fun pre v => v = .slice none 0 0 ↔ pre = [])) _) (ownFrom_below (Nat.le_refl _) (by simp)))
    (fun _ _ _ _ _ hs _ _ => hs)
    ⟨⟨_, bO, World.ownsRow_nil _ _ _ _, by simp⟩, hB0⟩
    (fun x => { tmps := #[.slice none 0 0, .func (.func 35) #[] #[.pointer (some ⟨Bm, ob, none⟩)], .pointer (some ⟨w.heap.size, 0, none⟩), undef, .slice none 0 0, .int .u32 x, .func (.func 35) #[] #[.pointer (some ⟨Bm, ob, none⟩)], .int .u32 x, undef, undef, undef, undef, undef], defers := [] }) ?assign ?body ?done ?stop
  case assign =>
    intro l x W K hK
    gi_wp2
    exact hK
  case body =>
    rintro l pre x W ⟨⟨v, hv, hrow, hnil⟩, hB⟩ hlt
    have hc := hv.cell
    gi_wp2_with (gi_at_builtin; refine wpListIn_append_own _ rfl _ _ 42 rfl w.heap.size 23 i0 (.int .u32 0) 1 4 Try.underlying42 hi hz0 hz1 hz2 rfl (by decide) _ _ _ rfl (hrow.alloc _) ⟨W.heap.size, 0, none⟩ 1 1 [.int .u32 x] rfl rfl (cell_one_new _ _ _) (by simp [Value.oneCell']) (by simp [maxLen]; omega) (by omega) (by have := hB.size; simp; omega) ?_; intro v' w1 hown' hgrow _; obtain ⟨g', cap', rfl⟩ := ownsRow_succ hown'; obtain ⟨hv1, hv2, hr2, hk2, hb2⟩ := hv.appended (by decide) hrow hB.size (Nat.le_refl _) hown' hgrow; have hc1 := hv1.cell; have hf1 := hv1.frozen)
    exact ⟨hk2.from _, ((KeepsWalks.alloc _ _).trans (KeepsWalks.of_grownBy hgrow (row_not_walk (hrow.alloc _)))).trans (KeepsWalks.setCell _ _ _), ⟨_, hv2, by simpa using hr2, by simp⟩, hB.trans hb2⟩
  case done =>
    rintro D ys W hD hp ⟨⟨v, hv, hrow, hnil⟩, hB⟩ hK
    have hc := hv.cell
    gi_wp2
    refine ⟨by simp, .inl ⟨_, _, rfl, run_takeDeferred hK, ?_⟩⟩
    exact ⟨_, results_tmp rfl _ _ _, v, ys, rfl, hp, ownsRow_putObj hrow _ hK rfl, hnil, hB.trans (belowK_b (w := w) (Nat.le_refl _) W D _ _ (by simp at hD; omega) hK rfl rfl)⟩
  case stop =>
    rintro D c pre W _ _ h _
    exact h.elim
set_option maxHeartbeats 1000000 in
theorem collU_in {H : Type} (F : Fence) (n : Nat) (h8 : F.fn 33) (h3 : F.fn 38) (h5 : F.fn 35) (hro : F.round = none) (hn : 4 ≤ n) (Bm ob b nn : Nat) (D0 : DataW H) (R : Value → Option (DataW H × List MemPlace)) (hlen : Maps.size D0 ≤ 1000000) (w : World) (hBm : Bm < w.heap.size)
    (hm : w.cell? ⟨Bm, ob, none⟩ = some (.map (some b))) (hown : w.ownsMap Try.prog 23 R b nn D0) :
    CallsIn F n Try.prog 33 #[.func (.func 35) #[] #[.pointer (some ⟨Bm, ob, none⟩)]] w fun e W' => ∃ (v : Value) (ss : List Int), e = .returned v ∧ ss.Perm (intKeys D0) ∧ W'.ownsRow w.heap.size 23 1 v ss.length (ss.map encU) ∧ (v = .slice none 0 0 ↔ ss = []) ∧ Below w.heap.size w W' := by
  have h1 : 1 ≤ n := by omega
  refine callsIn_of_wp Try.func33 rfl h8 ?_ hro
  simp only [Try.ntmps33, List.size_toArray, List.length_cons, List.length_nil, Nat.reduceAdd, Nat.reduceSub, Array.replicate_succ, Array.replicate_zero, List.push_toArray, List.append_toArray, List.nil_append, List.cons_append]
  gi_wp2_with (gi_at_call 38; refine (appU_in F (n - 1) h3 h5 hro (by omega) Bm ob b nn D0 R hlen _ hBm hm hown).mono ?_; rintro e w' ⟨v, ss, rfl, hp, hrow, hnil, hb⟩)
  go_ret
  exact ⟨v, ss, rfl, hp, hrow, hnil, hb⟩
end Go.AX

namespace Go.AX
open Go Go.Proofs
open Go.WideElems (Fit rd rg)

theorem sortL_of_perm {l l' : List T32} (h : l.Perm l') : sortL l = sortL l' := by
  refine List.Perm.eq_of_pairwise (le := fun a b => a.toNat ≤ b.toNat) (fun a b _ _ h1 h2 => BitVec.eq_of_toNat_eq (Nat.le_antisymm h1 h2)) (sortL_sorted l) (sortL_sorted l') (((sortL_perm l).trans h).trans (sortL_perm l').symm)
def keysG : List AV → H → Nat → Option (AV × H × Nat)
  | [.mp m], hp, nx => some (.fn 35 [.op nx 0], upd hp nx (.cells [.mp m] true), nx + 10)
  | _, _, _ => none
theorem keysG_eq (m : Nat) (hp : H) (nx : Nat) : keysG [.mp m] hp nx = some (.fn 35 [.op nx 0], upd hp nx (.cells [.mp m] true), nx + 10) := (rfl)
attribute [go_sem] keysG_eq
theorem keys_ok : HeapOK Try.prog GLh 23 keysG := by
  refine heap_of_awp Try.func23 (bodyOf_some rfl) ?_
  intro args hp nx r hp' nx' hg
  unfold keysG at hg
  split at hg
  · rename_i m
    simp only [Option.some.injEq, Prod.mk.injEq] at hg; obtain ⟨rfl, rfl, rfl⟩ := hg
    refine ⟨Nat.le_of_ble_eq_true rfl, by omega, fun hnone => ?_⟩
    refine awp_seqP rfl ?_
    refine awp_regP (Γ := noEnv) [1] (noEnv_ok _ _) rfl rfl rfl (fun K hK => ?_)
    simp (disch := omega) only [Try.f23, go_sem, Nat.reduceAdd, ↓reduceIte]
    refine hK _ ?_
    clear hK K
    refine nx_then ?_
    refine awp_seqP rfl ?_
    refine awp_regP (Γ := noEnv) [2] (noEnv_ok _ _) rfl rfl rfl (fun K hK => ?_)
    simp (disch := omega) only [Try.f23, go_sem, Nat.reduceAdd, ↓reduceIte]
    refine hK _ ?_
    clear hK K
    refine nx_then ?_
    refine awp_retP rfl ?_
    exact ⟨rfl, fun j o h => h, by simp only; omega⟩
  · cases hg
theorem okd36 : EntOK Try.prog GLh 23 (.heap keysG) := ⟨⟨_, Try.func23, rfl, rfl⟩, keys_ok⟩

def keysU : List (AV × AV) → Option (List T32)
  | [] => some []
  | p :: r => match p.1 with
    | .w32 k => obind (keysU r) fun l => some (k :: l)
    | _ => none
theorem keysU_B (l : List (W32 × KY)) : keysU (encB l) = some (l.map (·.1)) := by
  induction l with
  | nil => rfl
  | cons p r ih => simp only [encB, List.map_cons, keysU] at ih ⊢; rw [ih]; rfl
theorem keysU_inv : ∀ {es : List (AV × AV)} {ks : List T32}, keysU es = some ks → ks.length = es.length ∧ ∀ i (h : i < es.length), es[i].1 = .w32 (ks.getD i 0#32)
  | [], ks, h => by obtain rfl := Option.some.inj h; exact ⟨rfl, fun i h => by simp at h⟩
  | p :: r, ks, h => by
    simp only [keysU] at h
    split at h
    · rename_i k e
      replace h := obind_inv h; obtain ⟨l, hl, h⟩ := h
      obtain rfl := Option.some.inj h
      obtain ⟨i1, i2⟩ := keysU_inv hl
      refine ⟨by simp [i1], fun i hi => ?_⟩
      cases i with
      | zero => exact e
      | succ i => simpa using i2 i (by simpa using hi)
    · cases h
def sdO (nx : Nat) (hp : H) : AO → Option (AV × H × Nat)
  | .mapo es _ => obind (keysU es) fun ks => guardO (ks.length ≤ 1000000) (some (.os nx 0 ks.length 1 true, upd hp nx (.cells (c32 (sortL ks)) true), nx + 1))
  | _ => none
def sdP (nx : Nat) (hp : H) : AO → Option (AV × H × Nat)
  | .cells [.mp m] _ => obind (hp m) (sdO nx hp)
  | _ => none
def sdG : List AV → H → Nat → Option (AV × H × Nat)
  | [.fn 35 [.op b 0]], hp, nx => obind (hp b) (sdP nx hp)
  | _, _, _ => none
theorem sdG_eq (b : Nat) (hp : H) (nx : Nat) : sdG [.fn 35 [.op b 0]] hp nx = obind (hp b) (sdP nx hp) := (rfl)
theorem sdP_eq (m nx : Nat) (hp : H) (mt : Bool) : sdP nx hp (.cells [.mp m] mt) = obind (hp m) (sdO nx hp) := (rfl)
theorem sdO_eq (nx : Nat) (hp : H) (es : List (AV × AV)) (mt : Bool) : sdO nx hp (.mapo es mt) = obind (keysU es) fun ks => guardO (ks.length ≤ 1000000) (some (.os nx 0 ks.length 1 true, upd hp nx (.cells (c32 (sortL ks)) true), nx + 1)) := (rfl)
attribute [go_sem] sdG_eq sdP_eq sdO_eq keysU_B
def oneRU : Value → Option (DataW Unit × List MemPlace) := fun _ => some (.lit (.bool true), [])
theorem ins_permU (x : Lit × DataW Unit) : ∀ l, (DataW.insert x l).Perm (x :: l)
  | [] => List.Perm.refl _
  | y :: r => by
    simp only [DataW.insert]
    split
    · exact List.Perm.refl _
    · exact ((ins_permU x r).cons y).trans (List.Perm.swap x y r)
theorem foldr_permU : ∀ l : List (Lit × DataW Unit), (l.foldr DataW.insert []).Perm l
  | [] => List.Perm.refl _
  | x :: r => (ins_permU x _).trans ((foldr_permU r).cons x)
theorem rw32_inv {σ : Nat → Loc} {I : Nat → Prop} {w : World} {n : W32} {v : Value} (h : Rel σ I w (.w32 n) v) : v = .int .u32 (n.toNat : Int) := by cases h; rfl
theorem wf_u32 (k : W32) : (Lit.int .u32 (k.toNat : Int)).wf = true := by
  have := k.isLt
  simp [Lit.wf, IntKind.min, IntKind.max, IntKind.signed, IntKind.bits]
  omega
/-- An own map, as the kit's contracts ask for it. -/
theorem owns_of_rowU {σ : Nat → Loc} {I : Nat → Prop} {w : World} {es : List (AV × AV)} {blk : Nat} {ks : List T32} (h : MapRow σ I w es blk) (hk : keysU es = some ks) (hlen : ks.length ≤ 1000000) :
    ∃ D : DataW Unit, w.ownsMap Try.prog 23 oneRU blk ks.length D ∧ (intKeys D).Perm (ks.map fun k => (k.toNat : Int)) ∧ Maps.size D = ks.length := by
  obtain ⟨⟨ents, cl, h1, h2, h3, h4⟩⟩ := h
  obtain ⟨k1, k2⟩ := keysU_inv hk
  have hkey : ∀ i (hi : i < ents.size), ents[i].key = .int .u32 ((ks.getD i 0#32).toNat : Int) := by
    intro i hi
    have := (h4 i (by omega)).2.1
    rw [k2 i (by omega)] at this
    have e : ents.getD i default = ents[i] := by rw [Array.getD_eq_getD_getElem?, Array.getElem?_eq_getElem hi]; rfl
    rw [e] at this
    exact rw32_inv this
  have hrd : ∀ i (hi : i < ents.size), rd Try.prog 23 oneRU ents[i] = some (.int .u32 ((ks.getD i 0#32).toNat : Int), .lit (.bool true)) := by
    intro i hi
    have hw := wf_u32 (ks.getD i 0#32)
    have hk := hkey i hi
    generalize ks.getD i 0#32 = k at hw hk ⊢
    simp [rd, hk, keyOf, mapKey, Try.underlying23, hw, oneRU]
  have hmap : ents.toList.map (rg Try.prog 23 oneRU) = ks.map fun k => (.int .u32 (k.toNat : Int), .lit (.bool true)) := by
    apply List.ext_getElem
    · simp [h2, k1]
    · intro i hi1 hi2
      simp at hi1 hi2
      simp only [List.getElem_map, Array.getElem_toList, rg, hrd i hi1, Option.getD_some]
      rw [List.getD_eq_getElem?_getD, List.getElem?_eq_getElem hi2]; rfl
  refine ⟨.map ((ents.toList.map (rg Try.prog 23 oneRU)).foldr DataW.insert []), ⟨ents, cl, h1, ⟨by simp only [maxLen]; omega, h3, fun x hx => ?_⟩, by omega, rfl⟩, ?_, ?_⟩
  · obtain ⟨i, hi, rfl⟩ := List.getElem_of_mem hx
    exact ⟨_, hrd i (by simpa using hi)⟩
  · rw [hmap]
    simp only [intKeys]
    refine ((foldr_permU _).map _).trans (List.Perm.of_eq ?_)
    rw [List.map_map]
    rfl
  · rw [hmap, Maps.size_eq, (foldr_permU _).length_eq, List.length_map]
attribute [local go_sem] Oper.semAt_some
set_option maxRecDepth 100000 in
set_option maxHeartbeats 2000000 in
theorem sortedU_in {H : Type} (F : Fence) (n : Nat) (h6 : F.fn 22) (h8 : F.fn 33) (h9 : F.fn 34) (h3 : F.fn 38) (h5 : F.fn 35) (hro : F.round = none) (hn : 5 ≤ n) (Bm ob b nn : Nat) (D0 : DataW H) (R : Value → Option (DataW H × List MemPlace)) (hlen : Maps.size D0 ≤ 1000000) (w : World) (hBm : Bm < w.heap.size)
    (hm : w.cell? ⟨Bm, ob, none⟩ = some (.map (some b))) (hown : w.ownsMap Try.prog 23 R b nn D0) (Post : Value → World → Prop)
    (hsort : ∀ (v : Value) (ss : List Int) (w1 : World), ss.Perm (intKeys D0) → w1.ownsRow w.heap.size 23 1 v ss.length (ss.map encU) → (v = .slice none 0 0 ↔ ss = []) → RowKit.Below w.heap.size w w1 → CallsIn F (n - 1) Try.prog 34 #[v] w1 fun e w2 => e = .returned (.tuple #[]) ∧ Post v w2) :
    CallsIn F n Try.prog 22 #[.func (.func 35) #[] #[.pointer (some ⟨Bm, ob, none⟩)]] w fun e w' => ∃ v, e = .returned v ∧ Post v w' := by
  have h1 : 1 ≤ n := by omega
  refine callsIn_of_wp Try.func22 rfl h6 ?_ hro
  simp only [Try.ntmps22, List.size_toArray, List.length_cons, List.length_nil, Nat.reduceAdd, Nat.reduceSub, Array.replicate_succ, Array.replicate_zero, List.push_toArray, List.append_toArray, List.nil_append, List.cons_append]
  gi_wp2_with (gi_at_call 33; refine (collU_in F (n - 1) h8 h3 h5 hro (by omega) Bm ob b nn D0 R hlen _ hBm hm hown).mono ?_; rintro e w1 ⟨v, ss, rfl, hp, hrow, hnil, hb⟩)
  gi_wp2_with (gi_at_call 34; refine (hsort v ss w1 hp hrow hnil hb).mono ?_; rintro e w2 ⟨rfl, hpost⟩)
  go_ret
  exact ⟨v, rfl, hpost⟩
theorem sortedU_calls {H : Type} (Bm ob b nn : Nat) (D0 : DataW H) (R : Value → Option (DataW H × List MemPlace)) (hlen : Maps.size D0 ≤ 1000000) (w : World) (hBm : Bm < w.heap.size)
    (hm : w.cell? ⟨Bm, ob, none⟩ = some (.map (some b))) (hown : w.ownsMap Try.prog 23 R b nn D0) (Post : Value → World → Prop)
    (hsort : ∀ (v : Value) (ss : List Int) (w1 : World), ss.Perm (intKeys D0) → w1.ownsRow w.heap.size 23 1 v ss.length (ss.map encU) → (v = .slice none 0 0 ↔ ss = []) → RowKit.Below w.heap.size w w1 → Calls Try.prog 34 #[v] w1 fun e w2 => e = .returned (.tuple #[]) ∧ Post v w2) :
    Calls Try.prog 22 #[.func (.func 35) #[] #[.pointer (some ⟨Bm, ob, none⟩)]] w fun e w' => ∃ v, e = .returned v ∧ Post v w' :=
  callsIn_wide.1 (sortedU_in Fence.wide 6 trivial trivial trivial trivial trivial rfl (by omega) Bm ob b nn D0 R hlen w hBm hm hown Post (fun v ss w1 a b c d => callsIn_wide.2 (hsort v ss w1 a b c d)))

set_option maxHeartbeats 1000000 in
theorem sd_ok : HeapOK Try.prog GLh 22 sdG := by
  intro c σ I w hp nx args vals r hp' nx' hGL hi hs hr hg
  unfold sdG at hg
  split at hg
  · rename_i b
    replace hg := obind_inv hg; obtain ⟨o, ho, hg⟩ := hg
    unfold sdP at hg
    split at hg
    · rename_i m mt
      replace hg := obind_inv hg; obtain ⟨o2, ho2, hg⟩ := hg
      cases o2 with
      | cells xs mt2 => cases hg
      | mapo es mt2 =>
      rw [sdO_eq] at hg
      replace hg := obind_inv hg; obtain ⟨ks, hks, hg⟩ := hg
      replace hg := guardO_inv hg; obtain ⟨hlen, hg⟩ := hg
      simp only [Option.some.injEq, Prod.mk.injEq] at hg; obtain ⟨rfl, rfl, rfl⟩ := hg
      refine ⟨by omega, ?_⟩
      have hr0 := hr 0 (by simp)
      simp only [List.getElem_cons_zero] at hr0
      generalize hv0 : vals.getD 0 undef = v0 at hr0
      cases hr0 with
      | fn f xs vs hvs hrel =>
      have hrp := hrel 0 (by simp)
      simp only [List.getElem_cons_zero] at hrp
      obtain ⟨blk, base, sz, hl, hp0⟩ := op_inv hrp
      have hvs1 : vs = #[.pointer (some ⟨blk, base + 0, none⟩)] := by
        apply Array.ext
        · rw [hvs]; rfl
        · intro i h1 h2
          obtain rfl : i = 0 := by simp at h2; omega
          have : vs.getD 0 undef = vs[0] := by simp [Array.getD, h1]
          rw [← this]; simpa using hp0
      have hvals : vals = #[.func (.func 35) #[] #[.pointer (some ⟨blk, base + 0, none⟩)]] := by
        apply Array.ext
        · rw [hs]; rfl
        · intro i h1 h2
          obtain rfl : i = 0 := by simp at h2; omega
          have : vals.getD 0 undef = vals[0] := by simp [Array.getD, h1]
          rw [← this, hv0, hvs1]; rfl
      have hob := hi.own b _ ho
      have hrow := own_row hob hl
      obtain ⟨v1, hc1, _, hr1⟩ := hrow.get 0 (by simp)
      simp only [List.getElem_cons_zero] at hr1
      obtain ⟨mb, e1, hmr, _⟩ := hi.own m _ ho2
      obtain rfl := mp_at hr1 e1
      have hlt : blk < w.heap.size := hob.lt hl
      obtain ⟨D, d1, d2, d3⟩ := owns_of_rowU hmr hks hlen
      rw [hvals]
      refine (sortedU_calls blk (base + 0) mb ks.length D oneRU (by omega) w hlt hc1 d1 (fun v w2 => ∃ σ' I', Inv c σ' I' w2 (upd hp nx (.cells (c32 (sortL ks)) true)) (fun id => nx + 1 ≤ id) ∧ Rel σ' I' w2 (.os nx 0 ks.length 1 true) v ∧ Grow σ I w σ' I' w2 ∧ (∀ id, id < nx → σ id = .unset → σ' id = .unset)) ?_).mono ?_
      · intro v ss w' hperm hrow2 hnil hb
        have hp2 := hperm.trans d2
        have hsl : ss.length = ks.length := by rw [hp2.length_eq, List.length_map]
        have hinr : ∀ x ∈ ss, (((BitVec.ofInt 32 x).toNat : Nat) : Int) = x := by
          intro x hx
          obtain ⟨k, _, rfl⟩ := List.mem_map.1 (hp2.mem_iff.1 hx)
          have := k.isLt
          rw [BitVec.toNat_ofInt]
          omega
        obtain ⟨l, hl2⟩ : ∃ l, l = ss.map (BitVec.ofInt 32) := ⟨_, rfl⟩
        have hss : ss = l.map fun k => (k.toNat : Int) := by
          rw [hl2, List.map_map]
          exact (List.map_id' ss).symm.trans (List.map_congr_left fun x hx => (hinr x hx).symm)
        have hlp : l.Perm ks := by
          rw [hl2]
          refine (hp2.map _).trans (List.Perm.of_eq ?_)
          rw [List.map_map]
          refine (List.map_congr_left fun k _ => ?_).trans (List.map_id' ks)
          apply BitVec.eq_of_toNat_eq
          have := k.isLt
          simp only [Function.comp, BitVec.toNat_ofInt]
          omega
        have hll : l.length = ks.length := hlp.length_eq
        rw [hss, List.length_map, List.map_map, hll] at hrow2
        have hext := hi.extend hb.os hb.tape hb.output hb.size (fun k hk => hb.block k hk) I (fun _ h => h) (fun k hk => .inl hk)
        have hun : ∀ id, (nx + 1 ≤ id ∨ (id = nx ∨ (id < nx ∧ σ id = .unset))) → σ id = .unset := by
          intro id h
          rcases h with h | h | h
          · exact hi.un id (by omega)
          · exact hi.un id (by omega)
          · exact h.2
        have hext2 : Inv c σ I w' hp (fun k => nx + 1 ≤ k ∨ (k = nx ∨ (k < nx ∧ σ k = .unset))) := { hext with un := hun }
        obtain ⟨v2, σ2, I2, a1, a2, a3, a4⟩ := freshFin (I := I) (Iw := I) (w := w) (cx := nx + 1) (un := fun k => k = nx ∨ (k < nx ∧ σ k = .unset)) (id := nx) (nn := ks.length) (ee := 1) (xs := c32 l) (v := v) (I1 := I) hext2 (.inl rfl) hi.size (fun k hk => hi.ilt k hk)
          (fun k o blk base sz h1 h2 => (hi.own k o h1).lt h2) ⟨fun _ _ => rfl, fun _ h => h, fun k hk => hb.block k (hi.ilt k hk)⟩ (by
            rcases hrow2.2 with ⟨rfl, h0⟩ | ⟨g, cap, cur, rfl, hbg, hgb, hcap, hmax, hsz, htake⟩
            · left
              refine ⟨.inl rfl, h0, ?_⟩
              rw [h0] at hll
              rw [List.eq_nil_of_length_eq_zero hll]; rfl
            · right
              refine ⟨g, 0, cap, cap, rfl, hcap, by omega, hbg, fun hI5 => absurd (hi.ilt g hI5) (by omega), ⟨cur, 23, 0, 0, hgb, by omega, by rw [c32_len]; omega, ⟨Nat.le_refl _, fun _ _ => by omega⟩, fun i hi5 => ?_⟩, fun i hi5 => ?_⟩
              · have hil : i < l.length := by rw [c32_len] at hi5; exact hi5
                have e5 : (c32 l)[i]'hi5 = .w32 l[i] := by simp [c32]
                rw [e5]
                have h6 : (cur.toList.take (ks.length * 1))[i]? = some (.int .u32 (l[i].toNat : Int)) := by rw [htake]; simp [hil]
                rw [List.getElem?_take_of_lt (by omega)] at h6
                have e6 : cur.getD (0 + i) undef = .int .u32 (l[i].toNat : Int) := by
                  rw [Nat.zero_add, Array.getD_eq_getD_getElem?, ← Array.getElem?_toList, h6]; rfl
                rw [e6]; exact .w32 _
              · have hil : i < l.length := by rw [c32_len] at hi5; exact hi5
                have e5 : (c32 l)[i]'hi5 = .w32 l[i] := by simp [c32]
                rw [e5]; rfl) (fun k h => by omega)
        cases a1
        have hca : c32 l = cA l.toArray := by simp [cA, c32]
        have hmut : mutH srtG [.os nx 0 ks.length 1 true] (upd hp nx (.cells (c32 l) true)) (nx + 1) = some (.tup [], upd hp nx (.cells (c32 (sortL ks)) true), nx + 1) := by
          rw [mutH_os, upd_apply, if_pos rfl, obind_some, mutO_c, guardO_true _ rfl, srtG_eq, hca, unA_cA, obind_some, guardO_true _ ⟨by simpa using hll, hlen⟩, obind_some]
          have e7 : sortL l = sortL ks := sortL_of_perm hlp
          have e8 : cA (sortL ks).toArray = c32 (sortL ks) := by simp [cA, c32]
          simp only [Option.some.injEq, Prod.mk.injEq, true_and, and_true]
          rw [e7, e8]
          funext k
          simp only [upd_apply]
          split <;> rfl
        obtain ⟨_, hcall⟩ := srt_ok c σ2 I2 w' (upd hp nx (.cells (c32 l) true)) (nx + 1) [.os nx 0 ks.length 1 true] #[v] _ _ _ hGL (a2.mono_un (fun k hk => .inl hk)) rfl (fun i hi6 => by
          obtain rfl : i = 0 := by simp at hi6; omega
          exact a3) hmut
        refine hcall.mono ?_
        rintro e w2 ⟨v3, σ3, I3, rfl, b2, b3, b4, b5⟩
        have hv3 : v3 = .tuple #[] := by
          cases b3 with
          | tup xs vs h1 h2 =>
            have : vs = #[] := Array.eq_empty_of_size_eq_zero h1
            rw [this]
        rw [hv3]
        exact ⟨rfl, σ3, I3, b2, a3.grow b4, a4.trans b4, fun id hid hun2 => b5 id (by omega) (a2.un id (.inr ⟨.inr ⟨hid, hun2⟩, by omega⟩))⟩
      · rintro e w2 ⟨v, rfl, σ', I', b2, b3, b4, b5⟩
        exact ⟨v, σ', I', rfl, b2, b3, b4, b5⟩
    · cases hg
  · cases hg
theorem okd35 : EntOK Try.prog GLh 22 (.heap sdG) := ⟨⟨_, Try.func22, rfl, rfl⟩, sd_ok⟩
end Go.AX

namespace Go.AX
open Go Go.Proofs
set_option maxRecDepth 8000

def ky0 : KY := ⟨0#32, 0, 0, ⟨0#8, 0#8, 0#8, 0#8, 0#8, 0#8, 0#8, 0#8⟩, 0, 0#32, 0#32, 0#32⟩
/-- Keys, as they stand in a row. -/
def kysC : List KY → List AV
  | [] => []
  | k :: r => kyC k ++ kysC r
theorem kysC_len (l : List KY) : (kysC l).length = 15 * l.length := by
  induction l with
  | nil => rfl
  | cons k r ih => rw [kysC, List.length_append, ih, List.length_cons]; show 15 + _ = _; omega
theorem kysC_app (l m : List KY) : kysC (l ++ m) = kysC l ++ kysC m := by
  induction l with
  | nil => rfl
  | cons k r ih => rw [List.cons_append, kysC, ih, kysC, List.append_assoc]
theorem kysC_one (k : KY) : kysC [k] = kyC k := by rw [kysC, kysC, List.append_nil]
def idsL (C : RC) : List W32 := sortL (C.by'.map (·.1))
def allL (C : RC) : List KY := (idsL C).map fun id => (getK id C.by').getD ky0
theorem idsL_len (C : RC) : (idsL C).length = C.by'.length := by rw [idsL, sortL_len, List.length_map]
theorem allL_len (C : RC) : (allL C).length = C.by'.length := by rw [allL, List.length_map, idsL_len]
theorem getK_mem {β : Type} (id : W32) : ∀ l : List (W32 × β), id ∈ l.map (·.1) → ∃ v, getK id l = some v
  | [], h => by cases h
  | p :: r, h => by
    simp only [getK]
    by_cases e : id = p.1
    · exact ⟨p.2, by rw [if_pos e]⟩
    · rw [if_neg e]
      rw [List.map_cons, List.mem_cons] at h
      exact getK_mem id r (h.resolve_left e)
theorem idsL_get (C : RC) (k : Nat) (hk : k < (idsL C).length) : getK ((idsL C).getD k 0#32) C.by' = some ((allL C).getD k ky0) := by
  have hm : (idsL C).getD k 0#32 ∈ C.by'.map (·.1) := by
    rw [List.getD_eq_getElem?_getD, List.getElem?_eq_getElem hk]
    exact (sortL_perm _).mem_iff.1 (List.getElem_mem hk)
  obtain ⟨v, hv⟩ := getK_mem _ _ hm
  rw [hv]
  have e : (allL C).getD k ky0 = ((getK ((idsL C).getD k 0#32) C.by').getD ky0) := by
    simp [allL, List.getD_eq_getElem?_getD, List.getElem?_eq_getElem hk]
  rw [e, hv]; rfl
theorem allL_take (C : RC) (k : Nat) (hk : k < (allL C).length) : (allL C).take (k + 1) = (allL C).take k ++ [(allL C).getD k ky0] := by
  rw [List.take_add_one, List.getElem?_eq_getElem hk, List.getD_eq_getElem?_getD, List.getElem?_eq_getElem hk]; rfl
noncomputable def allG : List AV → H → Nat → Option (AV × H × Nat)
  | [.op d 0], hp, nx => obind (rngOf hp d) fun t => guardO (t.C.by'.length ≤ 1000) (some (.sl t.C.by'.length (kysC (allL t.C)), hp, nx + 200 + 100 * t.C.by'.length))
  | _, _, _ => none
theorem allG_eq (d : Nat) (hp : H) (nx : Nat) : allG [.op d 0] hp nx = obind (rngOf hp d) fun t => guardO (t.C.by'.length ≤ 1000) (some (.sl t.C.by'.length (kysC (allL t.C)), hp, nx + 200 + 100 * t.C.by'.length)) := (rfl)
attribute [go_sem] allG_eq
set_option maxHeartbeats 1000000 in
theorem all_ok : HeapOK Try.prog GLh 9 allG := by
  refine heap_of_awp Try.func9 (bodyOf_some rfl) ?_
  intro args hp nx r hp' nx' hg
  unfold allG at hg
  split at hg
  · rename_i d
    replace hg := obind_inv hg; obtain ⟨⟨s, m, C⟩, hD0, hg⟩ := hg
    have hD := rngOf_inv hD0
    replace hg := guardO_inv hg; obtain ⟨hlen, hg⟩ := hg
    simp only [Option.some.injEq, Prod.mk.injEq] at hg hD hlen; obtain ⟨rfl, rfl, rfl⟩ := hg
    refine ⟨Nat.le_of_ble_eq_true rfl, by omega, fun hnone => ?_⟩
    have h1 := hD.hd; have h2 := hD.hs; have h3 := hD.hm
    obtain ⟨n1, n2, n3, n4, n5, n6⟩ := hD.ne
    have hlt : ∀ k o, hp k = some o → k < nx := fun k o hk => lt_of_none2 hnone hk
    have hd := hlt _ _ h1
    have hs := hlt _ _ h2
    have hm := hlt _ _ h3
    have hil := idsL_len C
    have hal := allL_len C
    have hid : sortL (C.by'.map (·.1)) = idsL C := rfl
    obtain ⟨N, hN⟩ : ∃ N, C.by'.length = N := ⟨_, rfl⟩
    rw [hN] at hlen hil hal ⊢
    refine awp_seqP rfl ?_
    refine awp_regP (Γ := noEnv) [0] (noEnv_ok _ _) rfl rfl rfl (fun K hK => ?_)
    simp (disch := omega) only [Try.f9, go_sem, ↓reduceIte]
    refine hK _ ?_
    clear hK K
    refine nx_then ?_
    refine awp_seqP rfl ?_
    refine awp_regP (Γ := noEnv) [0, 3] (noEnv_ok _ _) rfl rfl rfl (fun K hK => ?_)
    simp (disch := omega) only [Try.f9, go_sem, ↓reduceIte]
    refine hK _ ?_
    clear hK K
    refine nx_then ?_
    refine awp_seqP rfl ?_
    refine awp_seqP rfl ?_
    refine awp_regP (Γ := envL [(23, .heap keysG), (22, .heap sdG)]) [0, 3, 11, 12, 13] (envOK_cons okd36 (envOK_cons okd35 envOK_nil)) rfl rfl rfl (fun K hK => ?_)
    simp (disch := omega) only [Try.f9, go_sem, Nat.reduceAdd, Nat.reduceLT, ↓reduceIte, h1, h2, rgC_eq, hid, hN, List.length_map, List.head?_cons, List.drop_succ_cons, List.drop_zero]
    refine hK _ ?_
    clear hK K
    refine nx_then ?_
    refine awp_own 3 15 rfl ?_
    refine awp_keep [0, 3, 11, 12, 13] ?_
    simp only [kf_nil, kf_cons, look_cons, ↓reduceIte, Nat.reduceEqDiff]
    refine awp_blockN 0 rfl rfl ?_
    refine awp_loopP (fun p : KIC => { fr := [(0, .op d 0), (3, .os p.id 0 p.k 15 true), (11, .os (nx + 1 + 1 + 8 + 10) 0 N 1 true), (12, .i N), (13, .i p.k)], hp := upd (upd (upd hp (nx + 1 + 1 + 8) (.cells [.mp s] true)) (nx + 1 + 1 + 8 + 10) (.cells (c32 (idsL C)) true)) p.id (.cells (kysC ((allL C).take p.k)) true), nx := 0, cx := p.c }) (fun p => p.k ≤ N ∧ nx + 20 < p.id ∧ p.id < p.c ∧ p.c ≤ nx + 60 + 60 * p.k) (fun p => N - p.k) rfl ⟨⟨0, _, _⟩, ⟨Nat.zero_le _, by simp only; omega, by simp only; omega, by simp only; omega⟩, sub_same rfl rfl (Nat.le_refl _)⟩ ?_
    rintro ⟨k, id, c⟩ ⟨hk, hid1, hid2, hcc⟩ n0
    simp only at hk hid1 hid2 hcc ⊢
    refine awp_seqP rfl ?_
    refine awp_regP (Γ := noEnv) [14, 0, 3, 11, 12, 13] (noEnv_ok _ _) rfl rfl rfl (fun K hK => ?_)
    simp (disch := omega) only [Try.f9, go_sem, ↓reduceIte]
    refine hK _ ?_
    clear hK K
    refine nx_then ?_
    refine awp_seqP rfl ?_
    refine awp_ifD (.tmp 14) rfl rfl rfl (fun h => ?_) (fun h => ?_)
    · skip
      refine awp_drop rfl ?_
      have hkN : k < N := by omega
      have hgk := idsL_get C k (by omega)
      have hta := allL_take C k (by omega)
      have htl : ((allL C).take k).length = k := by rw [List.length_take]; omega
      refine awp_skipP rfl ?_
      refine nx_then ?_
      refine awp_seqP rfl ?_
      refine awp_blockN 1 rfl rfl ?_
      refine awp_seqP rfl ?_
      refine awp_regP (Γ := noEnv) [0, 3, 5, 11, 12, 13] (noEnv_ok _ _) rfl rfl rfl (fun K hK => ?_)
      simp (disch := omega) only [Try.f9, go_sem, Nat.reduceAdd, ↓reduceIte]
      refine hK _ ?_
      clear hK K
      refine nx_then ?_
      have hkt := kysC_len ((allL C).take k)
      rw [htl] at hkt
      have htA : kysC ((allL C).take (k + 1)) = kysC ((allL C).take k) ++ kyC ((allL C).getD k ky0) := by rw [hta, kysC_app, kysC_one]
      generalize (allL C).getD k ky0 = X at hgk htA
      refine awp_regP (Γ := noEnv) [0, 3, 11, 12, 13] (noEnv_ok _ _) rfl rfl rfl (fun K hK => ?_)
      simp (disch := omega) only [Try.f9, go_sem, Nat.reduceAdd, Nat.reduceLeDiff, Nat.reduceLT, ↓reduceIte, h1, h2, hgk, rgC_eq, encK_eq, splice, List.nil_append, List.cons_append, List.head?_cons, List.take_succ_cons, List.take_zero, List.drop_succ_cons, List.drop_zero, List.length_cons, List.length_nil, hkt]
      refine hK _ ?_
      clear hK K
      refine nx_blk (nx_then ?_)
      refine awp_regP (Γ := noEnv) [0, 3, 11, 12, 13] (noEnv_ok _ _) rfl rfl rfl (fun K hK => ?_)
      simp (disch := omega) only [Try.f9, go_sem, Nat.reduceAdd, ↓reduceIte]
      refine hK _ ?_
      clear hK K
      refine nx_loop ?_
      refine ⟨⟨k + 1, c + 1 + 3 + 8, _⟩, ⟨by simp only; omega, by simp only; omega, by simp only; omega, by simp only; omega⟩, by simp only; omega, ⟨fun _ => .inr ?_, fun j o h => ?_, Nat.le_refl _⟩⟩
      · simp only [Int.natCast_add, Int.natCast_one]
      · simp only at h
        refine hsub_cons ?_ (hsub_cons ?_ (hsub_cons ?_ (fun j o h => ?_))) j o h
        · simp (disch := omega) only [up_app, ↓reduceIte, eq_self, htA] <;> rfl
        · simp (disch := omega) only [up_app, de_app, nat_ne, ↓reduceIte, eq_self]
        · simp (disch := omega) only [up_app, de_app, nat_ne, ↓reduceIte, eq_self]
        · have := hlt j o h
          simp (disch := omega) only [up_app, de_app, nat_ne, ↓reduceIte]
          exact h
    · skip
      refine awp_drop rfl ?_
      refine awp_exitN 0 rfl rfl ?_
      refine nx_ex_then (nx_ex_loop (nx_ex_blk ?_))
      refine nx_then ?_
      refine awp_seqP rfl ?_
      obtain rfl : k = N := by omega
      rw [List.take_of_length_le (by omega)]
      have hkl := kysC_len (allL C)
      refine awp_sl 3 id 0 k 15 rfl (by rw [upd_apply, if_pos rfl]) (by omega) ?_
      rw [List.drop_zero, List.take_of_length_le (by omega)]
      refine awp_regP (Γ := noEnv) [2] (noEnv_ok _ _) rfl rfl rfl (fun K hK => ?_)
      simp (disch := omega) only [Try.f9, go_sem, Nat.reduceAdd, ↓reduceIte]
      refine hK _ ?_
      clear hK K
      refine nx_then ?_
      refine awp_retP rfl ?_
      refine ⟨rfl, fun j o h => ?_, by simp only; omega⟩
      have := hlt j o h
      simp (disch := omega) only [up_app, nat_ne, ↓reduceIte]
      exact h
  · cases hg
theorem okd15 : EntOK Try.prog GLh 9 (.heap allG) := ⟨⟨_, Try.func9, rfl, rfl⟩, all_ok⟩
end Go.AX

namespace Go.AX
open Go Go.Proofs
set_option maxRecDepth 8000

def tnC (C : RC) (id : W32) (k : KY) (st : Int) (now : W32) : RC := { C with by' := putK id { k with st := st, since := now } C.by' }
def goC (C : RC) (id : W32) : RC := { C with by' := delK id C.by', tr := delK id C.tr }
def tnV (C : RC) (id : W32) (st : Int) (now : W32) : Int × RC := match getK id C.by' with
  | none => (130, C)
  | some k => if st ≤ k.st ∨ 4 < st then (131, C) else if st = 4 then (0, goC C id) else (0, tnC C id k st now)
theorem tnV_n {C : RC} {id : W32} {st : Int} {now : W32} (h : getK id C.by' = none) : tnV C id st now = (130, C) := by rw [tnV, h]
theorem tnV_y {C : RC} {id : W32} {st : Int} {now : W32} {k : KY} (h : getK id C.by' = some k) : tnV C id st now = if st ≤ k.st ∨ 4 < st then (131, C) else if st = 4 then (0, goC C id) else (0, tnC C id k st now) := by rw [tnV, h]
theorem ROk.upd {C : RC} (h : ROk C) {id : W32} {k k' : KY} (hk : getK id C.by' = some k) (e1 : k'.id = k.id) (e2 : k'.h = k.h) (e3 : k'.next = k.next) (e4 : k'.seed = k.seed) : ROk { C with by' := putK id k' C.by' } := by
  obtain ⟨b1, b2, b3, b4⟩ := h.key _ _ hk
  refine ⟨fun i k2 hk2 => ?_, fun i t ht => ?_, put_nodup _ _ _ h.nb, h.nt⟩
  · simp only [getK_put] at hk2
    split at hk2
    · rename_i e
      obtain rfl := Option.some.inj hk2
      subst e
      exact ⟨e1.trans b1, by rw [e2]; exact b2, by rw [e2, e3]; exact b3, b4⟩
    · exact h.key _ _ hk2
  · obtain ⟨k2, a1, a2⟩ := h.tree _ _ ht
    by_cases e : i = id
    · subst e
      obtain rfl := Option.some.inj (hk.symm.trans a1)
      exact ⟨k', by simp only [getK_put, if_true], by rw [e2, e4]; exact a2⟩
    · exact ⟨k2, by simp only [getK_put]; rw [if_neg e]; exact a1, a2⟩
theorem ROk.goC {C : RC} (h : ROk C) (id : W32) : ROk (goC C id) := by
  refine ⟨fun i k2 hk2 => ?_, fun i t ht => ?_, del_nodup _ _ h.nb, del_nodup _ _ h.nt⟩
  · simp only [AX.goC] at hk2
    rw [getK_del _ _ _ h.nb] at hk2
    split at hk2
    · cases hk2
    · exact h.key _ _ hk2
  · simp only [AX.goC] at ht ⊢
    rw [getK_del _ _ _ h.nt] at ht
    split at ht
    · cases ht
    · rename_i e
      obtain ⟨k2, a1, a2⟩ := h.tree _ _ ht
      exact ⟨k2, by rw [getK_del _ _ _ h.nb, if_neg e]; exact a1, a2⟩
theorem ROk.tnV {C : RC} (h : ROk C) (id : W32) (st : Int) (now : W32) : ROk (tnV C id st now).2 := by
  rcases hk : getK id C.by' with _ | k
  · rw [tnV_n hk]; exact h
  · rw [tnV_y hk]
    split
    · exact h
    · split
      · exact h.goC id
      · exact h.upd hk rfl rfl rfl rfl
noncomputable def turnG20 : List AV → H → Nat → Option (AV × H × Nat)
  | [.op d 0, .w32 id, .i st, .w32 now], hp, nx => obind (rngOf hp d) fun t => some (.i (tnV t.C id st now).1, setR d t.s t.m (tnV t.C id st now).2 hp, nx + 90)
  | _, _, _ => none
theorem turnG20_eq (d : Nat) (id now : W32) (st : Int) (hp : H) (nx : Nat) : turnG20 [.op d 0, .w32 id, .i st, .w32 now] hp nx = obind (rngOf hp d) fun t => some (.i (tnV t.C id st now).1, setR d t.s t.m (tnV t.C id st now).2 hp, nx + 90) := (rfl)
attribute [go_sem] turnG20_eq
set_option maxHeartbeats 1000000 in
theorem turn20_ok : HeapOK Try.prog GLh 25 turnG20 := by
  refine heap_of_awp Try.func25 (bodyOf_some rfl) ?_
  intro args hp nx r hp' nx' hg
  unfold turnG20 at hg
  split at hg
  · rename_i d id st now
    replace hg := obind_inv hg; obtain ⟨⟨s, m, C⟩, hD0, hg⟩ := hg
    have hD := rngOf_inv hD0
    simp only [Option.some.injEq, Prod.mk.injEq] at hg hD; obtain ⟨rfl, rfl, rfl⟩ := hg
    refine ⟨Nat.le_of_ble_eq_true rfl, by omega, fun hnone => ?_⟩
    have h1 := hD.hd; have h2 := hD.hs; have h3 := hD.hm
    obtain ⟨n1, n2, n3, n4, n5, n6⟩ := hD.ne
    have hlt : ∀ k o, hp k = some o → k < nx := fun k o hk => lt_of_none2 hnone hk
    have hd := hlt _ _ h1
    have hs := hlt _ _ h2
    have hm := hlt _ _ h3
    refine awp_seqP rfl ?_
    refine awp_regP (Γ := noEnv) [0, 1, 2, 3] (noEnv_ok _ _) rfl rfl rfl (fun K hK => ?_)
    simp (disch := omega) only [Try.f25, go_sem, Nat.reduceAdd, ↓reduceIte]
    refine hK _ ?_
    clear hK K
    refine nx_then ?_
    rcases hk : getK id C.by' with _ | k
    · skip
      rw [tnV_n hk]
      refine awp_seqP rfl ?_
      refine awp_regP (Γ := noEnv) [0, 1, 2, 3, 9, 10] (noEnv_ok _ _) rfl rfl rfl (fun K hK => ?_)
      simp (disch := omega) only [Try.f25, go_sem, Nat.reduceAdd, Nat.reduceLeDiff, Nat.reduceLT, ↓reduceIte, h1, h2, hk, rgC_eq, List.head?_cons, List.drop_succ_cons, List.drop_zero]
      refine hK _ ?_
      clear hK K
      refine nx_then ?_
      refine awp_seqP rfl ?_
      refine awp_blockN 0 rfl rfl ?_
      refine awp_seqP rfl ?_
      refine awp_regP (Γ := noEnv) [20, 0, 1, 2, 3, 9] (noEnv_ok _ _) rfl rfl rfl (fun K hK => ?_)
      simp (disch := omega) only [Try.f25, go_sem, Nat.reduceAdd, ↓reduceIte]
      refine hK _ ?_
      clear hK K
      refine nx_then ?_
      refine awp_ifB (.tmp 20) rfl rfl rfl (fun h => ?_) (fun h => ?_)
      · skip
        refine awp_drop rfl ?_
        refine awp_seqP rfl ?_
        refine awp_regP (Γ := noEnv) [8] (noEnv_ok _ _) rfl rfl rfl (fun K hK => ?_)
        simp (disch := omega) only [Try.f25, go_sem, ↓reduceIte]
        refine hK _ ?_
        clear hK K
        refine nx_then ?_
        refine awp_retP rfl ?_
        refine nx_ret_blk (nx_ret_then ?_)
        rw [setR_same hD]
        exact ⟨rfl, fun j o h => hsub_new hnone (by omega) j o h, by simp only; omega⟩
      · skip
        refine awp_drop rfl ?_
        cases h
    · skip
      have ek := tnV_y (st := st) (now := now) hk
      refine awp_seqP rfl ?_
      refine awp_regP (Γ := noEnv) [0, 1, 2, 3, 9, 10] (noEnv_ok _ _) rfl rfl rfl (fun K hK => ?_)
      simp (disch := omega) only [Try.f25, go_sem, Nat.reduceAdd, Nat.reduceLeDiff, Nat.reduceLT, ↓reduceIte, h1, h2, hk, rgC_eq, encK_eq, List.head?_cons, List.drop_succ_cons, List.drop_zero]
      refine hK _ ?_
      clear hK K
      refine nx_then ?_
      refine awp_seqP rfl ?_
      refine awp_blockN 0 rfl rfl ?_
      refine awp_seqP rfl ?_
      refine awp_regP (Γ := noEnv) [20, 0, 1, 2, 3, 9] (noEnv_ok _ _) rfl rfl rfl (fun K hK => ?_)
      simp (disch := omega) only [Try.f25, go_sem, Nat.reduceAdd, ↓reduceIte]
      refine hK _ ?_
      clear hK K
      refine nx_then ?_
      refine awp_ifB (.tmp 20) rfl rfl rfl (fun h => ?_) (fun h => ?_)
      · skip
        refine awp_drop rfl ?_
        cases h
      · skip
        refine awp_drop rfl ?_
        clear h
        by_cases hb : st ≤ k.st
        · skip
          have db : decide (st ≤ k.st) = true := decide_eq_true hb
          rw [if_pos (.inl hb)] at ek
          rw [ek]
          refine awp_seqP rfl ?_
          refine awp_regP (Γ := noEnv) [23, 0, 1, 2, 3, 9] (noEnv_ok _ _) rfl rfl rfl (fun K hK => ?_)
          simp (disch := omega) only [Try.f25, go_sem, Nat.reduceAdd, Nat.reduceLT, ↓reduceIte, db, List.head?_cons, List.drop_succ_cons, List.drop_zero]
          refine hK _ ?_
          clear hK K
          refine nx_then ?_
          refine awp_ifB (.tmp 23) rfl rfl rfl (fun h => ?_) (fun h => ?_)
          · skip
            refine awp_drop rfl ?_
            refine awp_seqP rfl ?_
            refine awp_regP (Γ := noEnv) [8] (noEnv_ok _ _) rfl rfl rfl (fun K hK => ?_)
            simp (disch := omega) only [Try.f25, go_sem, ↓reduceIte]
            refine hK _ ?_
            clear hK K
            refine nx_then ?_
            refine awp_retP rfl ?_
            refine nx_ret_blk (nx_ret_then ?_)
            rw [setR_same hD]
            exact ⟨rfl, fun j o h => hsub_new hnone (by omega) j o h, by simp only; omega⟩
          · skip
            refine awp_drop rfl ?_
            cases h
        · skip
          have db : decide (st ≤ k.st) = false := decide_eq_false hb
          refine awp_seqP rfl ?_
          refine awp_regP (Γ := noEnv) [23, 0, 1, 2, 3, 9] (noEnv_ok _ _) rfl rfl rfl (fun K hK => ?_)
          simp (disch := omega) only [Try.f25, go_sem, Nat.reduceAdd, Nat.reduceLT, reduceCtorEq, ↓reduceIte, db, List.head?_cons, List.drop_succ_cons, List.drop_zero]
          refine hK _ ?_
          clear hK K
          refine nx_then ?_
          refine awp_ifD (.tmp 23) rfl rfl rfl (fun h => ?_) (fun h => ?_)
          · skip
            refine awp_drop rfl ?_
            rw [if_pos (.inr h)] at ek
            rw [ek]
            refine awp_seqP rfl ?_
            refine awp_regP (Γ := noEnv) [8] (noEnv_ok _ _) rfl rfl rfl (fun K hK => ?_)
            simp (disch := omega) only [Try.f25, go_sem, ↓reduceIte]
            refine hK _ ?_
            clear hK K
            refine nx_then ?_
            refine awp_retP rfl ?_
            refine nx_ret_blk (nx_ret_then ?_)
            rw [setR_same hD]
            exact ⟨rfl, fun j o h => hsub_new hnone (by omega) j o h, by simp only; omega⟩
          · skip
            refine awp_drop rfl ?_
            rw [if_neg (fun e => e.elim hb h)] at ek
            clear h
            refine awp_seqP rfl ?_
            refine awp_regP (Γ := noEnv) [32, 0, 1, 2, 3, 9] (noEnv_ok _ _) rfl rfl rfl (fun K hK => ?_)
            simp (disch := omega) only [Try.f25, go_sem, Nat.reduceAdd, ↓reduceIte]
            refine hK _ ?_
            clear hK K
            refine nx_then ?_
            refine awp_ifD (.tmp 32) rfl rfl rfl (fun h => ?_) (fun h => ?_)
            · skip
              refine awp_drop rfl ?_
              rw [if_pos h] at ek
              rw [ek]
              refine awp_seqP rfl ?_
              refine awp_regP (Γ := noEnv) [0, 1] (noEnv_ok _ _) rfl rfl rfl (fun K hK => ?_)
              simp (disch := omega) only [Try.f25, go_sem, Nat.reduceAdd, Nat.reduceLT, ↓reduceIte, h1, h2, rgC_eq, List.head?_cons, List.drop_succ_cons, List.drop_zero]
              refine hK _ ?_
              clear hK K
              refine nx_then ?_
              refine awp_seqP rfl ?_
              refine awp_regP (Γ := noEnv) [] (noEnv_ok _ _) rfl rfl rfl (fun K hK => ?_)
              simp (disch := omega) only [Try.f25, go_sem, Nat.reduceAdd, Nat.reduceLT, ↓reduceIte, h1, h3, rgC_eq, List.head?_cons, List.drop_succ_cons, List.drop_zero]
              refine hK _ ?_
              clear hK K
              refine nx_then ?_
              refine awp_seqP rfl ?_
              refine awp_regP (Γ := noEnv) [8] (noEnv_ok _ _) rfl rfl rfl (fun K hK => ?_)
              simp (disch := omega) only [Try.f25, go_sem, ↓reduceIte]
              refine hK _ ?_
              clear hK K
              refine nx_then ?_
              refine awp_retP rfl ?_
              refine nx_ret_blk (nx_ret_then ?_)
              refine ⟨rfl, fun j o hj => setR_sub (C := goC C id) ?_ ?_ ?_ ?_ j o hj, by simp only; omega⟩
              · simp (disch := omega) only [up_app, nat_ne, ↓reduceIte] <;> first | exact h1 | rfl
              · simp (disch := omega) only [up_app, nat_ne, ↓reduceIte, eq_self] <;> first | exact h2 | rfl
              · simp (disch := omega) only [up_app, ↓reduceIte, eq_self] <;> first | exact h3 | rfl
              · intro k o k1 k2 k3 hk
                have := hlt k o hk
                simp (disch := omega) only [up_app, nat_ne, ↓reduceIte]
                exact hk
            · skip
              refine awp_drop rfl ?_
              rw [if_neg h] at ek
              rw [ek]
              refine awp_skipP rfl ?_
              refine nx_blk (nx_then ?_)
              refine awp_seqP rfl ?_
              refine awp_regP (Γ := noEnv) [0, 1, 9] (noEnv_ok _ _) rfl rfl rfl (fun K hK => ?_)
              simp (disch := omega) only [Try.f25, go_sem, Nat.reduceAdd, Nat.reduceLeDiff, Nat.reduceLT, ↓reduceIte, List.set_cons_succ, List.set_cons_zero]
              refine hK _ ?_
              clear hK K
              refine nx_then ?_
              refine awp_seqP rfl ?_
              refine awp_drwP (Γ := noEnv) (fun _ => 2) [] mixed (noEnv_ok _ _) rfl rfl rfl (by kernel_rfl) (fun K hK => ?_)
              simp (disch := omega) only [Try.f25, go_sem, Nat.reduceAdd, Nat.reduceLeDiff, Nat.reduceLT, ↓reduceIte, h1, h2, rgC_eq, List.head?_cons, List.take_succ_cons, List.take_zero, List.drop_succ_cons, List.drop_zero]
              refine hK _ ?_
              clear hK K
              refine nx_then ?_
              refine awp_seqP rfl ?_
              refine awp_regP (Γ := noEnv) [8] (noEnv_ok _ _) rfl rfl rfl (fun K hK => ?_)
              simp (disch := omega) only [Try.f25, go_sem, ↓reduceIte]
              refine hK _ ?_
              clear hK K
              refine nx_then ?_
              refine awp_retP rfl ?_
              refine ⟨rfl, fun j o hj => setR_sub (C := tnC C id k st now) ?_ ?_ ?_ ?_ j o hj, by simp only; omega⟩
              · simp (disch := omega) only [up_app, nat_ne, ↓reduceIte] <;> first | exact h1 | rfl
              · simp (disch := omega) only [up_app, ↓reduceIte, eq_self] <;> first | exact h2 | rfl
              · simp (disch := omega) only [up_app, nat_ne, ↓reduceIte] <;> first | exact h3 | rfl
              · intro k o k1 k2 k3 hk
                have := hlt k o hk
                simp (disch := omega) only [up_app, nat_ne, ↓reduceIte]
                exact hk
  · cases hg
theorem okd16 : EntOK Try.prog GLh 25 (.heap turnG20) := ⟨⟨_, Try.func25, rfl, rfl⟩, turn20_ok⟩

def kyR : Option KY → AV
  | none => .tup [encK ky0, .b false]
  | some k => .tup [encK k, .b true]
noncomputable def keyG20 : List AV → H → Nat → Option (AV × H × Nat)
  | [.op d 0, .w32 id], hp, nx => obind (rngOf hp d) fun t => some (kyR (getK id t.C.by'), hp, nx + 60)
  | _, _, _ => none
theorem keyG20_eq (d : Nat) (id : W32) (hp : H) (nx : Nat) : keyG20 [.op d 0, .w32 id] hp nx = obind (rngOf hp d) fun t => some (kyR (getK id t.C.by'), hp, nx + 60) := (rfl)
theorem kyR_n : kyR none = .tup [encK ky0, .b false] := rfl
theorem kyR_y (k : KY) : kyR (some k) = .tup [encK k, .b true] := rfl
attribute [go_sem] keyG20_eq
set_option maxHeartbeats 1000000 in
theorem key20_ok : HeapOK Try.prog GLh 13 keyG20 := by
  refine heap_of_awp Try.func13 (bodyOf_some rfl) ?_
  intro args hp nx r hp' nx' hg
  unfold keyG20 at hg
  split at hg
  · rename_i d id
    replace hg := obind_inv hg; obtain ⟨⟨s, m, C⟩, hD0, hg⟩ := hg
    have hD := rngOf_inv hD0
    simp only [Option.some.injEq, Prod.mk.injEq] at hg hD; obtain ⟨rfl, rfl, rfl⟩ := hg
    refine ⟨Nat.le_of_ble_eq_true rfl, by omega, fun hnone => ?_⟩
    have h1 := hD.hd; have h2 := hD.hs; have h3 := hD.hm
    obtain ⟨n1, n2, n3, n4, n5, n6⟩ := hD.ne
    have hlt : ∀ k o, hp k = some o → k < nx := fun k o hk => lt_of_none2 hnone hk
    have hd := hlt _ _ h1
    have hs := hlt _ _ h2
    have hm := hlt _ _ h3
    refine awp_seqP rfl ?_
    refine awp_regP (Γ := noEnv) [0, 1, 4] (noEnv_ok _ _) rfl rfl rfl (fun K hK => ?_)
    simp (disch := omega) only [Try.f13, go_sem, Nat.reduceAdd, ↓reduceIte]
    refine hK _ ?_
    clear hK K
    refine nx_then ?_
    rcases hk : getK id C.by' with _ | k
    · skip
      refine awp_seqP rfl ?_
      refine awp_regP (Γ := noEnv) [4, 6, 7] (noEnv_ok _ _) rfl rfl rfl (fun K hK => ?_)
      simp (disch := omega) only [Try.f13, go_sem, Nat.reduceAdd, Nat.reduceLeDiff, Nat.reduceLT, ↓reduceIte, h1, h2, hk, rgC_eq, List.head?_cons, List.drop_succ_cons, List.drop_zero]
      refine hK _ ?_
      clear hK K
      refine nx_then ?_
      refine awp_seqP rfl ?_
      refine awp_regP (Γ := noEnv) [4, 5] (noEnv_ok _ _) rfl rfl rfl (fun K hK => ?_)
      simp (disch := omega) only [Try.f13, go_sem, Nat.reduceAdd, Nat.reduceLeDiff, ↓reduceIte, List.take_succ_cons, List.take_zero, List.drop_zero]
      refine hK _ ?_
      clear hK K
      refine nx_then ?_
      refine awp_retP rfl ?_
      refine ⟨by simp (disch := omega) only [resA, resAL, resA1, Try.f13, go_sem, up_app, ldV, encK_eq, List.take_succ_cons, List.take_zero, List.drop_zero, kyR_n] <;> rfl, fun j o h => ?_, by simp only; omega⟩
      have := hlt j o h
      simp (disch := omega) only [up_app, nat_ne, ↓reduceIte]
      exact h
    · skip
      refine awp_seqP rfl ?_
      refine awp_regP (Γ := noEnv) [4, 6, 7] (noEnv_ok _ _) rfl rfl rfl (fun K hK => ?_)
      simp (disch := omega) only [Try.f13, go_sem, Nat.reduceAdd, Nat.reduceLeDiff, Nat.reduceLT, ↓reduceIte, h1, h2, hk, rgC_eq, encK_eq, List.head?_cons, List.drop_succ_cons, List.drop_zero]
      refine hK _ ?_
      clear hK K
      refine nx_then ?_
      refine awp_seqP rfl ?_
      refine awp_regP (Γ := noEnv) [4, 5] (noEnv_ok _ _) rfl rfl rfl (fun K hK => ?_)
      simp (disch := omega) only [Try.f13, go_sem, Nat.reduceAdd, Nat.reduceLeDiff, ↓reduceIte, List.take_succ_cons, List.take_zero, List.drop_zero]
      refine hK _ ?_
      clear hK K
      refine nx_then ?_
      refine awp_retP rfl ?_
      refine ⟨by simp (disch := omega) only [resA, resAL, resA1, Try.f13, go_sem, up_app, ldV, encK_eq, List.take_succ_cons, List.take_zero, List.drop_zero, kyR_y] <;> rfl, fun j o h => ?_, by simp only; omega⟩
      have := hlt j o h
      simp (disch := omega) only [up_app, nat_ne, ↓reduceIte]
      exact h
  · cases hg
theorem okd17 : EntOK Try.prog GLh 13 (.heap keyG20) := ⟨⟨_, Try.func13, rfl, rfl⟩, key20_ok⟩
end Go.AX
