/-
  Hash, part A: what the sums are, in plain Lean; turning and mixing as the program does it. Hash, part B: mixing a block in, as the program does it. Hash, part C: mixing a block in: the words behind the first sixteen, the rounds, the sums. Hash, part D: mixing a block in, whole. Hash, part E: the sum, as the program does it. Hash, part F: the sum, whole. Hash, part G: the reference's small functions: turning, the table, padding. Hash, part H: the reference's table.
-/
import Derived.Test.YtkpgebeipmedeaaDoorBE
namespace Go.AX
open Go Go.Proofs

def KT : List W32 := [
  0x428a2f98#32, 0x71374491#32, 0xb5c0fbcf#32, 0xe9b5dba5#32, 0x3956c25b#32, 0x59f111f1#32, 0x923f82a4#32, 0xab1c5ed5#32,
  0xd807aa98#32, 0x12835b01#32, 0x243185be#32, 0x550c7dc3#32, 0x72be5d74#32, 0x80deb1fe#32, 0x9bdc06a7#32, 0xc19bf174#32,
  0xe49b69c1#32, 0xefbe4786#32, 0x0fc19dc6#32, 0x240ca1cc#32, 0x2de92c6f#32, 0x4a7484aa#32, 0x5cb0a9dc#32, 0x76f988da#32,
  0x983e5152#32, 0xa831c66d#32, 0xb00327c8#32, 0xbf597fc7#32, 0xc6e00bf3#32, 0xd5a79147#32, 0x06ca6351#32, 0x14292967#32,
  0x27b70a85#32, 0x2e1b2138#32, 0x4d2c6dfc#32, 0x53380d13#32, 0x650a7354#32, 0x766a0abb#32, 0x81c2c92e#32, 0x92722c85#32,
  0xa2bfe8a1#32, 0xa81a664b#32, 0xc24b8b70#32, 0xc76c51a3#32, 0xd192e819#32, 0xd6990624#32, 0xf40e3585#32, 0x106aa070#32,
  0x19a4c116#32, 0x1e376c08#32, 0x2748774c#32, 0x34b0bcb5#32, 0x391c0cb3#32, 0x4ed8aa4a#32, 0x5b9cca4f#32, 0x682e6ff3#32,
  0x748f82ee#32, 0x78a5636f#32, 0x84c87814#32, 0x8cc70208#32, 0x90befffa#32, 0xa4506ceb#32, 0xbef9a3f7#32, 0xc67178f2#32]
theorem KT_len : KT.length = 64 := (rfl)
theorem KT_take : (c32 KT).take 64 = c32 KT := (rfl)
def GLh : Nat → Option (List AV) := fun g => if g = 0 then some (c32 KT) else none
theorem evg0 (fr : List (Nat × AV)) : ev GLh fr (.global 0) = .rp (c32 KT) := (rfl)

def ro (x : W32) (k : Nat) : W32 := x <<< (32 - k) ||| x >>> k
def nextw (w : List W32) (i : Nat) : W32 :=
  w.getD (i - 16) 0#32 + w.getD (i - 7) 0#32 + (ro (w.getD (i - 15) 0#32) 7 ^^^ ro (w.getD (i - 15) 0#32) 18 ^^^ w.getD (i - 15) 0#32 >>> 3) + (ro (w.getD (i - 2) 0#32) 17 ^^^ ro (w.getD (i - 2) 0#32) 19 ^^^ w.getD (i - 2) 0#32 >>> 10)
def w64 (b : List B8) : Nat → List W32
  | 0 => w16 b 16
  | i + 1 => (w64 b i).set (16 + i) (nextw (w64 b i) (16 + i))
structure V8 where
  a : W32
  c : W32
  d : W32
  e : W32
  f : W32
  g : W32
  h : W32
  i : W32
def one (v : V8) (x w : W32) : W32 := v.i + (ro v.f 6 ^^^ ro v.f 11 ^^^ ro v.f 25) + (v.f &&& v.g ^^^ ~~~v.f &&& v.h) + x + w
def two (v : V8) : W32 := (ro v.a 2 ^^^ ro v.a 13 ^^^ ro v.a 22) + (v.a &&& v.c ^^^ v.a &&& v.d ^^^ v.c &&& v.d)
def rnd (v : V8) (x w : W32) : V8 := ⟨one v x w + two v, v.a, v.c, v.d, v.e + one v x w, v.f, v.g, v.h⟩
def rnds (w : List W32) (v : V8) : Nat → V8
  | 0 => v
  | k + 1 => rnd (rnds w v k) (KT.getD k 0#32) (w.getD k 0#32)
def v8 (s : List W32) : V8 := ⟨s.getD 0 0#32, s.getD 1 0#32, s.getD 2 0#32, s.getD 3 0#32, s.getD 4 0#32, s.getD 5 0#32, s.getD 6 0#32, s.getD 7 0#32⟩
def l8 (v : V8) : List W32 := [v.a, v.c, v.d, v.e, v.f, v.g, v.h, v.i]
def add8 (s x : List W32) : Nat → List W32
  | 0 => s
  | k + 1 => (add8 s x k).set k ((add8 s x k).getD k 0#32 + x.getD k 0#32)
/-- A block mixed in. -/
def comp (s : List W32) (b : List B8) : List W32 := add8 s (l8 (rnds (w64 b 48) (v8 s) 64)) 8

theorem w16_len (b : List B8) (i : Nat) : (w16 b i).length = 64 := by
  induction i with
  | zero => rfl
  | succ i ih => simp only [w16, List.length_set, ih]
theorem w64_len (b : List B8) (i : Nat) : (w64 b i).length = 64 := by
  induction i with
  | zero => exact w16_len b 16
  | succ i ih => simp only [w64, List.length_set, ih]
theorem add8_len (s x : List W32) (i : Nat) : (add8 s x i).length = s.length := by
  induction i with
  | zero => rfl
  | succ i ih => simp only [add8, List.length_set, ih]
theorem comp_len (s : List W32) (b : List B8) : (comp s b).length = s.length := add8_len _ _ _

def rotG : List AV → Option AV
  | [.w32 x, .i k] => some (.w32 (x <<< (BitVec.ofInt 64 k &&& 31#64).toNat ||| x >>> (32#64 - (BitVec.ofInt 64 k &&& 31#64)).toNat))
  | _ => none
theorem rotG_eq (x : W32) (k : Int) : rotG [.w32 x, .i k] = some (.w32 (x <<< (BitVec.ofInt 64 k &&& 31#64).toNat ||| x >>> (32#64 - (BitVec.ofInt 64 k &&& 31#64)).toNat)) := (rfl)

theorem rot_ok (GL : Nat → Option (List AV)) : PureOK Tryd.prog GL 98 rotG := by
  refine pure_of_awp Tryd.func98 (bodyOf_some rfl) ?_
  intro args r hg
  unfold rotG at hg
  split at hg
  · rename_i x k
    obtain rfl := Option.some.inj hg
    refine ⟨Nat.le_of_ble_eq_true rfl, fun nx => ?_⟩
    refine awp_seqP rfl ?_
    refine awp_regP (Γ := noEnv) [0, 1] (noEnv_ok _ _) rfl rfl rfl (fun K hK => ?_)
    simp (failIfUnchanged := false) (disch := omega) only [Tryd.f98, go_sem, Int.reduceLE, Int.reduceLT, BitVec.reduceOfInt, ↓reduceIte]
    refine hK _ ?_
    repeat (first | with_reducible refine nx_then ?_ | with_reducible refine nx_blk ?_ | with_reducible refine nx_loop ?_ | with_reducible refine nx_ex_then ?_ | with_reducible refine nx_ex_loop ?_ | with_reducible refine nx_ex_blk ?_ | with_reducible refine nx_ret_then ?_ | with_reducible refine nx_ret_blk ?_ | with_reducible refine nx_ret_loop ?_)
    refine awp_seqP rfl ?_
    refine awp_regP (Γ := noEnv) [0, 5] (noEnv_ok _ _) rfl rfl rfl (fun K hK => ?_)
    simp (failIfUnchanged := false) (disch := omega) only [Tryd.f98, go_sem, Nat.reduceAdd, Int.reduceLE, Int.reduceLT, BitVec.reduceOfInt, ↓reduceIte]
    refine hK _ ?_
    repeat (first | with_reducible refine nx_then ?_ | with_reducible refine nx_blk ?_ | with_reducible refine nx_loop ?_ | with_reducible refine nx_ex_then ?_ | with_reducible refine nx_ex_loop ?_ | with_reducible refine nx_ex_blk ?_ | with_reducible refine nx_ret_then ?_ | with_reducible refine nx_ret_blk ?_ | with_reducible refine nx_ret_loop ?_)
    refine awp_seqP rfl ?_
    refine awp_regP (Γ := noEnv) [4] (noEnv_ok _ _) rfl rfl rfl (fun K hK => ?_)
    simp (failIfUnchanged := false) (disch := omega) only [Tryd.f98, go_sem, Nat.reduceAdd, Int.reduceLE, Int.reduceLT, BitVec.reduceOfInt, ↓reduceIte]
    refine hK _ ?_
    repeat (first | with_reducible refine nx_then ?_ | with_reducible refine nx_blk ?_ | with_reducible refine nx_loop ?_ | with_reducible refine nx_ex_then ?_ | with_reducible refine nx_ex_loop ?_ | with_reducible refine nx_ex_blk ?_ | with_reducible refine nx_ret_then ?_ | with_reducible refine nx_ret_blk ?_ | with_reducible refine nx_ret_loop ?_)
    refine awp_retP rfl ?_
    simp (failIfUnchanged := false) only [pureQ, resA, resAL, resA1, Tryd.f98, go_sem, ↓reduceIte, immF]
  · cases hg
end Go.AX

namespace Go.AX
open Go Go.Proofs

def un32 : List AV → Option (List W32)
  | [] => some []
  | .w32 x :: r => obind (un32 r) fun l => some (x :: l)
  | _ :: _ => none
theorem un32_c32 (l : List W32) : un32 (c32 l) = some l := by
  induction l with
  | nil => rfl
  | cons x r ih => show obind (un32 (c32 r)) _ = _; rw [ih]; rfl
theorem un32_inv : ∀ (xs : List AV) {l : List W32}, un32 xs = some l → xs = c32 l
  | [], l, h => by obtain rfl := Option.some.inj h; rfl
  | x :: r, l, h => by
    cases x with
    | w32 y =>
      simp (failIfUnchanged := false) only [un32] at h
      replace h := obind_inv h; obtain ⟨m, hm, h⟩ := h
      obtain rfl := Option.some.inj h
      rw [un32_inv r hm]; rfl
    | _ => cases h

/-- The bytes that a slice of bytes shows. -/
def bytesOf (hp : H) : AV → Option (List B8)
  | .sl n xs => guardO (xs.length = n) (un8 xs)
  | .os id off n e _ => obind (hp id) fun o => match o with
    | .cells xs _ => guardO (e = 1 ∧ off + n ≤ xs.length) (un8 ((xs.drop off).take n))
    | .mapo _ _ => none
  | _ => none

theorem bigK_ex : ∃ n : Nat, 20000 ≤ n := ⟨20000, Nat.le_refl _⟩
/-- A great number, whose value nobody can compute (so that no checker counts down from it). -/
noncomputable def bigK : Nat := Classical.choose bigK_ex
theorem bigK_ge : 20000 ≤ bigK := Classical.choose_spec bigK_ex
noncomputable def cxR (c : Nat) : Nat → Nat
  | 0 => c
  | j + 1 => cxR c j + bigK + 100
theorem cxR_le (c j : Nat) : c ≤ cxR c j := by
  induction j with
  | zero => exact Nat.le_refl _
  | succ j ih => simp only [cxR]; omega

def notId (id : Nat) : AV → Bool
  | .os j _ _ _ _ => j != id
  | _ => true

noncomputable def mixG : List AV → H → Nat → Option (AV × H × Nat)
  | [.op id 0, y], hp, nx => obind (bytesOf hp y) fun bl => obind (hp id) fun o => match o with
    | .cells xs mt => obind (un32 xs) fun s => guardO (mt = true ∧ s.length = 8 ∧ bl.length = 64 ∧ notId id y = true ∧ id < nx)
        (some (.tup [], upd hp id (.cells (c32 (comp s bl)) true), nx + bigK))
    | .mapo _ _ => none
  | _, _, _ => none

theorem bytesOf_inv {hp : H} {y : AV} {bl : List B8} {m : Nat} (h : bytesOf hp y = some bl) (hl : bl.length = m) :
    y = .sl m (c8 bl) ∨ ∃ id off g ys mt, y = .os id off m 1 g ∧ hp id = some (.cells ys mt) ∧ ∀ k, k < m → (ys.drop (off + k)).head? = some (.w8 (bl.getD k 0#8)) := by
  unfold bytesOf at h
  split at h
  · replace h := guardO_inv h; obtain ⟨hn, h⟩ := h
    have := un8_inv _ h; subst this
    rw [c8_len] at hn
    exact .inl (by rw [← hn, hl])
  · rename_i id off n e g
    replace h := obind_inv h; obtain ⟨o, ho, h⟩ := h
    obtain ⟨xs, mt, rfl⟩ : ∃ xs mt, o = .cells xs mt := by cases o with | cells xs mt => exact ⟨xs, mt, rfl⟩ | mapo _ _ => cases h
    simp only at h
    replace h := guardO_inv h; obtain ⟨⟨rfl, hle⟩, h⟩ := h
    have hx := un8_inv _ h
    have hln : n = m := by
      have := congrArg List.length hx
      rw [c8_len, List.length_take, List.length_drop] at this
      omega
    subst hln
    refine .inr ⟨id, off, g, xs, mt, rfl, ho, fun k hk => ?_⟩
    have := c8_head bl k (by omega)
    rw [← hx, List.drop_take, List.drop_drop, List.head?_take, if_neg (by omega)] at this
    exact this
  · cases h

theorem envR_ok : EnvOK Tryd.prog GLh (envL [(98, .pure true rotG)]) := by
  intro f s h
  simp (failIfUnchanged := false) only [envL] at h
  split at h
  · rename_i e; subst e
    obtain rfl := Option.some.inj h
    exact ⟨⟨_, Tryd.func98, rfl, rfl⟩, rot_ok _⟩
  · cases h




set_option maxHeartbeats 4000000 in
theorem mix_l1 {hp : H} {nx id c0 : Nat} {y : AV} {bl : List B8} {Q : Exit → S → Prop} (hbl : bytesOf hp y = some bl) (hbll : bl.length = 64) (hnone : ∀ id, nx ≤ id → hp id = none) (_ : id < nx) (hc : c0 ≤ nx + 100)
    (hQ : ∀ n z, Q .normal { fr := [(0, .op id 0), (1, y), (4, .op nx 0), (23, .i ((16 : Nat) : Int)), (24, z)], hp := upd hp nx (.cells (c32 (w16 bl 16)) true), nx := n, cx := nx + 100 + 100 * 16 + 1 }) :
    ∀ n0, Awp Tryd.prog GLh Tryd.f90.ntmps (cr (cl (cr (bodyOf Tryd.f90)))) { fr := [(0, .op id 0), (1, y), (4, .op nx 0), (23, .i 0)], hp := upd hp nx (.cells (c32 (w16 bl 0)) true), nx := n0, cx := c0 } Q := by
  intro n0
  refine awp_blockN 0 rfl rfl ?_
  refine awp_loopP (fun i : Nat => { fr := [(0, .op id 0), (1, y), (4, .op nx 0), (23, .i i)], hp := upd hp nx (.cells (c32 (w16 bl i)) true), nx := 0, cx := nx + 100 + 100 * i }) (fun i => i ≤ 16) (fun i => 16 - i) rfl ⟨0, by omega, sub_same rfl rfl hc⟩ ?_
  intro i hi n
  have hl : (w16 bl i).length = 64 := w16_len bl i
  refine awp_seqP rfl ?_
  refine awp_regP (Γ := noEnv) [0, 1, 4, 23, 24] (noEnv_ok _ _) rfl rfl rfl (fun K hK => ?_)
  simp (failIfUnchanged := false) (disch := omega) only [Tryd.f90, go_sem, ↓reduceIte]
  refine hK _ ?_
  repeat (first | with_reducible refine nx_then ?_ | with_reducible refine nx_blk ?_ | with_reducible refine nx_loop ?_ | with_reducible refine nx_ex_then ?_ | with_reducible refine nx_ex_loop ?_ | with_reducible refine nx_ex_blk ?_ | with_reducible refine nx_ret_then ?_ | with_reducible refine nx_ret_blk ?_ | with_reducible refine nx_ret_loop ?_)
  refine awp_seqP rfl ?_
  refine awp_ifN ((i : Int) < 16) (.tmp 24) rfl rfl rfl (fun h => ?_) (fun h => ?_)
  · refine awp_skipP rfl ?_
    repeat (first | with_reducible refine nx_then ?_ | with_reducible refine nx_blk ?_ | with_reducible refine nx_loop ?_ | with_reducible refine nx_ex_then ?_ | with_reducible refine nx_ex_loop ?_ | with_reducible refine nx_ex_blk ?_ | with_reducible refine nx_ret_then ?_ | with_reducible refine nx_ret_blk ?_ | with_reducible refine nx_ret_loop ?_)
    refine awp_seqP rfl ?_
    refine awp_blockN 1 rfl rfl ?_
    refine awp_seqP rfl ?_
    refine awp_regP (Γ := noEnv) [0, 1, 4, 5, 23] (noEnv_ok _ _) rfl rfl rfl (fun K hK => ?_)
    simp (failIfUnchanged := false) (disch := omega) only [Tryd.f90, go_sem, Nat.reduceAdd, ↓reduceIte]
    refine hK _ ?_
    repeat (first | with_reducible refine nx_then ?_ | with_reducible refine nx_blk ?_ | with_reducible refine nx_loop ?_ | with_reducible refine nx_ex_then ?_ | with_reducible refine nx_ex_loop ?_ | with_reducible refine nx_ex_blk ?_ | with_reducible refine nx_ret_then ?_ | with_reducible refine nx_ret_blk ?_ | with_reducible refine nx_ret_loop ?_)
    have e0 : ((4 * (i : Int))).toNat = 4 * i := by omega
    have e1 : ((4 * (i : Int) + 1)).toNat = 4 * i + 1 := by omega
    have e2 : ((4 * (i : Int) + 2)).toNat = 4 * i + 2 := by omega
    have e3 : ((4 * (i : Int) + 3)).toNat = 4 * i + 3 := by omega
    rcases bytesOf_inv hbl hbll with hy | ⟨id2, off, g, ys, mt, hy, ho2, hys⟩
    · subst hy
      refine awp_drwP (Γ := noEnv) (fun _ => 2) [0, 1, 4, 23] mixed (noEnv_ok _ _) rfl rfl rfl (by kernel_rfl) (fun K hK => ?_)
      simp (failIfUnchanged := false) (disch := omega) only [Tryd.f90, go_sem, Nat.reduceAdd, Nat.reduceLeDiff, Int.reduceLE, Int.reduceLT, BitVec.reduceOfInt, BitVec.reduceToNat, ↓reduceIte, W_eq, e0, e1, e2, e3, c32_set, c32_len, hl, Int.toNat_natCast]
      refine hK _ ?_
      repeat (first | with_reducible refine nx_then ?_ | with_reducible refine nx_blk ?_ | with_reducible refine nx_loop ?_ | with_reducible refine nx_ex_then ?_ | with_reducible refine nx_ex_loop ?_ | with_reducible refine nx_ex_blk ?_ | with_reducible refine nx_ret_then ?_ | with_reducible refine nx_ret_blk ?_ | with_reducible refine nx_ret_loop ?_)
      refine awp_regP (Γ := noEnv) [0, 1, 4, 23] (noEnv_ok _ _) rfl rfl rfl (fun K hK => ?_)
      simp (failIfUnchanged := false) (disch := omega) only [Tryd.f90, go_sem, Nat.reduceAdd, ↓reduceIte, W_eq]
      refine hK _ ?_
      repeat (first | with_reducible refine nx_then ?_ | with_reducible refine nx_blk ?_ | with_reducible refine nx_loop ?_ | with_reducible refine nx_ex_then ?_ | with_reducible refine nx_ex_loop ?_ | with_reducible refine nx_ex_blk ?_ | with_reducible refine nx_ret_then ?_ | with_reducible refine nx_ret_blk ?_ | with_reducible refine nx_ret_loop ?_)
      exact ⟨i + 1, by omega, by omega, sub_same (by simp only [Int.natCast_add, Int.natCast_one]) (by simp only [w16, word]) (by simp only; omega)⟩
    · subst hy
      have hlt2 : id2 < nx := by
        rcases Nat.lt_or_ge id2 nx with h | h
        · exact h
        · rw [hnone id2 h] at ho2; cases ho2
      have hne2 : (id2 = nx) = False := eq_false (by omega)
      refine awp_drwP (Γ := noEnv) (fun _ => 2) [0, 1, 4, 23] mixed (noEnv_ok _ _) rfl rfl rfl (by kernel_rfl) (fun K hK => ?_)
      simp (failIfUnchanged := false) (disch := omega) only [Tryd.f90, go_sem, Nat.reduceAdd, Nat.reduceLeDiff, Int.reduceLE, Int.reduceLT, BitVec.reduceOfInt, BitVec.reduceToNat, ↓reduceIte, W_eq, e0, e1, e2, e3, hys, hne2, ho2, c32_set, c32_len, hl, Int.toNat_natCast]
      refine hK _ ?_
      repeat (first | with_reducible refine nx_then ?_ | with_reducible refine nx_blk ?_ | with_reducible refine nx_loop ?_ | with_reducible refine nx_ex_then ?_ | with_reducible refine nx_ex_loop ?_ | with_reducible refine nx_ex_blk ?_ | with_reducible refine nx_ret_then ?_ | with_reducible refine nx_ret_blk ?_ | with_reducible refine nx_ret_loop ?_)
      refine awp_regP (Γ := noEnv) [0, 1, 4, 23] (noEnv_ok _ _) rfl rfl rfl (fun K hK => ?_)
      simp (failIfUnchanged := false) (disch := omega) only [Tryd.f90, go_sem, Nat.reduceAdd, ↓reduceIte, W_eq]
      refine hK _ ?_
      repeat (first | with_reducible refine nx_then ?_ | with_reducible refine nx_blk ?_ | with_reducible refine nx_loop ?_ | with_reducible refine nx_ex_then ?_ | with_reducible refine nx_ex_loop ?_ | with_reducible refine nx_ex_blk ?_ | with_reducible refine nx_ret_then ?_ | with_reducible refine nx_ret_blk ?_ | with_reducible refine nx_ret_loop ?_)
      exact ⟨i + 1, by omega, by omega, sub_same (by simp only [Int.natCast_add, Int.natCast_one]) (by simp only [w16, word]) (by simp only; omega)⟩
  · refine awp_exitN 0 rfl rfl ?_
    repeat (first | with_reducible refine nx_then ?_ | with_reducible refine nx_blk ?_ | with_reducible refine nx_loop ?_ | with_reducible refine nx_ex_then ?_ | with_reducible refine nx_ex_loop ?_ | with_reducible refine nx_ex_blk ?_ | with_reducible refine nx_ret_then ?_ | with_reducible refine nx_ret_blk ?_ | with_reducible refine nx_ret_loop ?_)
    obtain rfl : i = 16 := by omega
    exact hQ _ _
end Go.AX

namespace Go.AX
open Go Go.Proofs

set_option maxHeartbeats 4000000 in
theorem mix_l2 {hp : H} {nx id c0 : Nat} {bl : List B8} {Q : Exit → S → Prop} (hc : c0 ≤ nx + 2000)
    (hQ : ∀ n z, Q .normal { fr := [(0, .op id 0), (4, .op nx 0), (6, .i ((16 + 48 : Nat) : Int)), (63, z)], hp := upd hp nx (.cells (c32 (w64 bl 48)) true), nx := n, cx := nx + 2000 + 100 * 48 + 2 }) :
    ∀ n0, Awp Tryd.prog GLh Tryd.f90.ntmps (cr (cl (cr (cr (bodyOf Tryd.f90))))) { fr := [(0, .op id 0), (4, .op nx 0), (6, .i 16)], hp := upd hp nx (.cells (c32 (w16 bl 16)) true), nx := n0, cx := c0 } Q := by
  intro n0
  refine awp_blockN 2 rfl rfl ?_
  refine awp_loopP (fun j : Nat => { fr := [(0, .op id 0), (4, .op nx 0), (6, .i ((16 + j : Nat) : Int))], hp := upd hp nx (.cells (c32 (w64 bl j)) true), nx := 0, cx := nx + 2000 + 100 * j }) (fun j => j ≤ 48) (fun j => 48 - j) rfl ⟨0, by omega, sub_same rfl rfl hc⟩ ?_
  intro j hj n
  have hl : (w64 bl j).length = 64 := w64_len bl j
  refine awp_seqP rfl ?_
  refine awp_seqP rfl ?_
  refine awp_regP (Γ := noEnv) [0, 4, 6, 63] (noEnv_ok _ _) rfl rfl rfl (fun K hK => ?_)
  simp (failIfUnchanged := false) (disch := omega) only [Tryd.f90, go_sem, Nat.reduceAdd, ↓reduceIte]
  refine hK _ ?_
  repeat (first | with_reducible refine nx_then ?_ | with_reducible refine nx_blk ?_ | with_reducible refine nx_loop ?_ | with_reducible refine nx_ex_then ?_ | with_reducible refine nx_ex_loop ?_ | with_reducible refine nx_ex_blk ?_ | with_reducible refine nx_ret_then ?_ | with_reducible refine nx_ret_blk ?_ | with_reducible refine nx_ret_loop ?_)
  refine awp_ifN (((16 + j : Nat) : Int) < 64) (.tmp 63) rfl rfl rfl (fun h => ?_) (fun h => ?_)
  · refine awp_skipP rfl ?_
    repeat (first | with_reducible refine nx_then ?_ | with_reducible refine nx_blk ?_ | with_reducible refine nx_loop ?_ | with_reducible refine nx_ex_then ?_ | with_reducible refine nx_ex_loop ?_ | with_reducible refine nx_ex_blk ?_ | with_reducible refine nx_ret_then ?_ | with_reducible refine nx_ret_blk ?_ | with_reducible refine nx_ret_loop ?_)
    refine awp_seqP rfl ?_
    refine awp_blockN 3 rfl rfl ?_
    refine awp_seqP rfl ?_
    have e15 : (((16 + j : Nat) : Int) - 15).toNat = 16 + j - 15 := by omega
    have e2 : (((16 + j : Nat) : Int) - 2).toNat = 16 + j - 2 := by omega
    have e16 : (((16 + j : Nat) : Int) - 16).toNat = 16 + j - 16 := by omega
    have e7 : (((16 + j : Nat) : Int) - 7).toNat = 16 + j - 7 := by omega
    refine awp_drwP (Γ := noEnv) (fun _ => 2) [0, 4, 6, 7, 8] mixed (noEnv_ok _ _) rfl rfl rfl (by kernel_rfl) (fun K hK => ?_)
    simp (failIfUnchanged := false) (disch := omega) only [Tryd.f90, go_sem, Nat.reduceAdd, ↓reduceIte, W_eq, e15, e2, c32_head]
    refine hK _ ?_
    repeat (first | with_reducible refine nx_then ?_ | with_reducible refine nx_blk ?_ | with_reducible refine nx_loop ?_ | with_reducible refine nx_ex_then ?_ | with_reducible refine nx_ex_loop ?_ | with_reducible refine nx_ex_blk ?_ | with_reducible refine nx_ret_then ?_ | with_reducible refine nx_ret_blk ?_ | with_reducible refine nx_ret_loop ?_)
    refine awp_drwP (Γ := envL [(98, .pure true rotG)]) (fun _ => 2) [0, 4, 6] mixed (envR_ok) rfl rfl rfl (by kernel_rfl) (fun K hK => ?_)
    simp (failIfUnchanged := false) (disch := omega) only [Tryd.f90, go_sem, Nat.reduceAdd, Nat.reduceLeDiff, Int.reduceLE, Int.reduceLT, Int.reduceNeg, BitVec.reduceOfInt, BitVec.reduceToNat, BitVec.reduceAnd, BitVec.reduceSub, ↓reduceIte, W_eq, e16, e7, c32_head, c32_len, c32_set, hl, rotG_eq, Int.toNat_natCast]
    refine hK _ ?_
    repeat (first | with_reducible refine nx_then ?_ | with_reducible refine nx_blk ?_ | with_reducible refine nx_loop ?_ | with_reducible refine nx_ex_then ?_ | with_reducible refine nx_ex_loop ?_ | with_reducible refine nx_ex_blk ?_ | with_reducible refine nx_ret_then ?_ | with_reducible refine nx_ret_blk ?_ | with_reducible refine nx_ret_loop ?_)
    refine awp_regP (Γ := noEnv) [0, 4, 6] (noEnv_ok _ _) rfl rfl rfl (fun K hK => ?_)
    simp (failIfUnchanged := false) (disch := omega) only [Tryd.f90, go_sem, Nat.reduceAdd, ↓reduceIte, W_eq]
    refine hK _ ?_
    repeat (first | with_reducible refine nx_then ?_ | with_reducible refine nx_blk ?_ | with_reducible refine nx_loop ?_ | with_reducible refine nx_ex_then ?_ | with_reducible refine nx_ex_loop ?_ | with_reducible refine nx_ex_blk ?_ | with_reducible refine nx_ret_then ?_ | with_reducible refine nx_ret_blk ?_ | with_reducible refine nx_ret_loop ?_)
    exact ⟨j + 1, by omega, by omega, sub_same (by simp only [List.cons.injEq, Prod.mk.injEq, AV.i.injEq, true_and, and_true]; omega) (by simp only [w64, nextw, ro, Nat.reduceSub]) (by simp only; omega)⟩
  · refine awp_exitN 2 rfl rfl ?_
    repeat (first | with_reducible refine nx_then ?_ | with_reducible refine nx_blk ?_ | with_reducible refine nx_loop ?_ | with_reducible refine nx_ex_then ?_ | with_reducible refine nx_ex_loop ?_ | with_reducible refine nx_ex_blk ?_ | with_reducible refine nx_ret_then ?_ | with_reducible refine nx_ret_blk ?_ | with_reducible refine nx_ret_loop ?_)
    obtain rfl : j = 48 := by omega
    exact hQ _ _

/-- The frame's words in the rounds. -/
def frV (id nx : Nat) (v : V8) (k : Nat) : List (Nat × AV) :=
  [(0, .op id 0), (4, .op nx 0), (9, .w32 v.a), (10, .w32 v.c), (11, .w32 v.d), (12, .w32 v.e), (13, .w32 v.f), (14, .w32 v.g), (15, .w32 v.h), (16, .w32 v.i), (135, .agg (c32 KT)), (136, .i k)]

set_option maxHeartbeats 4000000 in
theorem mix_l3 {hp : H} {nx id c0 : Nat} {w : List W32} {v : V8} {Q : Exit → S → Prop} (hl : w.length = 64) (hc : c0 ≤ nx + 7000)
    (hQ : ∀ n z, Q .normal { fr := frV id nx (rnds w v 64) 64 ++ [(137, z)], hp := upd hp nx (.cells (c32 w) true), nx := n, cx := nx + 7000 + 150 * 64 + 1 }) :
    ∀ n0, Awp Tryd.prog GLh Tryd.f90.ntmps (cr (cl (cr (cr (cr (cr (cr (bodyOf Tryd.f90)))))))) { fr := frV id nx v 0, hp := upd hp nx (.cells (c32 w) true), nx := n0, cx := c0 } Q := by
  intro n0
  refine awp_blockN 4 rfl rfl ?_
  refine awp_loopP (fun k : Nat => { fr := frV id nx (rnds w v k) k, hp := upd hp nx (.cells (c32 w) true), nx := 0, cx := nx + 7000 + 150 * k }) (fun k => k ≤ 64) (fun k => 64 - k) rfl ⟨0, by omega, sub_same rfl rfl hc⟩ ?_
  intro k hk n
  have hKT := KT_len
  simp (failIfUnchanged := false) only [frV]
  refine awp_seqP rfl ?_
  refine awp_regP (Γ := noEnv) [0, 4, 9, 10, 11, 12, 13, 14, 15, 16, 135, 136, 137] (noEnv_ok _ _) rfl rfl rfl (fun K hK => ?_)
  simp (failIfUnchanged := false) (disch := omega) only [Tryd.f90, go_sem, ↓reduceIte]
  refine hK _ ?_
  repeat (first | with_reducible refine nx_then ?_ | with_reducible refine nx_blk ?_ | with_reducible refine nx_loop ?_ | with_reducible refine nx_ex_then ?_ | with_reducible refine nx_ex_loop ?_ | with_reducible refine nx_ex_blk ?_ | with_reducible refine nx_ret_then ?_ | with_reducible refine nx_ret_blk ?_ | with_reducible refine nx_ret_loop ?_)
  refine awp_seqP rfl ?_
  refine awp_ifN ((k : Int) < 64) (.tmp 137) rfl rfl rfl (fun h => ?_) (fun h => ?_)
  · refine awp_skipP rfl ?_
    repeat (first | with_reducible refine nx_then ?_ | with_reducible refine nx_blk ?_ | with_reducible refine nx_loop ?_ | with_reducible refine nx_ex_then ?_ | with_reducible refine nx_ex_loop ?_ | with_reducible refine nx_ex_blk ?_ | with_reducible refine nx_ret_then ?_ | with_reducible refine nx_ret_blk ?_ | with_reducible refine nx_ret_loop ?_)
    refine awp_seqP rfl ?_
    refine awp_blockN 5 rfl rfl ?_
    refine awp_seqP rfl ?_
    refine awp_regP (Γ := noEnv) [0, 4, 9, 10, 11, 12, 13, 14, 15, 16, 17, 18, 135, 136] (noEnv_ok _ _) rfl rfl rfl (fun K hK => ?_)
    simp (failIfUnchanged := false) (disch := omega) only [Tryd.f90, go_sem, Nat.reduceAdd, ↓reduceIte, c32_head, Int.toNat_natCast]
    refine hK _ ?_
    repeat (first | with_reducible refine nx_then ?_ | with_reducible refine nx_blk ?_ | with_reducible refine nx_loop ?_ | with_reducible refine nx_ex_then ?_ | with_reducible refine nx_ex_loop ?_ | with_reducible refine nx_ex_blk ?_ | with_reducible refine nx_ret_then ?_ | with_reducible refine nx_ret_blk ?_ | with_reducible refine nx_ret_loop ?_)
    refine awp_seqP rfl ?_
    refine awp_drwP (Γ := envL [(98, .pure true rotG)]) (fun _ => 2) [0, 4, 9, 10, 11, 12, 13, 14, 15, 16, 17, 18, 19, 135, 136] mixed (envR_ok) rfl rfl rfl (by kernel_rfl) (fun K hK => ?_)
    simp (failIfUnchanged := false) (disch := omega) only [Tryd.f90, go_sem, Nat.reduceAdd, Int.reduceNeg, BitVec.reduceOfInt, BitVec.reduceToNat, BitVec.reduceAnd, BitVec.reduceSub, ↓reduceIte, c32_head, rotG_eq, Int.toNat_natCast]
    refine hK _ ?_
    repeat (first | with_reducible refine nx_then ?_ | with_reducible refine nx_blk ?_ | with_reducible refine nx_loop ?_ | with_reducible refine nx_ex_then ?_ | with_reducible refine nx_ex_loop ?_ | with_reducible refine nx_ex_blk ?_ | with_reducible refine nx_ret_then ?_ | with_reducible refine nx_ret_blk ?_ | with_reducible refine nx_ret_loop ?_)
    refine awp_seqP rfl ?_
    refine awp_regP (Γ := envL [(98, .pure true rotG)]) [0, 4, 9, 10, 11, 12, 13, 14, 15, 16, 19, 20, 135, 136] (envR_ok) rfl rfl rfl (fun K hK => ?_)
    simp (failIfUnchanged := false) (disch := omega) only [Tryd.f90, go_sem, Nat.reduceAdd, Int.reduceNeg, BitVec.reduceOfInt, BitVec.reduceToNat, BitVec.reduceAnd, BitVec.reduceSub, ↓reduceIte, rotG_eq]
    refine hK _ ?_
    repeat (first | with_reducible refine nx_then ?_ | with_reducible refine nx_blk ?_ | with_reducible refine nx_loop ?_ | with_reducible refine nx_ex_then ?_ | with_reducible refine nx_ex_loop ?_ | with_reducible refine nx_ex_blk ?_ | with_reducible refine nx_ret_then ?_ | with_reducible refine nx_ret_blk ?_ | with_reducible refine nx_ret_loop ?_)
    refine awp_seqP rfl ?_
    refine awp_regP (Γ := noEnv) [0, 4, 9, 10, 11, 12, 13, 14, 15, 16, 19, 20, 135, 136] (noEnv_ok _ _) rfl rfl rfl (fun K hK => ?_)
    simp (failIfUnchanged := false) (disch := omega) only [Tryd.f90, go_sem, Nat.reduceAdd, ↓reduceIte]
    refine hK _ ?_
    repeat (first | with_reducible refine nx_then ?_ | with_reducible refine nx_blk ?_ | with_reducible refine nx_loop ?_ | with_reducible refine nx_ex_then ?_ | with_reducible refine nx_ex_loop ?_ | with_reducible refine nx_ex_blk ?_ | with_reducible refine nx_ret_then ?_ | with_reducible refine nx_ret_blk ?_ | with_reducible refine nx_ret_loop ?_)
    refine awp_regP (Γ := noEnv) [0, 4, 9, 10, 11, 12, 13, 14, 15, 16, 135, 136] (noEnv_ok _ _) rfl rfl rfl (fun K hK => ?_)
    simp (failIfUnchanged := false) (disch := omega) only [Tryd.f90, go_sem, Nat.reduceAdd, ↓reduceIte]
    refine hK _ ?_
    repeat (first | with_reducible refine nx_then ?_ | with_reducible refine nx_blk ?_ | with_reducible refine nx_loop ?_ | with_reducible refine nx_ex_then ?_ | with_reducible refine nx_ex_loop ?_ | with_reducible refine nx_ex_blk ?_ | with_reducible refine nx_ret_then ?_ | with_reducible refine nx_ret_blk ?_ | with_reducible refine nx_ret_loop ?_)
    refine awp_regP (Γ := noEnv) [0, 4, 9, 10, 11, 12, 13, 14, 15, 16, 135, 136] (noEnv_ok _ _) rfl rfl rfl (fun K hK => ?_)
    simp (failIfUnchanged := false) (disch := omega) only [Tryd.f90, go_sem, Nat.reduceAdd, ↓reduceIte, W_eq]
    refine hK _ ?_
    repeat (first | with_reducible refine nx_then ?_ | with_reducible refine nx_blk ?_ | with_reducible refine nx_loop ?_ | with_reducible refine nx_ex_then ?_ | with_reducible refine nx_ex_loop ?_ | with_reducible refine nx_ex_blk ?_ | with_reducible refine nx_ret_then ?_ | with_reducible refine nx_ret_blk ?_ | with_reducible refine nx_ret_loop ?_)
    exact ⟨k + 1, by omega, by omega, sub_same (by simp only [rnds, rnd, one, two, ro, Nat.reduceSub, Int.natCast_add, Int.natCast_one]) rfl (by simp only; omega)⟩
  · refine awp_exitN 4 rfl rfl ?_
    repeat (first | with_reducible refine nx_then ?_ | with_reducible refine nx_blk ?_ | with_reducible refine nx_loop ?_ | with_reducible refine nx_ex_then ?_ | with_reducible refine nx_ex_loop ?_ | with_reducible refine nx_ex_blk ?_ | with_reducible refine nx_ret_then ?_ | with_reducible refine nx_ret_blk ?_ | with_reducible refine nx_ret_loop ?_)
    obtain rfl : k = 64 := by omega
    exact hQ _ _

set_option maxHeartbeats 4000000 in
theorem mix_l4 {hp : H} {nx id c0 : Nat} {s x : List W32} {Q : Exit → S → Prop} (hs : s.length = 8) (hx : x.length = 8) (hid : id < nx) (ho : hp id = some (.cells (c32 s) true)) (hno : hp nx = none) (ob : AO) (hc : c0 ≤ nx + 17000)
    (hQ : ∀ n z, Q .normal { fr := [(0, .op id 0), (206, .agg (c32 x)), (207, .i ((8 : Nat) : Int)), (208, z)], hp := upd hp id (.cells (c32 (add8 s x 8)) true), nx := n, cx := nx + 17000 + 100 * 8 + 1 }) :
    ∀ n0, Awp Tryd.prog GLh Tryd.f90.ntmps (cr (cr (cr (cr (cr (cr (cr (bodyOf Tryd.f90)))))))) { fr := [(0, .op id 0), (206, .agg (c32 x)), (207, .i 0)], hp := upd hp nx ob, nx := n0, cx := c0 } Q := by
  intro n0
  refine awp_blockN 6 rfl rfl ?_
  refine awp_loopP (fun k : Nat => { fr := [(0, .op id 0), (206, .agg (c32 x)), (207, .i k)], hp := upd hp id (.cells (c32 (add8 s x k)) true), nx := 0, cx := nx + 17000 + 100 * k }) (fun k => k ≤ 8) (fun k => 8 - k) rfl ⟨0, by omega, ⟨fun _ => .inr rfl, fun j o h => ?_, hc⟩⟩ ?_
  · simp only [upd_apply, add8] at h ⊢
    split at h
    · rename_i e; subst e; rw [if_neg (by omega), ho]; exact h
    · split
      · rename_i e; subst e; rw [hno] at h; cases h
      · exact h
  intro k hk n
  have hl : (add8 s x k).length = 8 := by rw [add8_len, hs]
  refine awp_seqP rfl ?_
  refine awp_regP (Γ := noEnv) [0, 206, 207, 208] (noEnv_ok _ _) rfl rfl rfl (fun K hK => ?_)
  simp (failIfUnchanged := false) (disch := omega) only [Tryd.f90, go_sem, ↓reduceIte]
  refine hK _ ?_
  repeat (first | with_reducible refine nx_then ?_ | with_reducible refine nx_blk ?_ | with_reducible refine nx_loop ?_ | with_reducible refine nx_ex_then ?_ | with_reducible refine nx_ex_loop ?_ | with_reducible refine nx_ex_blk ?_ | with_reducible refine nx_ret_then ?_ | with_reducible refine nx_ret_blk ?_ | with_reducible refine nx_ret_loop ?_)
  refine awp_seqP rfl ?_
  refine awp_ifN ((k : Int) < 8) (.tmp 208) rfl rfl rfl (fun h => ?_) (fun h => ?_)
  · refine awp_skipP rfl ?_
    repeat (first | with_reducible refine nx_then ?_ | with_reducible refine nx_blk ?_ | with_reducible refine nx_loop ?_ | with_reducible refine nx_ex_then ?_ | with_reducible refine nx_ex_loop ?_ | with_reducible refine nx_ex_blk ?_ | with_reducible refine nx_ret_then ?_ | with_reducible refine nx_ret_blk ?_ | with_reducible refine nx_ret_loop ?_)
    refine awp_seqP rfl ?_
    refine awp_blockN 7 rfl rfl ?_
    refine awp_seqP rfl ?_
    refine awp_regP (Γ := noEnv) [0, 21, 22, 206, 207] (noEnv_ok _ _) rfl rfl rfl (fun K hK => ?_)
    simp (failIfUnchanged := false) (disch := omega) only [Tryd.f90, go_sem, Nat.reduceAdd, ↓reduceIte, c32_head, Int.toNat_natCast]
    refine hK _ ?_
    repeat (first | with_reducible refine nx_then ?_ | with_reducible refine nx_blk ?_ | with_reducible refine nx_loop ?_ | with_reducible refine nx_ex_then ?_ | with_reducible refine nx_ex_loop ?_ | with_reducible refine nx_ex_blk ?_ | with_reducible refine nx_ret_then ?_ | with_reducible refine nx_ret_blk ?_ | with_reducible refine nx_ret_loop ?_)
    refine awp_drwP (Γ := noEnv) (fun _ => 2) [0, 206, 207] mixed (noEnv_ok _ _) rfl rfl rfl (by kernel_rfl) (fun K hK => ?_)
    simp (failIfUnchanged := false) (disch := omega) only [Tryd.f90, go_sem, Nat.reduceAdd, Nat.reduceLeDiff, ↓reduceIte, c32_head, c32_len, c32_set, hl, Int.toNat_natCast]
    refine hK _ ?_
    repeat (first | with_reducible refine nx_then ?_ | with_reducible refine nx_blk ?_ | with_reducible refine nx_loop ?_ | with_reducible refine nx_ex_then ?_ | with_reducible refine nx_ex_loop ?_ | with_reducible refine nx_ex_blk ?_ | with_reducible refine nx_ret_then ?_ | with_reducible refine nx_ret_blk ?_ | with_reducible refine nx_ret_loop ?_)
    refine awp_regP (Γ := noEnv) [0, 206, 207] (noEnv_ok _ _) rfl rfl rfl (fun K hK => ?_)
    simp (failIfUnchanged := false) (disch := omega) only [Tryd.f90, go_sem, Nat.reduceAdd, ↓reduceIte, W_eq]
    refine hK _ ?_
    repeat (first | with_reducible refine nx_then ?_ | with_reducible refine nx_blk ?_ | with_reducible refine nx_loop ?_ | with_reducible refine nx_ex_then ?_ | with_reducible refine nx_ex_loop ?_ | with_reducible refine nx_ex_blk ?_ | with_reducible refine nx_ret_then ?_ | with_reducible refine nx_ret_blk ?_ | with_reducible refine nx_ret_loop ?_)
    exact ⟨k + 1, by omega, by omega, sub_same (by simp only [Int.natCast_add, Int.natCast_one]) (by simp only [add8]) (by simp only; omega)⟩
  · refine awp_exitN 6 rfl rfl ?_
    repeat (first | with_reducible refine nx_then ?_ | with_reducible refine nx_blk ?_ | with_reducible refine nx_loop ?_ | with_reducible refine nx_ex_then ?_ | with_reducible refine nx_ex_loop ?_ | with_reducible refine nx_ex_blk ?_ | with_reducible refine nx_ret_then ?_ | with_reducible refine nx_ret_blk ?_ | with_reducible refine nx_ret_loop ?_)
    obtain rfl : k = 8 := by omega
    exact hQ _ _
end Go.AX

namespace Go.AX
open Go Go.Proofs

set_option maxHeartbeats 4000000 in
theorem mix_end {hp : H} {nx id c0 n0 : Nat} {s : List W32} {v : V8} {z : AV} {Q : Exit → S → Prop} (hs : s.length = 8) (hid : id < nx) (ho : hp id = some (.cells (c32 s) true)) (hno : hp nx = none) (ob : AO) (hc : c0 ≤ nx + 16900)
    (hQ : ∀ n z, Q .normal { fr := [(0, .op id 0), (206, .agg (c32 (l8 v))), (207, .i ((8 : Nat) : Int)), (208, z)], hp := upd hp id (.cells (c32 (add8 s (l8 v) 8)) true), nx := n, cx := nx + 17000 + 100 * 8 + 1 }) :
    Awp Tryd.prog GLh Tryd.f90.ntmps (cr (cr (cr (cr (cr (cr (bodyOf Tryd.f90))))))) { fr := frV id nx v 64 ++ [(137, z)], hp := upd hp nx ob, nx := n0, cx := c0 } Q := by
  simp (failIfUnchanged := false) only [frV, List.cons_append, List.nil_append]
  refine awp_seqP rfl ?_
  refine awp_regP (Γ := noEnv) [0, 206, 207] (noEnv_ok _ _) rfl rfl rfl (fun K hK => ?_)
  simp (failIfUnchanged := false) (disch := omega) only [Tryd.f90, go_sem, Nat.reduceAdd, ↓reduceIte]
  refine hK _ ?_
  repeat (first | with_reducible refine nx_then ?_ | with_reducible refine nx_blk ?_ | with_reducible refine nx_loop ?_ | with_reducible refine nx_ex_then ?_ | with_reducible refine nx_ex_loop ?_ | with_reducible refine nx_ex_blk ?_ | with_reducible refine nx_ret_then ?_ | with_reducible refine nx_ret_blk ?_ | with_reducible refine nx_ret_loop ?_)
  exact mix_l4 (x := l8 v) hs rfl hid ho hno _ (by omega) (fun n4 z4 => hQ n4 z4) _

theorem mix_r {hp : H} {nx id c0 n0 : Nat} {s w : List W32} {Q : Exit → S → Prop} (hw : w.length = 64) (hs : s.length = 8) (hid : id < nx) (ho : hp id = some (.cells (c32 s) true)) (hno : hp nx = none) (hc : c0 ≤ nx + 7000)
    (hQ : ∀ n z, Q .normal { fr := [(0, .op id 0), (206, .agg (c32 (l8 (rnds w (v8 s) 64)))), (207, .i ((8 : Nat) : Int)), (208, z)], hp := upd hp id (.cells (c32 (add8 s (l8 (rnds w (v8 s) 64)) 8)) true), nx := n, cx := nx + 17000 + 100 * 8 + 1 }) :
    Awp Tryd.prog GLh Tryd.f90.ntmps (cr (cl (cr (cr (cr (cr (cr (bodyOf Tryd.f90)))))))) { fr := frV id nx (v8 s) 0, hp := upd hp nx (.cells (c32 w) true), nx := n0, cx := c0 } (andThenQ Tryd.prog GLh Tryd.f90.ntmps (cr (cr (cr (cr (cr (cr (bodyOf Tryd.f90))))))) Q) :=
  mix_l3 hw hc (fun _ _ => nx_then (mix_end hs hid ho hno _ (by omega) hQ)) _

set_option maxHeartbeats 4000000 in
theorem mix_ok : HeapOK Tryd.prog GLh 90 mixG := by
  refine heap_of_awp Tryd.func90 (bodyOf_some rfl) ?_
  intro args hp nx r hp' nx' hg
  unfold mixG at hg
  split at hg
  · rename_i h2 n2 id y
    replace hg := obind_inv hg; obtain ⟨bl, hbl, hg⟩ := hg
    replace hg := obind_inv hg; obtain ⟨o, ho, hg⟩ := hg
    obtain ⟨xs, mt, rfl⟩ : ∃ xs mt, o = .cells xs mt := by cases o with | cells xs mt => exact ⟨xs, mt, rfl⟩ | mapo _ _ => cases hg
    replace hg := obind_inv hg; obtain ⟨s, hs, hg⟩ := hg
    replace hg := guardO_inv hg; obtain ⟨⟨hmt, hsl, hbll, hnot, hid⟩, hg⟩ := hg
    simp (failIfUnchanged := false) only [Option.some.injEq, Prod.mk.injEq] at hg; obtain ⟨rfl, rfl, rfl⟩ := hg
    subst hmt
    have := un32_inv _ hs; subst this
    have hbig := bigK_ge
    refine ⟨Nat.le_of_ble_eq_true rfl, by omega, fun hnone => ?_⟩
    have hne : (id = nx) = False := eq_false (by omega)
    refine awp_seqP rfl ?_
    refine awp_regP (Γ := noEnv) [0, 1, 4] (noEnv_ok _ _) rfl rfl rfl (fun K hK => ?_)
    simp (failIfUnchanged := false) (disch := omega) only [Tryd.f90, go_sem, ↓reduceIte, c32_rep]
    refine hK _ ?_
    repeat (first | with_reducible refine nx_then ?_ | with_reducible refine nx_blk ?_ | with_reducible refine nx_loop ?_ | with_reducible refine nx_ex_then ?_ | with_reducible refine nx_ex_loop ?_ | with_reducible refine nx_ex_blk ?_ | with_reducible refine nx_ret_then ?_ | with_reducible refine nx_ret_blk ?_ | with_reducible refine nx_ret_loop ?_)
    refine awp_seqP rfl ?_
    refine awp_seqP rfl ?_
    refine awp_regP (Γ := noEnv) [0, 1, 4, 23] (noEnv_ok _ _) rfl rfl rfl (fun K hK => ?_)
    simp (failIfUnchanged := false) (disch := omega) only [Tryd.f90, go_sem, ↓reduceIte]
    refine hK _ ?_
    repeat (first | with_reducible refine nx_then ?_ | with_reducible refine nx_blk ?_ | with_reducible refine nx_loop ?_ | with_reducible refine nx_ex_then ?_ | with_reducible refine nx_ex_loop ?_ | with_reducible refine nx_ex_blk ?_ | with_reducible refine nx_ret_then ?_ | with_reducible refine nx_ret_blk ?_ | with_reducible refine nx_ret_loop ?_)
    refine mix_l1 hbl hbll hnone hid (by omega) (fun n1 z1 => ?_) _
    repeat (first | with_reducible refine nx_then ?_ | with_reducible refine nx_blk ?_ | with_reducible refine nx_loop ?_ | with_reducible refine nx_ex_then ?_ | with_reducible refine nx_ex_loop ?_ | with_reducible refine nx_ex_blk ?_ | with_reducible refine nx_ret_then ?_ | with_reducible refine nx_ret_blk ?_ | with_reducible refine nx_ret_loop ?_)
    refine awp_seqP rfl ?_
    refine awp_seqP rfl ?_
    refine awp_regP (Γ := noEnv) [0, 4, 6] (noEnv_ok _ _) rfl rfl rfl (fun K hK => ?_)
    simp (failIfUnchanged := false) (disch := omega) only [Tryd.f90, go_sem, Nat.reduceMul, ↓reduceIte]
    refine hK _ ?_
    repeat (first | with_reducible refine nx_then ?_ | with_reducible refine nx_blk ?_ | with_reducible refine nx_loop ?_ | with_reducible refine nx_ex_then ?_ | with_reducible refine nx_ex_loop ?_ | with_reducible refine nx_ex_blk ?_ | with_reducible refine nx_ret_then ?_ | with_reducible refine nx_ret_blk ?_ | with_reducible refine nx_ret_loop ?_)
    refine mix_l2 (by omega) (fun n2 z2 => ?_) _
    repeat (first | with_reducible refine nx_then ?_ | with_reducible refine nx_blk ?_ | with_reducible refine nx_loop ?_ | with_reducible refine nx_ex_then ?_ | with_reducible refine nx_ex_loop ?_ | with_reducible refine nx_ex_blk ?_ | with_reducible refine nx_ret_then ?_ | with_reducible refine nx_ret_blk ?_ | with_reducible refine nx_ret_loop ?_)
    refine awp_seqP rfl ?_
    refine awp_drwP (Γ := noEnv) (fun _ => 2) [0, 4, 9, 10, 11, 12] mixed (noEnv_ok _ _) rfl rfl rfl (by kernel_rfl) (fun K hK => ?_)
    simp (failIfUnchanged := false) (disch := omega) only [Tryd.f90, go_sem, Nat.reduceAdd, Nat.reduceMul, Int.reduceLE, Int.reduceToNat, ↓reduceIte, c32_head, c32_head0, hne, ho]
    refine hK _ ?_
    repeat (first | with_reducible refine nx_then ?_ | with_reducible refine nx_blk ?_ | with_reducible refine nx_loop ?_ | with_reducible refine nx_ex_then ?_ | with_reducible refine nx_ex_loop ?_ | with_reducible refine nx_ex_blk ?_ | with_reducible refine nx_ret_then ?_ | with_reducible refine nx_ret_blk ?_ | with_reducible refine nx_ret_loop ?_)
    refine awp_seqP rfl ?_
    refine awp_drwP (Γ := noEnv) (fun _ => 2) [0, 4, 9, 10, 11, 12, 13, 14, 15, 16] mixed (noEnv_ok _ _) rfl rfl rfl (by kernel_rfl) (fun K hK => ?_)
    simp (failIfUnchanged := false) (disch := omega) only [Tryd.f90, go_sem, Nat.reduceAdd, Int.reduceLE, Int.reduceToNat, ↓reduceIte, c32_head, hne, ho]
    refine hK _ ?_
    repeat (first | with_reducible refine nx_then ?_ | with_reducible refine nx_blk ?_ | with_reducible refine nx_loop ?_ | with_reducible refine nx_ex_then ?_ | with_reducible refine nx_ex_loop ?_ | with_reducible refine nx_ex_blk ?_ | with_reducible refine nx_ret_then ?_ | with_reducible refine nx_ret_blk ?_ | with_reducible refine nx_ret_loop ?_)
    refine awp_seqP rfl ?_
    refine awp_seqP rfl ?_
    refine awp_regP (Γ := noEnv) [0, 4, 9, 10, 11, 12, 13, 14, 15, 16, 135, 136] (noEnv_ok _ _) rfl rfl rfl (fun K hK => ?_)
    simp (failIfUnchanged := false) (disch := omega) only [Tryd.f90, go_sem, Nat.reduceAdd, Nat.reduceLeDiff, ↓reduceIte, evg0, KT_take, c32_len, KT_len]
    refine hK _ ?_
    repeat (first | with_reducible refine nx_then ?_ | with_reducible refine nx_blk ?_ | with_reducible refine nx_loop ?_ | with_reducible refine nx_ex_then ?_ | with_reducible refine nx_ex_loop ?_ | with_reducible refine nx_ex_blk ?_ | with_reducible refine nx_ret_then ?_ | with_reducible refine nx_ret_blk ?_ | with_reducible refine nx_ret_loop ?_)
    refine mix_r (w64_len bl 48) hsl hid ho (hnone nx (Nat.le_refl _)) (by omega) fun n4 z4 => ?_
    exact ⟨rfl, fun k o h => h, by simp only; omega⟩
  · cases hg
end Go.AX

namespace Go.AX
open Go Go.Proofs

def S0 : List W32 := [0x6a09e667#32, 0xbb67ae85#32, 0x3c6ef372#32, 0xa54ff53a#32, 0x510e527f#32, 0x9b05688c#32, 0x1f83d9ab#32, 0x5be0cd19#32]
/-- Blocks of a text taken in, one behind the other. -/
def ab (s : List W32) (p : List B8) : Nat → List W32
  | 0 => s
  | j + 1 => comp (ab s p j) ((p.drop (64 * j)).take 64)
theorem ab_len (s : List W32) (p : List B8) (j : Nat) : (ab s p j).length = s.length := by
  induction j with
  | zero => rfl
  | succ j ih => simp only [ab, comp_len, ih]
theorem S0_len : S0.length = 8 := (rfl)
def tl0 (r : List B8) : List B8 := (splice8 (List.replicate 128 0#8) 0 (r.take (min r.length 128))).set r.length 0x80#8
def tl (n : BitVec 64) (e : Nat) (l : List B8) : Nat → List B8
  | 0 => l
  | k + 1 => (tl n e l k).set (e - 1 - k) ((n >>> (8 * k)).setWidth 8)
def ob (s : List W32) : Nat → List B8
  | 0 => List.replicate 32 0#8
  | k + 1 => ((((ob s k).set (4 * k) ((s.getD k 0#32 >>> 24).setWidth 8)).set (4 * k + 1) ((s.getD k 0#32 >>> 16).setWidth 8)).set (4 * k + 2) ((s.getD k 0#32 >>> 8).setWidth 8)).set (4 * k + 3) ((s.getD k 0#32).setWidth 8)
theorem tl_len (n : BitVec 64) (e : Nat) (l : List B8) (k : Nat) : (tl n e l k).length = l.length := by
  induction k with
  | zero => rfl
  | succ j ih => simp only [tl, List.length_set, ih]
theorem ob_len (s : List W32) (k : Nat) : (ob s k).length = 32 := by
  induction k with
  | zero => rfl
  | succ j ih => simp only [ob, List.length_set, ih]
def en (r : List B8) : Nat := if 56 ≤ r.length then 128 else 64
def sumL (b : List B8) : List B8 :=
  let r := b.drop (64 * (b.length / 64))
  ob (ab (ab S0 b (b.length / 64)) (tl (BitVec.ofInt 64 b.length * 8#64) (en r) (tl0 r) 8) (en r / 64)) 8
theorem sumL_len (b : List B8) : (sumL b).length = 32 := ob_len _ _

def sumG : List AV → Option AV
  | [.sl n xs] => obind (un8 xs) fun b => guardO (b.length = n) (some (.agg (c8 (sumL b))))
  | _ => none

noncomputable def mixO (id : Nat) (y : AV) (bl : List B8) (hp : H) (nx : Nat) : AO → Option (AV × H × Nat)
  | .cells xs mt => obind (un32 xs) fun s => guardO (mt = true ∧ s.length = 8 ∧ bl.length = 64 ∧ notId id y = true ∧ id < nx)
        (some (.tup [], upd hp id (.cells (c32 (comp s bl)) true), nx + bigK))
  | .mapo _ _ => none
theorem mixG_S (id : Nat) (y : AV) (hp : H) (nx : Nat) : mixG [.op id 0, y] hp nx = obind (bytesOf hp y) fun bl => obind (hp id) (mixO id y bl hp nx) := by
  simp (failIfUnchanged := false) only [mixG]; rfl
theorem mixO_c (id : Nat) (y : AV) (bl : List B8) (hp : H) (nx : Nat) (xs : List AV) (mt : Bool) : mixO id y bl hp nx (.cells xs mt) = obind (un32 xs) fun s => guardO (mt = true ∧ s.length = 8 ∧ bl.length = 64 ∧ notId id y = true ∧ id < nx)
        (some (.tup [], upd hp id (.cells (c32 (comp s bl)) true), nx + bigK)) := (rfl)
def byO (off n e : Nat) : AO → Option (List B8)
  | .cells xs _ => guardO (e = 1 ∧ off + n ≤ xs.length) (un8 ((xs.drop off).take n))
  | .mapo _ _ => none
theorem bytesOf_sl (hp : H) (n : Nat) (xs : List AV) : bytesOf hp (.sl n xs) = guardO (xs.length = n) (un8 xs) := (rfl)
theorem bytesOf_os (hp : H) (id off n e : Nat) (g : Bool) : bytesOf hp (.os id off n e g) = obind (hp id) (byO off n e) := (rfl)
theorem byO_c (off n e : Nat) (xs : List AV) (mt : Bool) : byO off n e (.cells xs mt) = guardO (e = 1 ∧ off + n ≤ xs.length) (un8 ((xs.drop off).take n)) := (rfl)
theorem notId_sl (id n : Nat) (xs : List AV) : notId id (.sl n xs) = true := (rfl)
theorem notId_os (id j off n e : Nat) (g : Bool) (h : j ≠ id) : notId id (.os j off n e g) = true := by simp [notId, h]

theorem envM_ok : EnvOK Tryd.prog GLh (envL [(90, .heap mixG)]) := by
  intro f s h
  simp (failIfUnchanged := false) only [envL] at h
  split at h
  · rename_i e; subst e
    obtain rfl := Option.some.inj h
    exact ⟨⟨_, Tryd.func90, rfl, rfl⟩, mix_ok⟩
  · cases h

theorem list_drop_take_all {α : Type} (l : List α) (k n : Nat) (h : l.length ≤ n + k) : (l.drop k).take n = l.drop k := List.take_of_length_le (by simp only [List.length_drop]; omega)

set_option maxHeartbeats 4000000 in
theorem sum_l1 {nx c0 : Nat} {b : List B8} {n : AV} {o2 : AO} {Q : Exit → S → Prop} (hc : c0 ≤ nx + 100)
    (hQ : ∀ m z, Q .normal { fr := [(0, .sl (b.length - 64 * (b.length / 64)) (c8 (b.drop (64 * (b.length / 64))))), (2, .op nx 0), (3, .op (nx + 1 + 1) 0), (4, n), (19, z)], hp := upd (upd (fun _ => none) nx o2) (nx + 1 + 1) (.cells (c32 (ab S0 b (b.length / 64))) true), nx := m, cx := cxR (nx + 100) (b.length / 64) + 3 }) :
    ∀ n0, Awp Tryd.prog GLh Tryd.f74.ntmps (cl (cr (cr (cr (bodyOf Tryd.f74))))) { fr := [(0, .sl b.length (c8 b)), (2, .op nx 0), (3, .op (nx + 1 + 1) 0), (4, n)], hp := upd (upd (fun _ => none) nx o2) (nx + 1 + 1) (.cells (c32 S0) true), nx := n0, cx := c0 } Q := by
  intro n0
  refine awp_blockN 0 rfl rfl ?_
  refine awp_loopP (fun j : Nat => { fr := [(0, .sl (b.length - 64 * j) (c8 (b.drop (64 * j)))), (2, .op nx 0), (3, .op (nx + 1 + 1) 0), (4, n)], hp := upd (upd (fun _ => none) nx o2) (nx + 1 + 1) (.cells (c32 (ab S0 b j)) true), nx := 0, cx := cxR (nx + 100) j }) (fun j => 64 * j ≤ b.length) (fun j => b.length - j) rfl ⟨0, by omega, sub_same (by simp only [Nat.mul_zero, Nat.sub_zero, List.drop_zero]) rfl hc⟩ ?_
  intro j hj m
  have hcx := cxR_le (nx + 100) j
  have hl : (ab S0 b j).length = 8 := by rw [ab_len, S0_len]
  have hdl : (b.drop (64 * j)).length = b.length - 64 * j := List.length_drop ..
  refine awp_seqP rfl ?_
  refine awp_seqP rfl ?_
  refine awp_regP (Γ := noEnv) [0, 2, 3, 4, 19] (noEnv_ok _ _) rfl rfl rfl (fun K hK => ?_)
  simp (failIfUnchanged := false) (disch := omega) only [Tryd.f74, go_sem, Nat.reduceAdd, ↓reduceIte]
  refine hK _ ?_
  repeat (first | with_reducible refine nx_then ?_ | with_reducible refine nx_blk ?_ | with_reducible refine nx_loop ?_ | with_reducible refine nx_ex_then ?_ | with_reducible refine nx_ex_loop ?_ | with_reducible refine nx_ex_blk ?_ | with_reducible refine nx_ret_then ?_ | with_reducible refine nx_ret_blk ?_ | with_reducible refine nx_ret_loop ?_)
  refine awp_ifN ((64 : Int) ≤ ((b.length - 64 * j : Nat) : Int)) (.tmp 19) rfl rfl rfl (fun h => ?_) (fun h => ?_)
  · refine awp_skipP rfl ?_
    repeat (first | with_reducible refine nx_then ?_ | with_reducible refine nx_blk ?_ | with_reducible refine nx_loop ?_ | with_reducible refine nx_ex_then ?_ | with_reducible refine nx_ex_loop ?_ | with_reducible refine nx_ex_blk ?_ | with_reducible refine nx_ret_then ?_ | with_reducible refine nx_ret_blk ?_ | with_reducible refine nx_ret_loop ?_)
    refine awp_blockN 1 rfl rfl ?_
    refine awp_seqP rfl ?_
    have hcl : (c8 (b.drop (64 * j))).length = b.length - 64 * j := (c8_len _).trans hdl
    have htl : ((b.drop (64 * j)).take 64).length = 64 := by rw [List.length_take, hdl]; omega
    refine awp_regP (Γ := envL [(90, .heap mixG)]) [0, 2, 3, 4] (envM_ok) rfl rfl rfl (fun K hK => ?_)
    simp (failIfUnchanged := false) (disch := omega) only [Tryd.f74, go_sem, Nat.reduceAdd, Nat.reduceSub, Int.reduceLE, Int.reduceToNat, ↓reduceIte, mixG_S, mixO_c, bytesOf_sl, notId_sl, c8_take, c8_len, un8_c8, un32_c32, htl, hl]
    refine hK _ ?_
    repeat (first | with_reducible refine nx_then ?_ | with_reducible refine nx_blk ?_ | with_reducible refine nx_loop ?_ | with_reducible refine nx_ex_then ?_ | with_reducible refine nx_ex_loop ?_ | with_reducible refine nx_ex_blk ?_ | with_reducible refine nx_ret_then ?_ | with_reducible refine nx_ret_blk ?_ | with_reducible refine nx_ret_loop ?_)
    refine awp_regP (Γ := noEnv) [0, 2, 3, 4] (noEnv_ok _ _) rfl rfl rfl (fun K hK => ?_)
    simp (failIfUnchanged := false) (disch := omega) only [Tryd.f74, go_sem, Nat.reduceAdd, Int.reduceLE, Int.reduceToNat, ↓reduceIte, list_drop_take_all, Int.toNat_natCast]
    refine hK _ ?_
    repeat (first | with_reducible refine nx_then ?_ | with_reducible refine nx_blk ?_ | with_reducible refine nx_loop ?_ | with_reducible refine nx_ex_then ?_ | with_reducible refine nx_ex_loop ?_ | with_reducible refine nx_ex_blk ?_ | with_reducible refine nx_ret_then ?_ | with_reducible refine nx_ret_blk ?_ | with_reducible refine nx_ret_loop ?_)
    exact ⟨j + 1, by omega, by omega, sub_same (by simp only [List.cons.injEq, Prod.mk.injEq, AV.sl.injEq, true_and, and_true, List.drop_drop]; exact ⟨by omega, by rw [show 64 * (j + 1) = 64 * j + 64 by omega]⟩) (by simp only [ab]) (by simp only [cxR]; omega)⟩
  · refine awp_exitN 0 rfl rfl ?_
    repeat (first | with_reducible refine nx_then ?_ | with_reducible refine nx_blk ?_ | with_reducible refine nx_loop ?_ | with_reducible refine nx_ex_then ?_ | with_reducible refine nx_ex_loop ?_ | with_reducible refine nx_ex_blk ?_ | with_reducible refine nx_ret_then ?_ | with_reducible refine nx_ret_blk ?_ | with_reducible refine nx_ret_loop ?_)
    obtain rfl : j = b.length / 64 := by omega
    exact hQ _ _

set_option maxHeartbeats 4000000 in
theorem sum_l2 {nx c0 e : Nat} {l : List B8} {n : BitVec 64} {s : AV} {hp : H} {Q : Exit → S → Prop} (he : 8 ≤ e ∧ e ≤ 128) (hll : l.length = 128) {c1 id5 : Nat} (hc : c0 ≤ c1) (_ : id5 < c1)
    (hQ : ∀ m z, Q .normal { fr := [(2, .op nx 0), (3, s), (4, .w64 n), (5, .op id5 0), (6, .i e), (32, .i ((8 : Nat) : Int)), (33, z)], hp := upd hp id5 (.cells (c8 (tl n e l 8)) true), nx := m, cx := c1 + 100 * 8 + 1 }) :
    ∀ n0, Awp Tryd.prog GLh Tryd.f74.ntmps (cr (cl (cr (cr (cr (cr (cr (cr (cr (cr (bodyOf Tryd.f74))))))))))) { fr := [(2, .op nx 0), (3, s), (4, .w64 n), (5, .op id5 0), (6, .i e), (32, .i 0)], hp := upd hp id5 (.cells (c8 l) true), nx := n0, cx := c0 } Q := by
  intro n0
  refine awp_blockN 2 rfl rfl ?_
  refine awp_loopP (fun k : Nat => { fr := [(2, .op nx 0), (3, s), (4, .w64 n), (5, .op id5 0), (6, .i e), (32, .i k)], hp := upd hp id5 (.cells (c8 (tl n e l k)) true), nx := 0, cx := c1 + 100 * k }) (fun k => k ≤ 8) (fun k => 8 - k) rfl ⟨0, by omega, sub_same rfl rfl hc⟩ ?_
  intro k hk m
  have hl : (tl n e l k).length = 128 := by rw [tl_len, hll]
  refine awp_seqP rfl ?_
  refine awp_regP (Γ := noEnv) [2, 3, 4, 5, 6, 32, 33] (noEnv_ok _ _) rfl rfl rfl (fun K hK => ?_)
  simp (failIfUnchanged := false) (disch := omega) only [Tryd.f74, go_sem, ↓reduceIte]
  refine hK _ ?_
  repeat (first | with_reducible refine nx_then ?_ | with_reducible refine nx_blk ?_ | with_reducible refine nx_loop ?_ | with_reducible refine nx_ex_then ?_ | with_reducible refine nx_ex_loop ?_ | with_reducible refine nx_ex_blk ?_ | with_reducible refine nx_ret_then ?_ | with_reducible refine nx_ret_blk ?_ | with_reducible refine nx_ret_loop ?_)
  refine awp_seqP rfl ?_
  refine awp_ifN ((k : Int) < 8) (.tmp 33) rfl rfl rfl (fun h => ?_) (fun h => ?_)
  · refine awp_skipP rfl ?_
    repeat (first | with_reducible refine nx_then ?_ | with_reducible refine nx_blk ?_ | with_reducible refine nx_loop ?_ | with_reducible refine nx_ex_then ?_ | with_reducible refine nx_ex_loop ?_ | with_reducible refine nx_ex_blk ?_ | with_reducible refine nx_ret_then ?_ | with_reducible refine nx_ret_blk ?_ | with_reducible refine nx_ret_loop ?_)
    refine awp_seqP rfl ?_
    refine awp_blockN 3 rfl rfl ?_
    refine awp_seqP rfl ?_
    refine awp_regP (Γ := noEnv) [2, 3, 4, 5, 6, 7, 32] (noEnv_ok _ _) rfl rfl rfl (fun K hK => ?_)
    simp (failIfUnchanged := false) (disch := omega) only [Tryd.f74, go_sem, Nat.reduceAdd, ↓reduceIte]
    refine hK _ ?_
    repeat (first | with_reducible refine nx_then ?_ | with_reducible refine nx_blk ?_ | with_reducible refine nx_loop ?_ | with_reducible refine nx_ex_then ?_ | with_reducible refine nx_ex_loop ?_ | with_reducible refine nx_ex_blk ?_ | with_reducible refine nx_ret_then ?_ | with_reducible refine nx_ret_blk ?_ | with_reducible refine nx_ret_loop ?_)
    have e1 : ((e : Int) - 1 - (k : Int)).toNat = e - 1 - k := by omega
    have e2 : (BitVec.ofInt 64 (8 * (k : Int))).toNat = 8 * k := by rw [BitVec.toNat_ofInt]; omega
    refine awp_regP (Γ := noEnv) [2, 3, 4, 5, 6, 32] (noEnv_ok _ _) rfl rfl rfl (fun K hK => ?_)
    simp (failIfUnchanged := false) (disch := omega) only [Tryd.f74, go_sem, Nat.reduceAdd, Nat.reduceLeDiff, ↓reduceIte, W_eq, c8_len, c8_set, hl, e1, e2]
    refine hK _ ?_
    repeat (first | with_reducible refine nx_then ?_ | with_reducible refine nx_blk ?_ | with_reducible refine nx_loop ?_ | with_reducible refine nx_ex_then ?_ | with_reducible refine nx_ex_loop ?_ | with_reducible refine nx_ex_blk ?_ | with_reducible refine nx_ret_then ?_ | with_reducible refine nx_ret_blk ?_ | with_reducible refine nx_ret_loop ?_)
    refine awp_regP (Γ := noEnv) [2, 3, 4, 5, 6, 32] (noEnv_ok _ _) rfl rfl rfl (fun K hK => ?_)
    simp (failIfUnchanged := false) (disch := omega) only [Tryd.f74, go_sem, Nat.reduceAdd, ↓reduceIte, W_eq]
    refine hK _ ?_
    repeat (first | with_reducible refine nx_then ?_ | with_reducible refine nx_blk ?_ | with_reducible refine nx_loop ?_ | with_reducible refine nx_ex_then ?_ | with_reducible refine nx_ex_loop ?_ | with_reducible refine nx_ex_blk ?_ | with_reducible refine nx_ret_then ?_ | with_reducible refine nx_ret_blk ?_ | with_reducible refine nx_ret_loop ?_)
    exact ⟨k + 1, by omega, by omega, sub_same (by simp only [Int.natCast_add, Int.natCast_one]) (by simp only [tl]) (by simp only; omega)⟩
  · refine awp_exitN 2 rfl rfl ?_
    repeat (first | with_reducible refine nx_then ?_ | with_reducible refine nx_blk ?_ | with_reducible refine nx_loop ?_ | with_reducible refine nx_ex_then ?_ | with_reducible refine nx_ex_loop ?_ | with_reducible refine nx_ex_blk ?_ | with_reducible refine nx_ret_then ?_ | with_reducible refine nx_ret_blk ?_ | with_reducible refine nx_ret_loop ?_)
    obtain rfl : k = 8 := by omega
    exact hQ _ _

set_option maxHeartbeats 4000000 in
theorem sum_l4 {nx c0 m : Nat} {l : List B8} {s : List W32} {hp : H} {Q : Exit → S → Prop} (hm : m ≤ 2) (hll : l.length = 128) (hs : s.length = 8) {c1 id3 id5 : Nat} (hne : id5 ≠ id3) (hc : c0 ≤ c1) (_ : id5 < c1) (hid3 : id3 < c1) (hol : hp id5 = some (.cells (c8 l) true))
    (hQ : ∀ k z, Q .normal { fr := [(2, .op nx 0), (3, .op id3 0), (5, .op id5 0), (6, .i ((64 * m : Nat) : Int)), (8, .i ((64 * m : Nat) : Int)), (49, z)], hp := upd hp id3 (.cells (c32 (ab s l m)) true), nx := k, cx := cxR c1 m + 3 }) :
    ∀ n0, Awp Tryd.prog GLh Tryd.f74.ntmps (cr (cl (cr (cr (cr (cr (cr (cr (cr (cr (cr (bodyOf Tryd.f74)))))))))))) { fr := [(2, .op nx 0), (3, .op id3 0), (5, .op id5 0), (6, .i ((64 * m : Nat) : Int)), (8, .i 0)], hp := upd hp id3 (.cells (c32 s) true), nx := n0, cx := c0 } Q := by
  intro n0
  refine awp_blockN 4 rfl rfl ?_
  refine awp_loopP (fun k : Nat => { fr := [(2, .op nx 0), (3, .op id3 0), (5, .op id5 0), (6, .i ((64 * m : Nat) : Int)), (8, .i ((64 * k : Nat) : Int))], hp := upd hp id3 (.cells (c32 (ab s l k)) true), nx := 0, cx := cxR c1 k }) (fun k => k ≤ m) (fun k => m - k) rfl ⟨0, by omega, sub_same rfl rfl hc⟩ ?_
  intro k hk n
  have hcx := cxR_le c1 k
  have hl : (ab s l k).length = 8 := by rw [ab_len, hs]
  have hne' : (id5 = id3) = False := eq_false hne
  refine awp_seqP rfl ?_
  refine awp_seqP rfl ?_
  refine awp_regP (Γ := noEnv) [2, 3, 5, 6, 8, 49] (noEnv_ok _ _) rfl rfl rfl (fun K hK => ?_)
  simp (failIfUnchanged := false) (disch := omega) only [Tryd.f74, go_sem, Nat.reduceAdd, ↓reduceIte]
  refine hK _ ?_
  repeat (first | with_reducible refine nx_then ?_ | with_reducible refine nx_blk ?_ | with_reducible refine nx_loop ?_ | with_reducible refine nx_ex_then ?_ | with_reducible refine nx_ex_loop ?_ | with_reducible refine nx_ex_blk ?_ | with_reducible refine nx_ret_then ?_ | with_reducible refine nx_ret_blk ?_ | with_reducible refine nx_ret_loop ?_)
  refine awp_ifN (((64 * k : Nat) : Int) < ((64 * m : Nat) : Int)) (.tmp 49) rfl rfl rfl (fun h => ?_) (fun h => ?_)
  · refine awp_skipP rfl ?_
    repeat (first | with_reducible refine nx_then ?_ | with_reducible refine nx_blk ?_ | with_reducible refine nx_loop ?_ | with_reducible refine nx_ex_then ?_ | with_reducible refine nx_ex_loop ?_ | with_reducible refine nx_ex_blk ?_ | with_reducible refine nx_ret_then ?_ | with_reducible refine nx_ret_blk ?_ | with_reducible refine nx_ret_loop ?_)
    refine awp_seqP rfl ?_
    refine awp_blockN 5 rfl rfl ?_
    have e1 : (((64 * k : Nat) : Int) + 64).toNat = 64 * k + 64 := by omega
    have e2 : 64 * k + 64 - 64 * k = 64 := by omega
    have htl : ((l.drop (64 * k)).take 64).length = 64 := by rw [List.length_take, List.length_drop]; omega
    refine awp_regP (Γ := envL [(90, .heap mixG)]) [2, 3, 5, 6, 8] (envM_ok) rfl rfl rfl (fun K hK => ?_)
    simp (failIfUnchanged := false) (disch := omega) only [Tryd.f74, go_sem, Nat.reduceAdd, Nat.reduceLeDiff, ↓reduceIte, W_eq, e1, e2, hne', hol, mixG_S, mixO_c, bytesOf_os, byO_c, notId_os, c8_drop, c8_take, c8_len, hll, un8_c8, un32_c32, htl, hl, Int.toNat_natCast]
    refine hK _ ?_
    repeat (first | with_reducible refine nx_then ?_ | with_reducible refine nx_blk ?_ | with_reducible refine nx_loop ?_ | with_reducible refine nx_ex_then ?_ | with_reducible refine nx_ex_loop ?_ | with_reducible refine nx_ex_blk ?_ | with_reducible refine nx_ret_then ?_ | with_reducible refine nx_ret_blk ?_ | with_reducible refine nx_ret_loop ?_)
    refine awp_regP (Γ := noEnv) [2, 3, 5, 6, 8] (noEnv_ok _ _) rfl rfl rfl (fun K hK => ?_)
    simp (failIfUnchanged := false) (disch := omega) only [Tryd.f74, go_sem, Nat.reduceAdd, ↓reduceIte, W_eq]
    refine hK _ ?_
    repeat (first | with_reducible refine nx_then ?_ | with_reducible refine nx_blk ?_ | with_reducible refine nx_loop ?_ | with_reducible refine nx_ex_then ?_ | with_reducible refine nx_ex_loop ?_ | with_reducible refine nx_ex_blk ?_ | with_reducible refine nx_ret_then ?_ | with_reducible refine nx_ret_blk ?_ | with_reducible refine nx_ret_loop ?_)
    exact ⟨k + 1, by omega, by omega, sub_same (by simp only [List.cons.injEq, Prod.mk.injEq, AV.i.injEq, true_and, and_true]; omega) (by simp only [ab]) (by simp only [cxR]; omega)⟩
  · refine awp_exitN 4 rfl rfl ?_
    repeat (first | with_reducible refine nx_then ?_ | with_reducible refine nx_blk ?_ | with_reducible refine nx_loop ?_ | with_reducible refine nx_ex_then ?_ | with_reducible refine nx_ex_loop ?_ | with_reducible refine nx_ex_blk ?_ | with_reducible refine nx_ret_then ?_ | with_reducible refine nx_ret_blk ?_ | with_reducible refine nx_ret_loop ?_)
    obtain rfl : k = m := by omega
    exact hQ _ _
end Go.AX

namespace Go.AX
open Go Go.Proofs

theorem sumL_eq (b : List B8) : sumL b = ob (ab (ab S0 b (b.length / 64)) (tl (BitVec.ofInt 64 (b.length : Int) * 8#64) (en (b.drop (64 * (b.length / 64)))) (tl0 (b.drop (64 * (b.length / 64)))) 8) (en (b.drop (64 * (b.length / 64))) / 64)) 8 := by
  simp (failIfUnchanged := false) only [sumL]

set_option maxHeartbeats 4000000 in
theorem sum_l6 {nx c0 c1 id9 : Nat} {s : List W32} {hp : H} {Q : Exit → S → Prop} (hs : s.length = 8) (hc : c0 ≤ c1)
    (hQ : ∀ m z, Q .normal { fr := [(2, .op nx 0), (9, .op id9 0), (57, .agg (c32 s)), (58, .i ((8 : Nat) : Int)), (59, z)], hp := upd hp id9 (.cells (c8 (ob s 8)) true), nx := m, cx := c1 + 100 * 8 + 1 }) :
    ∀ n0, Awp Tryd.prog GLh Tryd.f74.ntmps (cr (cl (cr (cr (cr (cr (cr (cr (cr (cr (cr (cr (cr (bodyOf Tryd.f74)))))))))))))) { fr := [(2, .op nx 0), (9, .op id9 0), (57, .agg (c32 s)), (58, .i 0)], hp := upd hp id9 (.cells (c8 (ob s 0)) true), nx := n0, cx := c0 } Q := by
  intro n0
  refine awp_blockN 6 rfl rfl ?_
  refine awp_loopP (fun k : Nat => { fr := [(2, .op nx 0), (9, .op id9 0), (57, .agg (c32 s)), (58, .i k)], hp := upd hp id9 (.cells (c8 (ob s k)) true), nx := 0, cx := c1 + 100 * k }) (fun k => k ≤ 8) (fun k => 8 - k) rfl ⟨0, by omega, sub_same rfl rfl hc⟩ ?_
  intro k hk m
  have hl : (ob s k).length = 32 := ob_len s k
  refine awp_seqP rfl ?_
  refine awp_regP (Γ := noEnv) [2, 9, 57, 58, 59] (noEnv_ok _ _) rfl rfl rfl (fun K hK => ?_)
  simp (failIfUnchanged := false) (disch := omega) only [Tryd.f74, go_sem, ↓reduceIte]
  refine hK _ ?_
  repeat (first | with_reducible refine nx_then ?_ | with_reducible refine nx_blk ?_ | with_reducible refine nx_loop ?_ | with_reducible refine nx_ex_then ?_ | with_reducible refine nx_ex_loop ?_ | with_reducible refine nx_ex_blk ?_ | with_reducible refine nx_ret_then ?_ | with_reducible refine nx_ret_blk ?_ | with_reducible refine nx_ret_loop ?_)
  refine awp_seqP rfl ?_
  refine awp_ifN ((k : Int) < 8) (.tmp 59) rfl rfl rfl (fun h => ?_) (fun h => ?_)
  · refine awp_skipP rfl ?_
    repeat (first | with_reducible refine nx_then ?_ | with_reducible refine nx_blk ?_ | with_reducible refine nx_loop ?_ | with_reducible refine nx_ex_then ?_ | with_reducible refine nx_ex_loop ?_ | with_reducible refine nx_ex_blk ?_ | with_reducible refine nx_ret_then ?_ | with_reducible refine nx_ret_blk ?_ | with_reducible refine nx_ret_loop ?_)
    refine awp_seqP rfl ?_
    refine awp_blockN 7 rfl rfl ?_
    refine awp_seqP rfl ?_
    refine awp_regP (Γ := noEnv) [2, 9, 10, 11, 57, 58] (noEnv_ok _ _) rfl rfl rfl (fun K hK => ?_)
    simp (failIfUnchanged := false) (disch := omega) only [Tryd.f74, go_sem, Nat.reduceAdd, ↓reduceIte, c32_head, Int.toNat_natCast]
    refine hK _ ?_
    repeat (first | with_reducible refine nx_then ?_ | with_reducible refine nx_blk ?_ | with_reducible refine nx_loop ?_ | with_reducible refine nx_ex_then ?_ | with_reducible refine nx_ex_loop ?_ | with_reducible refine nx_ex_blk ?_ | with_reducible refine nx_ret_then ?_ | with_reducible refine nx_ret_blk ?_ | with_reducible refine nx_ret_loop ?_)
    have e0 : ((4 * (k : Int))).toNat = 4 * k := by omega
    have e1 : ((4 * (k : Int) + 1)).toNat = 4 * k + 1 := by omega
    have e2 : ((4 * (k : Int) + 2)).toNat = 4 * k + 2 := by omega
    have e3 : ((4 * (k : Int) + 3)).toNat = 4 * k + 3 := by omega
    refine awp_regP (Γ := noEnv) [2, 9, 57, 58] (noEnv_ok _ _) rfl rfl rfl (fun K hK => ?_)
    simp (failIfUnchanged := false) (disch := omega) only [Tryd.f74, go_sem, Nat.reduceAdd, Nat.reduceLeDiff, Int.reduceLE, Int.reduceLT, BitVec.reduceOfInt, BitVec.reduceToNat, ↓reduceIte, W_eq, c8_len, c8_set, List.length_set, hl, e0, e1, e2, e3]
    refine hK _ ?_
    repeat (first | with_reducible refine nx_then ?_ | with_reducible refine nx_blk ?_ | with_reducible refine nx_loop ?_ | with_reducible refine nx_ex_then ?_ | with_reducible refine nx_ex_loop ?_ | with_reducible refine nx_ex_blk ?_ | with_reducible refine nx_ret_then ?_ | with_reducible refine nx_ret_blk ?_ | with_reducible refine nx_ret_loop ?_)
    refine awp_regP (Γ := noEnv) [2, 9, 57, 58] (noEnv_ok _ _) rfl rfl rfl (fun K hK => ?_)
    simp (failIfUnchanged := false) (disch := omega) only [Tryd.f74, go_sem, Nat.reduceAdd, ↓reduceIte, W_eq]
    refine hK _ ?_
    repeat (first | with_reducible refine nx_then ?_ | with_reducible refine nx_blk ?_ | with_reducible refine nx_loop ?_ | with_reducible refine nx_ex_then ?_ | with_reducible refine nx_ex_loop ?_ | with_reducible refine nx_ex_blk ?_ | with_reducible refine nx_ret_then ?_ | with_reducible refine nx_ret_blk ?_ | with_reducible refine nx_ret_loop ?_)
    exact ⟨k + 1, by omega, by omega, sub_same (by simp only [Int.natCast_add, Int.natCast_one]) (by simp only [ob]) (by simp only; omega)⟩
  · refine awp_exitN 6 rfl rfl ?_
    repeat (first | with_reducible refine nx_then ?_ | with_reducible refine nx_blk ?_ | with_reducible refine nx_loop ?_ | with_reducible refine nx_ex_then ?_ | with_reducible refine nx_ex_loop ?_ | with_reducible refine nx_ex_blk ?_ | with_reducible refine nx_ret_then ?_ | with_reducible refine nx_ret_blk ?_ | with_reducible refine nx_ret_loop ?_)
    obtain rfl : k = 8 := by omega
    exact hQ _ _

set_option maxHeartbeats 4000000 in
theorem sum_t2 {nx id3 id5 m : Nat} {r : List B8} {s : List W32} {n : BitVec 64} {l : List B8} {o2 : List AV} {c0 c1 : Nat} (hr : r.length < 64) (hm : m ≤ 2) (hm1 : 1 ≤ m) (hs : s.length = 8) (hl : l.length = 128)
    (h1 : nx < id3) (h2 : id3 < id5) (h3 : id5 < c1) (hc : c0 ≤ c1) (ho2 : o2 = c8 (List.replicate 32 0#8)) (n0 : Nat) :
    Awp Tryd.prog GLh Tryd.f74.ntmps (cr (cr (cr (cr (cr (cr (cr (bodyOf Tryd.f74)))))))) { fr := [(0, .sl r.length (c8 r)), (2, .op nx 0), (3, .op id3 0), (4, .w64 n), (5, .op id5 0), (6, .i ((64 * m : Nat) : Int))], hp := upd (upd (upd (fun _ => none) nx (.cells o2 true)) id3 (.cells (c32 s) true)) id5 (.cells (c8 l) true), nx := n0, cx := c0 }
      (pureQ Tryd.prog Tryd.f74.results.toList (.agg (c8 (ob (ab s (tl n (64 * m) (l.set r.length 0x80#8) 8) m) 8)))) := by
  subst ho2
  have n53 : (id5 = id3) = False := eq_false (by omega)
  have n35 : (id3 = id5) = False := eq_false (by omega)
  have n2_3 : (nx = id3) = False := eq_false (by omega)
  have n2_5 : (nx = id5) = False := eq_false (by omega)
  refine awp_seqP rfl ?_
  refine awp_regP (Γ := noEnv) [2, 3, 4, 5, 6] (noEnv_ok _ _) rfl rfl rfl (fun K hK => ?_)
  simp (failIfUnchanged := false) (disch := omega) only [Tryd.f74, go_sem, Nat.reduceAdd, Nat.reduceLeDiff, Int.reduceLE, Int.reduceLT, BitVec.reduceOfInt, ↓reduceIte, c8_len, c8_set, hl, Int.toNat_natCast]
  refine hK _ ?_
  repeat (first | with_reducible refine nx_then ?_ | with_reducible refine nx_blk ?_ | with_reducible refine nx_loop ?_ | with_reducible refine nx_ex_then ?_ | with_reducible refine nx_ex_loop ?_ | with_reducible refine nx_ex_blk ?_ | with_reducible refine nx_ret_then ?_ | with_reducible refine nx_ret_blk ?_ | with_reducible refine nx_ret_loop ?_)
  refine awp_seqP rfl ?_
  refine awp_seqP rfl ?_
  refine awp_regP (Γ := noEnv) [2, 3, 4, 5, 6, 32] (noEnv_ok _ _) rfl rfl rfl (fun K hK => ?_)
  simp (failIfUnchanged := false) (disch := omega) only [Tryd.f74, go_sem, ↓reduceIte]
  refine hK _ ?_
  repeat (first | with_reducible refine nx_then ?_ | with_reducible refine nx_blk ?_ | with_reducible refine nx_loop ?_ | with_reducible refine nx_ex_then ?_ | with_reducible refine nx_ex_loop ?_ | with_reducible refine nx_ex_blk ?_ | with_reducible refine nx_ret_then ?_ | with_reducible refine nx_ret_blk ?_ | with_reducible refine nx_ret_loop ?_)
  simp (failIfUnchanged := false) only []
  refine sum_l2 (e := 64 * m) (c1 := c1 + 10) (by omega) (by simp only [List.length_set]; exact hl) (by omega) (by omega) (fun m2 z2 => ?_) _
  repeat (first | with_reducible refine nx_then ?_ | with_reducible refine nx_blk ?_ | with_reducible refine nx_loop ?_ | with_reducible refine nx_ex_then ?_ | with_reducible refine nx_ex_loop ?_ | with_reducible refine nx_ex_blk ?_ | with_reducible refine nx_ret_then ?_ | with_reducible refine nx_ret_blk ?_ | with_reducible refine nx_ret_loop ?_)
  refine awp_seqP rfl ?_
  refine awp_seqP rfl ?_
  refine awp_regP (Γ := noEnv) [2, 3, 5, 6, 8] (noEnv_ok _ _) rfl rfl rfl (fun K hK => ?_)
  simp (failIfUnchanged := false) (disch := omega) only [Tryd.f74, go_sem, Nat.reduceMul, ↓reduceIte]
  refine hK _ ?_
  repeat (first | with_reducible refine nx_then ?_ | with_reducible refine nx_blk ?_ | with_reducible refine nx_loop ?_ | with_reducible refine nx_ex_then ?_ | with_reducible refine nx_ex_loop ?_ | with_reducible refine nx_ex_blk ?_ | with_reducible refine nx_ret_then ?_ | with_reducible refine nx_ret_blk ?_ | with_reducible refine nx_ret_loop ?_)
  rw [upd_swap _ (by omega : id3 ≠ id5)]
  refine sum_l4 (c1 := c1 + 10 + 1000) (l := tl n (64 * m) (l.set r.length 0x80#8) 8) hm (by rw [tl_len, List.length_set]; exact hl) hs (by omega) (by omega) (by omega) (by omega) (by simp only [upd_apply, ↓reduceIte]) (fun m3 z3 => ?_) _
  repeat (first | with_reducible refine nx_then ?_ | with_reducible refine nx_blk ?_ | with_reducible refine nx_loop ?_ | with_reducible refine nx_ex_then ?_ | with_reducible refine nx_ex_loop ?_ | with_reducible refine nx_ex_blk ?_ | with_reducible refine nx_ret_then ?_ | with_reducible refine nx_ret_blk ?_ | with_reducible refine nx_ret_loop ?_)
  have hcx := cxR_le (c1 + 10 + 1000) m
  have hab : (ab s (tl n (64 * m) (l.set r.length 0x80#8) 8) m).length = 8 := by rw [ab_len, hs]
  generalize ab s (tl n (64 * m) (l.set r.length 0x80#8) 8) m = z at hab ⊢
  generalize hi9 : cxR (c1 + 10 + 1000) m + 3 = id9
  have n3_9 : (id3 = id9) = False := eq_false (by omega)
  have n2_9 : (nx = id9) = False := eq_false (by omega)
  have hz8 := c32_take_all z 8 (by omega)
  refine awp_seqP rfl ?_
  refine awp_regP (Γ := noEnv) [2, 3, 9] (noEnv_ok _ _) rfl rfl rfl (fun K hK => ?_)
  simp (failIfUnchanged := false) (disch := omega) only [Tryd.f74, go_sem, ↓reduceIte, c8_rep]
  refine hK _ ?_
  repeat (first | with_reducible refine nx_then ?_ | with_reducible refine nx_blk ?_ | with_reducible refine nx_loop ?_ | with_reducible refine nx_ex_then ?_ | with_reducible refine nx_ex_loop ?_ | with_reducible refine nx_ex_blk ?_ | with_reducible refine nx_ret_then ?_ | with_reducible refine nx_ret_blk ?_ | with_reducible refine nx_ret_loop ?_)
  refine awp_seqP rfl ?_
  refine awp_seqP rfl ?_
  refine awp_regP (Γ := noEnv) [2, 9, 57, 58] (noEnv_ok _ _) rfl rfl rfl (fun K hK => ?_)
  simp (failIfUnchanged := false) (disch := omega) only [Tryd.f74, go_sem, Nat.reduceAdd, Nat.reduceLeDiff, ↓reduceIte, n3_9, c32_len, hab, hz8]
  refine hK _ ?_
  repeat (first | with_reducible refine nx_then ?_ | with_reducible refine nx_blk ?_ | with_reducible refine nx_loop ?_ | with_reducible refine nx_ex_then ?_ | with_reducible refine nx_ex_loop ?_ | with_reducible refine nx_ex_blk ?_ | with_reducible refine nx_ret_then ?_ | with_reducible refine nx_ret_blk ?_ | with_reducible refine nx_ret_loop ?_)
  refine sum_l6 (c1 := id9 + 100) hab (by omega) (fun m4 z4 => ?_) _
  repeat (first | with_reducible refine nx_then ?_ | with_reducible refine nx_blk ?_ | with_reducible refine nx_loop ?_ | with_reducible refine nx_ex_then ?_ | with_reducible refine nx_ex_loop ?_ | with_reducible refine nx_ex_blk ?_ | with_reducible refine nx_ret_then ?_ | with_reducible refine nx_ret_blk ?_ | with_reducible refine nx_ret_loop ?_)
  have hob := ob_len z 8
  have ho32 := c8_take_all (ob z 8) 32 (by omega)
  have hcl : (c8 (ob z 8)).length = 32 := (c8_len _).trans hob
  have hrl : (c8 (List.replicate 32 0#8)).length = 32 := (c8_len _).trans List.length_replicate
  refine awp_seqP rfl ?_
  refine awp_regP (Γ := noEnv) [2] (noEnv_ok _ _) rfl rfl rfl (fun K hK => ?_)
  simp (failIfUnchanged := false) (disch := omega) only [Tryd.f74, go_sem, Nat.reduceAdd, Nat.reduceMul, Nat.reduceLeDiff, ↓reduceIte, n2_9, n2_3, n2_5, hcl, hrl, storeL_sp, splice_all]
  refine hK _ ?_
  repeat (first | with_reducible refine nx_then ?_ | with_reducible refine nx_blk ?_ | with_reducible refine nx_loop ?_ | with_reducible refine nx_ex_then ?_ | with_reducible refine nx_ex_loop ?_ | with_reducible refine nx_ex_blk ?_ | with_reducible refine nx_ret_then ?_ | with_reducible refine nx_ret_blk ?_ | with_reducible refine nx_ret_loop ?_)
  refine awp_retP rfl ?_
  simp (failIfUnchanged := false) only [pureQ, resA, resAL, resA1, Tryd.f74, ldV, imm_c8, ho32, hcl, go_sem, Nat.reduceLeDiff, ↓reduceIte]

set_option maxHeartbeats 4000000 in
theorem sum_ok : PureOK Tryd.prog GLh 74 sumG := by
  refine pure_of_awp Tryd.func74 (bodyOf_some rfl) ?_
  intro args r hg
  unfold sumG at hg
  split at hg
  · rename_i n xs
    replace hg := obind_inv hg; obtain ⟨b, hb, hg⟩ := hg
    replace hg := guardO_inv hg; obtain ⟨hn, hg⟩ := hg
    obtain rfl := Option.some.inj hg
    have := un8_inv _ hb; subst this
    subst hn
    refine ⟨Nat.le_of_ble_eq_true rfl, fun nx => ?_⟩
    refine awp_seqP rfl ?_
    refine awp_regP (Γ := noEnv) [0, 2] (noEnv_ok _ _) rfl rfl rfl (fun K hK => ?_)
    simp (failIfUnchanged := false) (disch := omega) only [Tryd.f74, go_sem, ↓reduceIte, c8_rep]
    refine hK _ ?_
    repeat (first | with_reducible refine nx_then ?_ | with_reducible refine nx_blk ?_ | with_reducible refine nx_loop ?_ | with_reducible refine nx_ex_then ?_ | with_reducible refine nx_ex_loop ?_ | with_reducible refine nx_ex_blk ?_ | with_reducible refine nx_ret_then ?_ | with_reducible refine nx_ret_blk ?_ | with_reducible refine nx_ret_loop ?_)
    refine awp_seqP rfl ?_
    refine awp_regP (Γ := noEnv) [0, 2, 3] (noEnv_ok _ _) rfl rfl rfl (fun K hK => ?_)
    simp (failIfUnchanged := false) (disch := omega) only [Tryd.f74, go_sem, Nat.reduceAdd, Nat.reduceLeDiff, Int.reduceLE, Int.reduceLT, BitVec.reduceOfInt, ↓reduceIte]
    refine hK _ ?_
    repeat (first | with_reducible refine nx_then ?_ | with_reducible refine nx_blk ?_ | with_reducible refine nx_loop ?_ | with_reducible refine nx_ex_then ?_ | with_reducible refine nx_ex_loop ?_ | with_reducible refine nx_ex_blk ?_ | with_reducible refine nx_ret_then ?_ | with_reducible refine nx_ret_blk ?_ | with_reducible refine nx_ret_loop ?_)
    refine awp_seqP rfl ?_
    refine awp_regP (Γ := noEnv) [0, 2, 3, 4] (noEnv_ok _ _) rfl rfl rfl (fun K hK => ?_)
    simp (failIfUnchanged := false) (disch := omega) only [Tryd.f74, go_sem, Nat.reduceAdd, Int.reduceLE, Int.reduceLT, BitVec.reduceOfInt, ↓reduceIte]
    refine hK _ ?_
    repeat (first | with_reducible refine nx_then ?_ | with_reducible refine nx_blk ?_ | with_reducible refine nx_loop ?_ | with_reducible refine nx_ex_then ?_ | with_reducible refine nx_ex_loop ?_ | with_reducible refine nx_ex_blk ?_ | with_reducible refine nx_ret_then ?_ | with_reducible refine nx_ret_blk ?_ | with_reducible refine nx_ret_loop ?_)
    refine awp_seqP rfl ?_
    simp (failIfUnchanged := false) only []
    refine sum_l1 (o2 := .cells (c8 (List.replicate 32 0#8)) true) (by omega) (fun m1 z1 => ?_) _
    repeat (first | with_reducible refine nx_then ?_ | with_reducible refine nx_blk ?_ | with_reducible refine nx_loop ?_ | with_reducible refine nx_ex_then ?_ | with_reducible refine nx_ex_loop ?_ | with_reducible refine nx_ex_blk ?_ | with_reducible refine nx_ret_then ?_ | with_reducible refine nx_ret_blk ?_ | with_reducible refine nx_ret_loop ?_)
    have hcx := cxR_le (nx + 100) (b.length / 64)
    have hrl : (b.drop (64 * (b.length / 64))).length = b.length - 64 * (b.length / 64) := List.length_drop ..
    have hr : (b.drop (64 * (b.length / 64))).length < 64 := by omega
    have hs : (ab S0 b (b.length / 64)).length = 8 := by rw [ab_len, S0_len]
    rw [← hrl]
    rw [sumL_eq]
    generalize b.drop (64 * (b.length / 64)) = r at hr
    generalize ab S0 b (b.length / 64) = s0 at hs
    generalize BitVec.ofInt 64 (b.length : Int) * 8#64 = n64
    generalize hid5 : cxR (nx + 100) (b.length / 64) + 3 = id5
    have h5 : nx + 100 < id5 := by omega
    clear hid5 hcx hrl hb
    refine awp_seqP rfl ?_
    refine awp_regP (Γ := noEnv) [0, 2, 3, 4, 5] (noEnv_ok _ _) rfl rfl rfl (fun K hK => ?_)
    simp (failIfUnchanged := false) (disch := omega) only [Tryd.f74, go_sem, ↓reduceIte, c8_rep]
    refine hK _ ?_
    repeat (first | with_reducible refine nx_then ?_ | with_reducible refine nx_blk ?_ | with_reducible refine nx_loop ?_ | with_reducible refine nx_ex_then ?_ | with_reducible refine nx_ex_loop ?_ | with_reducible refine nx_ex_blk ?_ | with_reducible refine nx_ret_then ?_ | with_reducible refine nx_ret_blk ?_ | with_reducible refine nx_ret_loop ?_)
    refine awp_seqP rfl ?_
    refine awp_regP (Γ := noEnv) [0, 2, 3, 4, 5, 6] (noEnv_ok _ _) rfl rfl rfl (fun K hK => ?_)
    simp (failIfUnchanged := false) (disch := omega) only [Tryd.f74, go_sem, ↓reduceIte]
    refine hK _ ?_
    repeat (first | with_reducible refine nx_then ?_ | with_reducible refine nx_blk ?_ | with_reducible refine nx_loop ?_ | with_reducible refine nx_ex_then ?_ | with_reducible refine nx_ex_loop ?_ | with_reducible refine nx_ex_blk ?_ | with_reducible refine nx_ret_then ?_ | with_reducible refine nx_ret_blk ?_ | with_reducible refine nx_ret_loop ?_)
    refine awp_seqP rfl ?_
    refine awp_seqP rfl ?_
    have hcr : (c8 r).length = r.length := c8_len r
    have h128 : (c8 (List.replicate 128 0#8)).length = 128 := (c8_len _).trans List.length_replicate
    refine awp_regP (Γ := noEnv) [0, 2, 3, 4, 5, 6, 28] (noEnv_ok _ _) rfl rfl rfl (fun K hK => ?_)
    simp (failIfUnchanged := false) (disch := omega) only [Tryd.f74, go_sem, Nat.reduceAdd, Nat.reduceSub, Nat.reduceLeDiff, Int.reduceLE, Int.reduceToNat, ↓reduceIte, hcr, h128, c8_take, c8_splice, Int.toNat_natCast]
    refine hK _ ?_
    repeat (first | with_reducible refine nx_then ?_ | with_reducible refine nx_blk ?_ | with_reducible refine nx_loop ?_ | with_reducible refine nx_ex_then ?_ | with_reducible refine nx_ex_loop ?_ | with_reducible refine nx_ex_blk ?_ | with_reducible refine nx_ret_then ?_ | with_reducible refine nx_ret_blk ?_ | with_reducible refine nx_ret_loop ?_)
    simp (failIfUnchanged := false) only []
    have htk : List.take (min r.length 128) r = r := List.take_of_length_le (by omega)
    have hsl : (splice8 (List.replicate 128 0#8) 0 r).length = 128 := by
      simp (failIfUnchanged := false) only [splice8, List.length_append, List.length_take, List.length_drop, List.length_replicate]; omega
    refine awp_ifN ((56 : Int) ≤ ((min r.length 128 : Nat) : Int)) (.tmp 28) rfl rfl rfl (fun h => ?_) (fun h => ?_)
    · have he : en r = 64 * 2 := by unfold en; rw [if_pos (by omega)]
      refine awp_regP (Γ := noEnv) [0, 2, 3, 4, 5, 6] (noEnv_ok _ _) rfl rfl rfl (fun K hK => ?_)
      simp (failIfUnchanged := false) (disch := omega) only [Tryd.f74, go_sem, ↓reduceIte]
      refine hK _ ?_
      repeat (first | with_reducible refine nx_then ?_ | with_reducible refine nx_blk ?_ | with_reducible refine nx_loop ?_ | with_reducible refine nx_ex_then ?_ | with_reducible refine nx_ex_loop ?_ | with_reducible refine nx_ex_blk ?_ | with_reducible refine nx_ret_then ?_ | with_reducible refine nx_ret_blk ?_ | with_reducible refine nx_ret_loop ?_)
      rw [he, Nat.mul_div_cancel_left _ (by omega), tl0, htk]
      exact sum_t2 (m := 2) (c1 := id5 + 100) hr (by omega) (by omega) hs hsl (by omega) (by omega) (by omega) (by omega) rfl _
    · have he : en r = 64 * 1 := by unfold en; rw [if_neg (by omega)]
      refine awp_skipP rfl ?_
      repeat (first | with_reducible refine nx_then ?_ | with_reducible refine nx_blk ?_ | with_reducible refine nx_loop ?_ | with_reducible refine nx_ex_then ?_ | with_reducible refine nx_ex_loop ?_ | with_reducible refine nx_ex_blk ?_ | with_reducible refine nx_ret_then ?_ | with_reducible refine nx_ret_blk ?_ | with_reducible refine nx_ret_loop ?_)
      rw [he, Nat.mul_div_cancel_left _ (by omega), tl0, htk]
      refine awp_sub (t := _) (sum_t2 (m := 1) (c1 := id5 + 100) (n0 := id5 + 1 + 1) (c0 := id5 + 1 + 1 + 4) hr (by omega) (by omega) hs hsl (by omega) (by omega) (by omega) (by omega) rfl) ⟨fun k => ?_, fun _ _ h => h, Nat.le_refl _⟩ rfl
      have := look_keepF [0, 2, 3, 4, 5, 6] [(0, .sl r.length (c8 r)), (2, .op nx 0), (3, .op (nx + 1 + 1) 0), (4, .w64 n64), (5, .op id5 0), (6, .i 64), (28, .b (decide ((56 : Int) ≤ ((min r.length 128 : Nat) : Int))))] k
      exact this
  · cases hg
end Go.AX

namespace Go.AX
open Go Go.Proofs

theorem turn_ok (GL : Nat → Option (List AV)) : PureOK Tryd.prog GL 77 turnG := by
  refine pure_of_awp Tryd.func77 (bodyOf_some rfl) ?_
  intro args r hg
  unfold turnG at hg
  split at hg
  · rename_i x n
    split at hg
    · rename_i hn
      obtain rfl := Option.some.inj hg
      refine ⟨Nat.le_of_ble_eq_true rfl, fun nx => ?_⟩
      refine awp_seqP rfl ?_
      refine awp_regP (Γ := noEnv) [0, 1] (noEnv_ok _ _) rfl rfl rfl (fun K hK => ?_)
      simp (failIfUnchanged := false) (disch := omega) only [Tryd.f77, go_sem, Int.reduceLE, Int.reduceLT, BitVec.reduceOfInt, ↓reduceIte]
      refine hK _ ?_
      repeat (first | with_reducible refine nx_then ?_ | with_reducible refine nx_blk ?_ | with_reducible refine nx_loop ?_ | with_reducible refine nx_ex_then ?_ | with_reducible refine nx_ex_loop ?_ | with_reducible refine nx_ex_blk ?_ | with_reducible refine nx_ret_then ?_ | with_reducible refine nx_ret_blk ?_ | with_reducible refine nx_ret_loop ?_)
      refine awp_seqP rfl ?_
      refine awp_drwP (Γ := noEnv) (fun _ => 0) [4] mixed (noEnv_ok _ _) rfl rfl rfl (by kernel_rfl) (fun K hK => ?_)
      simp (failIfUnchanged := false) (disch := omega) only [Tryd.f77, go_sem, Nat.reduceAdd, ↓reduceIte, W_eq]
      refine hK _ ?_
      repeat (first | with_reducible refine nx_then ?_ | with_reducible refine nx_blk ?_ | with_reducible refine nx_loop ?_ | with_reducible refine nx_ex_then ?_ | with_reducible refine nx_ex_loop ?_ | with_reducible refine nx_ex_blk ?_ | with_reducible refine nx_ret_then ?_ | with_reducible refine nx_ret_blk ?_ | with_reducible refine nx_ret_loop ?_)
      refine awp_retP rfl ?_
      simp (failIfUnchanged := false) only [pureQ, resA, resAL, resA1, Tryd.f77, go_sem, ↓reduceIte, immF]
    · cases hg
  · cases hg

def tableG : List AV → Option AV
  | [] => some (.agg (c32 KT))
  | _ => none
theorem c32_noOwn (l : List W32) : noOwn (c32 l) = true := by
  simp (failIfUnchanged := false) only [noOwn, c32, List.all_eq_true, List.mem_map]
  rintro _ ⟨x, _, rfl⟩; rfl
theorem imm_c32 (hp : H) (l : List W32) : immF 4 hp (.agg (c32 l)) = some (.agg (c32 l)) := by
  show obind (immL (immF 3 hp) (c32 l)) _ = _
  simp (failIfUnchanged := false) only [immL, c32_noOwn, if_true]; rfl

/-- A slice of bytes that is one's own, as a function gives it back. -/
def padz (b : List B8) : Nat → List B8
  | 0 => b ++ [0x80#8]
  | k + 1 => padz b k ++ [0#8]
def padn (n : BitVec 64) (l : List B8) : Nat → List B8
  | 0 => l
  | k + 1 => padn n l k ++ [(n >>> (8 * (7 - k))).setWidth 8]
def padk (b : List B8) : Nat := (119 - b.length % 64) % 64
def padL (b : List B8) : List B8 := padn (BitVec.ofInt 64 (b.length : Int) * 8#64) (padz b (padk b)) 8
theorem padz_len (b : List B8) (k : Nat) : (padz b k).length = b.length + 1 + k := by
  induction k with
  | zero => simp [padz]
  | succ k ih => simp only [padz, List.length_append, ih, List.length_cons, List.length_nil]; omega
theorem padn_len (n : BitVec 64) (l : List B8) (k : Nat) : (padn n l k).length = l.length + k := by
  induction k with
  | zero => rfl
  | succ k ih => simp only [padn, List.length_append, ih, List.length_cons, List.length_nil]; omega
def padG : List AV → Option (Nat × Nat × List AV)
  | [.sl n xs] => obind (un8 xs) fun b => guardO (b.length = n ∧ n ≤ 1000000000) (some ((padL b).length, 1, c8 (padL b)))
  | _ => none
theorem one8 (x : B8) : [AV.w8 x] = c8 [x] := (rfl)
theorem padk_step (b : List B8) (k : Nat) : (¬ (((b.length + 1 + k : Nat) : Int).tmod 64 = 56)) → k ≤ padk b → k < padk b := by
  intro h hk
  unfold padk at *
  rw [Int.tmod_eq_emod_of_nonneg (by omega)] at h
  omega
theorem padk_end (b : List B8) (k : Nat) : (((b.length + 1 + k : Nat) : Int).tmod 64 = 56) → k ≤ padk b → k = padk b := by
  intro h hk
  unfold padk at *
  rw [Int.tmod_eq_emod_of_nonneg (by omega)] at h
  omega
structure PS where
  k : Nat
  id : Nat
  c : Nat

set_option maxHeartbeats 4000000 in
theorem pad_l1 {GL : Nat → Option (List AV)} {id0 c0 : Nat} {b : List B8} {hp : H} {Q : Exit → S → Prop} (hid : id0 < c0) (hbig : b.length ≤ 1000000000) (hh : ∀ k o, upd (fun _ => none) id0 (.cells (c8 (padz b 0)) true) k = some o → hp k = some o)
    (hQ : ∀ id c m z1 z2, id < c → Q .normal { fr := [(0, .sl b.length (c8 b)), (3, .os id 0 (b.length + 1 + padk b) 1 true), (12, z1), (13, z2)], hp := upd (fun _ => none) id (.cells (c8 (padz b (padk b))) true), nx := m, cx := c }) :
    ∀ n0, Awp Tryd.prog GL Tryd.f76.ntmps (cl (cr (cr (bodyOf Tryd.f76)))) { fr := [(0, .sl b.length (c8 b)), (3, .os id0 0 (b.length + 1) 1 true)], hp := hp, nx := n0, cx := c0 } Q := by
  intro n0
  refine awp_blockN 0 rfl rfl ?_
  refine awp_loopP (fun p : PS => { fr := [(0, .sl b.length (c8 b)), (3, .os p.id 0 (b.length + 1 + p.k) 1 true)], hp := upd (fun _ => none) p.id (.cells (c8 (padz b p.k)) true), nx := 0, cx := p.c }) (fun p => p.k ≤ padk b ∧ p.id < p.c) (fun p => padk b - p.k) rfl ⟨⟨0, id0, c0⟩, ⟨Nat.zero_le _, hid⟩, ⟨fun _ => .inr rfl, hh, Nat.le_refl _⟩⟩ ?_
  rintro ⟨k, id, c⟩ ⟨hk, hid⟩ m
  simp only at hk hid ⊢
  have hl := padz_len b k
  have hpk : padk b < 64 := by unfold padk; omega
  refine awp_seqP rfl ?_
  refine awp_seqP rfl ?_
  refine awp_regP (Γ := noEnv) [0, 3, 12, 13] (noEnv_ok _ _) rfl rfl rfl (fun K hK => ?_)
  simp (failIfUnchanged := false) (disch := omega) only [Tryd.f76, go_sem, Nat.reduceAdd, Int.reduceEq, ↓reduceIte]
  refine hK _ ?_
  repeat (first | with_reducible refine nx_then ?_ | with_reducible refine nx_blk ?_ | with_reducible refine nx_loop ?_ | with_reducible refine nx_ex_then ?_ | with_reducible refine nx_ex_loop ?_ | with_reducible refine nx_ex_blk ?_ | with_reducible refine nx_ret_then ?_ | with_reducible refine nx_ret_blk ?_ | with_reducible refine nx_ret_loop ?_)
  refine awp_ifN (¬ (((b.length + 1 + k : Nat) : Int).tmod 64 = 56)) (.tmp 13) rfl rfl (by show AV.b (!decide _) = AV.b (decide _); rw [decide_not]) (fun h => ?_) (fun h => ?_)
  · refine awp_skipP rfl ?_
    repeat (first | with_reducible refine nx_then ?_ | with_reducible refine nx_blk ?_ | with_reducible refine nx_loop ?_ | with_reducible refine nx_ex_then ?_ | with_reducible refine nx_ex_loop ?_ | with_reducible refine nx_ex_blk ?_ | with_reducible refine nx_ret_then ?_ | with_reducible refine nx_ret_blk ?_ | with_reducible refine nx_ret_loop ?_)
    refine awp_blockN 1 rfl rfl ?_
    refine awp_regP (Γ := noEnv) [0, 3] (noEnv_ok _ _) rfl rfl rfl (fun K hK => ?_)
    simp (failIfUnchanged := false) (disch := omega) only [Tryd.f76, go_sem, Nat.reduceAdd, Nat.reduceLeDiff, Nat.reduceLT, Int.reduceLE, Int.reduceLT, BitVec.reduceOfInt, ↓reduceIte, nat_ne, sp1_8, one8, c8_len, c8_app, hl]
    refine hK _ ?_
    repeat (first | with_reducible refine nx_then ?_ | with_reducible refine nx_blk ?_ | with_reducible refine nx_loop ?_ | with_reducible refine nx_ex_then ?_ | with_reducible refine nx_ex_loop ?_ | with_reducible refine nx_ex_blk ?_ | with_reducible refine nx_ret_then ?_ | with_reducible refine nx_ret_blk ?_ | with_reducible refine nx_ret_loop ?_)
    refine ⟨⟨k + 1, _, _⟩, ⟨padk_step b k h hk, ?_⟩, ?_, ⟨fun _ => .inr rfl, fun j o h => ?_, Nat.le_refl _⟩⟩
    · simp only; omega
    · simp only; have := padk_step b k h hk; omega
    · simp only [upd_apply] at h ⊢
      split at h
      · rename_i e; rw [if_pos e]; exact h
      · cases h
  · refine awp_exitN 0 rfl rfl ?_
    repeat (first | with_reducible refine nx_then ?_ | with_reducible refine nx_blk ?_ | with_reducible refine nx_loop ?_ | with_reducible refine nx_ex_then ?_ | with_reducible refine nx_ex_loop ?_ | with_reducible refine nx_ex_blk ?_ | with_reducible refine nx_ret_then ?_ | with_reducible refine nx_ret_blk ?_ | with_reducible refine nx_ret_loop ?_)
    have := padk_end b k (Decidable.not_not.1 h) hk
    subst this
    exact hQ id _ _ _ _ (by omega)

set_option maxHeartbeats 4000000 in
theorem pad_l2 {GL : Nat → Option (List AV)} {id0 c0 : Nat} {l : List B8} {n : BitVec 64} {hp : H} {Q : Exit → S → Prop} (hid : id0 < c0) (hbig : l.length ≤ 2000000000) (hh : ∀ k o, upd (fun _ => none) id0 (.cells (c8 (padn n l 0)) true) k = some o → hp k = some o)
    (hQ : ∀ id c m z0 z1 z2, id < c → Q .normal { fr := [(3, .os id 0 (l.length + 8) 1 true), (4, .w64 n), (5, z0), (21, z1), (22, z2)], hp := upd (fun _ => none) id (.cells (c8 (padn n l 8)) true), nx := m, cx := c }) :
    ∀ n0, Awp Tryd.prog GL Tryd.f76.ntmps (cr (cl (cr (cr (cr (cr (bodyOf Tryd.f76))))))) { fr := [(3, .os id0 0 l.length 1 true), (4, .w64 n), (5, .i 7)], hp := hp, nx := n0, cx := c0 } Q := by
  intro n0
  refine awp_blockN 2 rfl rfl ?_
  refine awp_loopP (fun p : PS => { fr := [(3, .os p.id 0 (l.length + p.k) 1 true), (4, .w64 n), (5, .i (7 - (p.k : Int)))], hp := upd (fun _ => none) p.id (.cells (c8 (padn n l p.k)) true), nx := 0, cx := p.c }) (fun p => p.k ≤ 8 ∧ p.id < p.c) (fun p => 8 - p.k) rfl ⟨⟨0, id0, c0⟩, ⟨Nat.zero_le _, hid⟩, ⟨fun _ => .inr rfl, hh, Nat.le_refl _⟩⟩ ?_
  rintro ⟨k, id, c⟩ ⟨hk, hid⟩ m
  simp only at hk hid ⊢
  have hl := padn_len n l k
  refine awp_seqP rfl ?_
  refine awp_seqP rfl ?_
  refine awp_regP (Γ := noEnv) [3, 4, 5, 21, 22] (noEnv_ok _ _) rfl rfl rfl (fun K hK => ?_)
  simp (failIfUnchanged := false) (disch := omega) only [Tryd.f76, go_sem, Nat.reduceAdd, ↓reduceIte]
  refine hK _ ?_
  repeat (first | with_reducible refine nx_then ?_ | with_reducible refine nx_blk ?_ | with_reducible refine nx_loop ?_ | with_reducible refine nx_ex_then ?_ | with_reducible refine nx_ex_loop ?_ | with_reducible refine nx_ex_blk ?_ | with_reducible refine nx_ret_then ?_ | with_reducible refine nx_ret_blk ?_ | with_reducible refine nx_ret_loop ?_)
  refine awp_ifN ((0 : Int) ≤ 7 - (k : Int)) (.tmp 22) rfl rfl rfl (fun h => ?_) (fun h => ?_)
  · refine awp_skipP rfl ?_
    repeat (first | with_reducible refine nx_then ?_ | with_reducible refine nx_blk ?_ | with_reducible refine nx_loop ?_ | with_reducible refine nx_ex_then ?_ | with_reducible refine nx_ex_loop ?_ | with_reducible refine nx_ex_blk ?_ | with_reducible refine nx_ret_then ?_ | with_reducible refine nx_ret_blk ?_ | with_reducible refine nx_ret_loop ?_)
    refine awp_seqP rfl ?_
    refine awp_blockN 3 rfl rfl ?_
    have e1 : (8 * (7 - (k : Int))).toNat = 8 * (7 - k) := by omega
    refine awp_regP (Γ := noEnv) [3, 4, 5] (noEnv_ok _ _) rfl rfl rfl (fun K hK => ?_)
    simp (failIfUnchanged := false) (disch := omega) only [Tryd.f76, go_sem, Nat.reduceAdd, Nat.reduceLeDiff, Nat.reduceLT, ↓reduceIte, W_eq, nat_ne, e1, sp1_8, one8, c8_len, c8_app, hl]
    refine hK _ ?_
    repeat (first | with_reducible refine nx_then ?_ | with_reducible refine nx_blk ?_ | with_reducible refine nx_loop ?_ | with_reducible refine nx_ex_then ?_ | with_reducible refine nx_ex_loop ?_ | with_reducible refine nx_ex_blk ?_ | with_reducible refine nx_ret_then ?_ | with_reducible refine nx_ret_blk ?_ | with_reducible refine nx_ret_loop ?_)
    refine awp_regP (Γ := noEnv) [3, 4, 5] (noEnv_ok _ _) rfl rfl rfl (fun K hK => ?_)
    simp (failIfUnchanged := false) (disch := omega) only [Tryd.f76, go_sem, Nat.reduceAdd, ↓reduceIte, W_eq]
    refine hK _ ?_
    repeat (first | with_reducible refine nx_then ?_ | with_reducible refine nx_blk ?_ | with_reducible refine nx_loop ?_ | with_reducible refine nx_ex_then ?_ | with_reducible refine nx_ex_loop ?_ | with_reducible refine nx_ex_blk ?_ | with_reducible refine nx_ret_then ?_ | with_reducible refine nx_ret_blk ?_ | with_reducible refine nx_ret_loop ?_)
    have e5 : (7 : Int) - (k : Int) - 1 = 7 - ((k + 1 : Nat) : Int) := by omega
    rw [e5]
    refine ⟨⟨k + 1, c + 2 + 7, c + 2 + 9 + 3⟩, ⟨by simp only; omega, by simp only; omega⟩, by simp only; omega, ⟨fun _ => .inr rfl, fun j o h => ?_, Nat.le_refl _⟩⟩
    simp (failIfUnchanged := false) only [upd_apply] at h ⊢
    split at h
    · rename_i e; rw [if_pos e]; exact h
    · cases h
  · refine awp_exitN 2 rfl rfl ?_
    repeat (first | with_reducible refine nx_then ?_ | with_reducible refine nx_blk ?_ | with_reducible refine nx_loop ?_ | with_reducible refine nx_ex_then ?_ | with_reducible refine nx_ex_loop ?_ | with_reducible refine nx_ex_blk ?_ | with_reducible refine nx_ret_then ?_ | with_reducible refine nx_ret_blk ?_ | with_reducible refine nx_ret_loop ?_)
    obtain rfl : k = 8 := by omega
    exact hQ id _ _ _ _ _ (by omega)

set_option maxHeartbeats 4000000 in
theorem pad_ok (GL : Nat → Option (List AV)) : FreshOK Tryd.prog GL 76 padG := by
  refine fresh_of_awp Tryd.func76 (bodyOf_some rfl) ?_
  intro args r hg
  unfold padG at hg
  split at hg
  · rename_i n xs
    replace hg := obind_inv hg; obtain ⟨b, hb, hg⟩ := hg
    replace hg := guardO_inv hg; obtain ⟨⟨hn, hbig⟩, hg⟩ := hg
    obtain rfl := Option.some.inj hg
    have := un8_inv _ hb; subst this
    subst hn
    refine ⟨Nat.le_of_ble_eq_true rfl, fun nx => ?_⟩
    have hbl := c8_len b
    refine awp_seqP rfl ?_
    refine awp_regP (Γ := noEnv) [0] (noEnv_ok _ _) rfl rfl rfl (fun K hK => ?_)
    simp (failIfUnchanged := false) (disch := omega) only [Tryd.f76, go_sem, ↓reduceIte]
    refine hK _ ?_
    repeat (first | with_reducible refine nx_then ?_ | with_reducible refine nx_blk ?_ | with_reducible refine nx_loop ?_ | with_reducible refine nx_ex_then ?_ | with_reducible refine nx_ex_loop ?_ | with_reducible refine nx_ex_blk ?_ | with_reducible refine nx_ret_then ?_ | with_reducible refine nx_ret_blk ?_ | with_reducible refine nx_ret_loop ?_)
    refine awp_seqP rfl ?_
    refine awp_regP (Γ := noEnv) [0, 3] (noEnv_ok _ _) rfl rfl rfl (fun K hK => ?_)
    simp (failIfUnchanged := false) (disch := omega) only [Tryd.f76, go_sem, Nat.reduceAdd, Nat.reduceLeDiff, Nat.reduceLT, Int.reduceLE, Int.reduceLT, BitVec.reduceOfInt, ↓reduceIte, nat_ne, hbl, sp1_8, one8, c8_len, c8_app]
    refine hK _ ?_
    repeat (first | with_reducible refine nx_then ?_ | with_reducible refine nx_blk ?_ | with_reducible refine nx_loop ?_ | with_reducible refine nx_ex_then ?_ | with_reducible refine nx_ex_loop ?_ | with_reducible refine nx_ex_blk ?_ | with_reducible refine nx_ret_then ?_ | with_reducible refine nx_ret_blk ?_ | with_reducible refine nx_ret_loop ?_)
    refine awp_seqP rfl ?_
    refine pad_l1 (id0 := nx + 1 + 3) (c0 := nx + 1 + 5) (by omega) hbig (fun k o h => ?_) (fun id c m z1 z2 hid => ?_) _
    · simp only [upd_apply] at h ⊢
      split at h
      · rename_i e; rw [if_pos e]; exact h
      · cases h
    repeat (first | with_reducible refine nx_then ?_ | with_reducible refine nx_blk ?_ | with_reducible refine nx_loop ?_ | with_reducible refine nx_ex_then ?_ | with_reducible refine nx_ex_loop ?_ | with_reducible refine nx_ex_blk ?_ | with_reducible refine nx_ret_then ?_ | with_reducible refine nx_ret_blk ?_ | with_reducible refine nx_ret_loop ?_)
    refine awp_seqP rfl ?_
    refine awp_regP (Γ := noEnv) [0, 3, 4] (noEnv_ok _ _) rfl rfl rfl (fun K hK => ?_)
    simp (failIfUnchanged := false) (disch := omega) only [Tryd.f76, go_sem, Nat.reduceAdd, Int.reduceLE, Int.reduceLT, BitVec.reduceOfInt, ↓reduceIte]
    refine hK _ ?_
    repeat (first | with_reducible refine nx_then ?_ | with_reducible refine nx_blk ?_ | with_reducible refine nx_loop ?_ | with_reducible refine nx_ex_then ?_ | with_reducible refine nx_ex_loop ?_ | with_reducible refine nx_ex_blk ?_ | with_reducible refine nx_ret_then ?_ | with_reducible refine nx_ret_blk ?_ | with_reducible refine nx_ret_loop ?_)
    have hl0 := padz_len b (padk b)
    have hpk : padk b < 64 := by unfold padk; omega
    refine awp_seqP rfl ?_
    refine awp_seqP rfl ?_
    refine awp_regP (Γ := noEnv) [3, 4, 5] (noEnv_ok _ _) rfl rfl rfl (fun K hK => ?_)
    simp (failIfUnchanged := false) (disch := omega) only [Tryd.f76, go_sem, ↓reduceIte]
    refine hK _ ?_
    repeat (first | with_reducible refine nx_then ?_ | with_reducible refine nx_blk ?_ | with_reducible refine nx_loop ?_ | with_reducible refine nx_ex_then ?_ | with_reducible refine nx_ex_loop ?_ | with_reducible refine nx_ex_blk ?_ | with_reducible refine nx_ret_then ?_ | with_reducible refine nx_ret_blk ?_ | with_reducible refine nx_ret_loop ?_)
    rw [← hl0]
    refine pad_l2 (l := padz b (padk b)) (id0 := id) (c0 := c + 5 + 1) (by omega) (by omega) (fun k o h => h) (fun id2 c2 m2 z0 z3 z4 hid2 => ?_) _
    repeat (first | with_reducible refine nx_then ?_ | with_reducible refine nx_blk ?_ | with_reducible refine nx_loop ?_ | with_reducible refine nx_ex_then ?_ | with_reducible refine nx_ex_loop ?_ | with_reducible refine nx_ex_blk ?_ | with_reducible refine nx_ret_then ?_ | with_reducible refine nx_ret_blk ?_ | with_reducible refine nx_ret_loop ?_)
    refine awp_seqP rfl ?_
    refine awp_regP (Γ := noEnv) [2] (noEnv_ok _ _) rfl rfl rfl (fun K hK => ?_)
    simp (failIfUnchanged := false) (disch := omega) only [Tryd.f76, go_sem, Nat.reduceAdd, ↓reduceIte]
    refine hK _ ?_
    repeat (first | with_reducible refine nx_then ?_ | with_reducible refine nx_blk ?_ | with_reducible refine nx_loop ?_ | with_reducible refine nx_ex_then ?_ | with_reducible refine nx_ex_loop ?_ | with_reducible refine nx_ex_blk ?_ | with_reducible refine nx_ret_then ?_ | with_reducible refine nx_ret_blk ?_ | with_reducible refine nx_ret_loop ?_)
    refine awp_retP rfl ?_
    have hpl : (padL b).length = (padz b (padk b)).length + 8 := padn_len _ _ _
    have hcl : (c8 (padL b)).length = (padL b).length := c8_len _
    show freshR _ _ 1 { fr := [(2, .os id2 0 ((padz b (padk b)).length + 8) 1 true)], hp := upd (fun _ => none) id2 (.cells (c8 (padL b)) true), nx := c2, cx := c2 + 2 } = _
    rw [← hpl]
    simp (failIfUnchanged := false) only [freshR, resA, resAL, resA1, Tryd.f76, look_cons, ob_some, up_app, ↓reduceIte, hcl, List.drop_zero, immL, c8_noOwn, Nat.mul_one, Nat.zero_add, and_self, guardO_True]
  · cases hg
end Go.AX

namespace Go.AX
open Go Go.Proofs

set_option maxHeartbeats 4000000 in
set_option maxRecDepth 4000 in
theorem table_ok (GL : Nat → Option (List AV)) : PureOK Tryd.prog GL 75 tableG := by
  refine pure_of_awp Tryd.func75 (bodyOf_some rfl) ?_
  intro args r hg
  unfold tableG at hg
  split at hg
  · obtain rfl := Option.some.inj hg
    refine ⟨Nat.le_of_ble_eq_true rfl, fun nx => ?_⟩
    refine awp_seqP rfl ?_
    refine awp_regP (Γ := noEnv) [0] (noEnv_ok _ _) rfl rfl rfl (fun K hK => ?_)
    simp (failIfUnchanged := false) (disch := omega) only [Tryd.f75, go_sem, ↓reduceIte, c32_rep]
    refine hK _ ?_
    repeat (first | with_reducible refine nx_then ?_ | with_reducible refine nx_blk ?_ | with_reducible refine nx_loop ?_ | with_reducible refine nx_ex_then ?_ | with_reducible refine nx_ex_loop ?_ | with_reducible refine nx_ex_blk ?_ | with_reducible refine nx_ret_then ?_ | with_reducible refine nx_ret_blk ?_ | with_reducible refine nx_ret_loop ?_)
    refine awp_seqP rfl ?_
    refine awp_regP (Γ := noEnv) [0] (noEnv_ok _ _) rfl rfl rfl (fun K hK => ?_)
    simp (failIfUnchanged := false) (disch := omega) only [Tryd.f75, go_sem, Nat.reduceAdd, Nat.reduceLeDiff, Int.reduceLE, Int.reduceLT, BitVec.reduceOfInt, ↓reduceIte, c32_len]
    refine hK _ ?_
    repeat (first | with_reducible refine nx_then ?_ | with_reducible refine nx_blk ?_ | with_reducible refine nx_loop ?_ | with_reducible refine nx_ex_then ?_ | with_reducible refine nx_ex_loop ?_ | with_reducible refine nx_ex_blk ?_ | with_reducible refine nx_ret_then ?_ | with_reducible refine nx_ret_blk ?_ | with_reducible refine nx_ret_loop ?_)
    refine awp_retP rfl ?_
    have hst : storeL (c32 (List.replicate 64 0#32)) 0 (c32 KT) = c32 KT := by
      rw [storeL_sp _ _ _ (by rw [c32_len, KT_len]; omega), splice_all _ _ (by rw [c32_len, c32_len, KT_len, List.length_replicate])]
    have hk : (c32 KT).length = 64 := (c32_len _).trans KT_len
    show pureQ _ _ _ .ret { fr := [(0, .op nx 0)], hp := upd (fun _ => none) nx (.cells (storeL (c32 (List.replicate 64 0#32)) 0 (c32 KT)) true), nx := nx + 1, cx := nx + 1 + 2 }
    rw [hst]
    simp (failIfUnchanged := false) only [pureQ, resA, resAL, resA1, Tryd.f75, ldV, imm_c32, KT_take, hk, go_sem, Nat.reduceLeDiff, ↓reduceIte]
  · cases hg
end Go.AX
