/-
  Hash, part E: the sum, as the program does it.
-/
import Derived.Test.YtnnkmoaipcdhnaaDoorHsD
namespace Go.AX
open Go Go.Proofs

def S0 : List W32 := [0x6a09e667#32, 0xbb67ae85#32, 0x3c6ef372#32, 0xa54ff53a#32, 0x510e527f#32, 0x9b05688c#32, 0x1f83d9ab#32, 0x5be0cd19#32]
/-- Blocks of a text taken in, one behind the other. -/
def ab (s : List W32) (p : List B8) : Nat → List W32
  | 0 => s
  | j + 1 => comp (ab s p j) ((p.drop (64 * j)).take 64)
theorem ab_len (s : List W32) (p : List B8) (j : Nat) : (ab s p j).length = s.length := by
  induction j with
  | zero => rfl
  | succ j ih => simp only [ab, comp_len, ih]
theorem S0_len : S0.length = 8 := (rfl)
def tl0 (r : List B8) : List B8 := (splice8 (List.replicate 128 0#8) 0 (r.take (min r.length 128))).set r.length 0x80#8
def tl (n : BitVec 64) (e : Nat) (l : List B8) : Nat → List B8
  | 0 => l
  | k + 1 => (tl n e l k).set (e - 1 - k) ((n >>> (8 * k)).setWidth 8)
def ob (s : List W32) : Nat → List B8
  | 0 => List.replicate 32 0#8
  | k + 1 => ((((ob s k).set (4 * k) ((s.getD k 0#32 >>> 24).setWidth 8)).set (4 * k + 1) ((s.getD k 0#32 >>> 16).setWidth 8)).set (4 * k + 2) ((s.getD k 0#32 >>> 8).setWidth 8)).set (4 * k + 3) ((s.getD k 0#32).setWidth 8)
theorem tl_len (n : BitVec 64) (e : Nat) (l : List B8) (k : Nat) : (tl n e l k).length = l.length := by
  induction k with
  | zero => rfl
  | succ j ih => simp only [tl, List.length_set, ih]
theorem ob_len (s : List W32) (k : Nat) : (ob s k).length = 32 := by
  induction k with
  | zero => rfl
  | succ j ih => simp only [ob, List.length_set, ih]
theorem tl0_len (r : List B8) (h : r.length < 64) : (tl0 r).length = 128 := by
  simp only [tl0, splice8, List.length_set, List.length_append, List.length_take, List.length_drop, List.length_replicate]; omega
def en (r : List B8) : Nat := if 56 ≤ r.length then 128 else 64
def sumL (b : List B8) : List B8 :=
  let r := b.drop (64 * (b.length / 64))
  ob (ab (ab S0 b (b.length / 64)) (tl (BitVec.ofInt 64 b.length * 8#64) (en r) (tl0 r) 8) (en r / 64)) 8
theorem sumL_len (b : List B8) : (sumL b).length = 32 := ob_len _ _

def sumG : List AV → Option AV
  | [.sl n xs] => obind (un8 xs) fun b => guardO (b.length = n) (some (.agg (c8 (sumL b))))
  | _ => none

noncomputable def mixO (id : Nat) (y : AV) (bl : List B8) (hp : H) (nx : Nat) : AO → Option (AV × H × Nat)
  | .cells xs mt => obind (un32 xs) fun s => guardO (mt = true ∧ s.length = 8 ∧ bl.length = 64 ∧ notId id y = true ∧ id < nx)
        (some (.tup [], upd hp id (.cells (c32 (comp s bl)) true), nx + bigK))
theorem mixG_S (id : Nat) (y : AV) (hp : H) (nx : Nat) : mixG [.op id 0, y] hp nx = obind (bytesOf hp y) fun bl => obind (hp id) (mixO id y bl hp nx) := by
  simp only [mixG]; rfl
theorem mixO_c (id : Nat) (y : AV) (bl : List B8) (hp : H) (nx : Nat) (xs : List AV) (mt : Bool) : mixO id y bl hp nx (.cells xs mt) = obind (un32 xs) fun s => guardO (mt = true ∧ s.length = 8 ∧ bl.length = 64 ∧ notId id y = true ∧ id < nx)
        (some (.tup [], upd hp id (.cells (c32 (comp s bl)) true), nx + bigK)) := (rfl)
def byO (off n e : Nat) : AO → Option (List B8)
  | .cells xs _ => guardO (e = 1 ∧ off + n ≤ xs.length) (un8 ((xs.drop off).take n))
theorem bytesOf_sl (hp : H) (n : Nat) (xs : List AV) : bytesOf hp (.sl n xs) = guardO (xs.length = n) (un8 xs) := (rfl)
theorem bytesOf_os (hp : H) (id off n e : Nat) (g : Bool) : bytesOf hp (.os id off n e g) = obind (hp id) (byO off n e) := (rfl)
theorem byO_c (off n e : Nat) (xs : List AV) (mt : Bool) : byO off n e (.cells xs mt) = guardO (e = 1 ∧ off + n ≤ xs.length) (un8 ((xs.drop off).take n)) := (rfl)
theorem notId_sl (id n : Nat) (xs : List AV) : notId id (.sl n xs) = true := (rfl)
theorem notId_os (id j off n e : Nat) (g : Bool) (h : j ≠ id) : notId id (.os j off n e g) = true := by simp [notId, h]

theorem envM_ok : EnvOK Tryd.prog GLh (envL [(60, .heap mixG)]) := by
  intro f s h
  simp only [envL] at h
  split at h
  · rename_i e; subst e
    obtain rfl := Option.some.inj h
    exact ⟨⟨_, Tryd.func60, rfl, rfl⟩, mix_ok⟩
  · cases h

theorem list_drop_take_all {α : Type} (l : List α) (k n : Nat) (h : l.length ≤ n + k) : (l.drop k).take n = l.drop k := List.take_of_length_le (by simp only [List.length_drop]; omega)

set_option maxHeartbeats 4000000 in
theorem sum_l1 {nx c0 : Nat} {b : List B8} {n : AV} {o2 : AO} {Q : Exit → S → Prop} (hc : c0 ≤ nx + 100)
    (hQ : ∀ m z, Q .normal { fr := [(0, .sl (b.length - 64 * (b.length / 64)) (c8 (b.drop (64 * (b.length / 64))))), (2, .op nx 0), (3, .op (nx + 1 + 1) 0), (4, n), (19, z)], hp := upd (upd (fun _ => none) nx o2) (nx + 1 + 1) (.cells (c32 (ab S0 b (b.length / 64))) true), nx := m, cx := cxR (nx + 100) (b.length / 64) + 3 }) :
    ∀ n0, Awp Tryd.prog GLh Tryd.f22.ntmps (cl (cr (cr (cr (bodyOf Tryd.f22))))) { fr := [(0, .sl b.length (c8 b)), (2, .op nx 0), (3, .op (nx + 1 + 1) 0), (4, n)], hp := upd (upd (fun _ => none) nx o2) (nx + 1 + 1) (.cells (c32 S0) true), nx := n0, cx := c0 } Q := by
  intro n0
  refine awp_blockN 0 rfl rfl ?_
  refine awp_loopP (fun j : Nat => { fr := [(0, .sl (b.length - 64 * j) (c8 (b.drop (64 * j)))), (2, .op nx 0), (3, .op (nx + 1 + 1) 0), (4, n)], hp := upd (upd (fun _ => none) nx o2) (nx + 1 + 1) (.cells (c32 (ab S0 b j)) true), nx := 0, cx := cxR (nx + 100) j }) (fun j => 64 * j ≤ b.length) (fun j => b.length - j) rfl ⟨0, by omega, sub_same (by simp only [Nat.mul_zero, Nat.sub_zero, List.drop_zero]) rfl hc⟩ ?_
  intro j hj m
  have hcx := cxR_le (nx + 100) j
  have hl : (ab S0 b j).length = 8 := by rw [ab_len, S0_len]
  have hdl : (b.drop (64 * j)).length = b.length - 64 * j := List.length_drop ..
  refine awp_seqP rfl ?_
  refine awp_seqP rfl ?_
  refine awp_regP (Γ := noEnv) [0, 2, 3, 4, 19] (noEnv_ok _ _) rfl rfl rfl (fun K hK => ?_)
  simp only [Tryd.f22, bodyOf, Option.getD_some, cl, cr, rOps, lights, light, rN, List.size_toArray, List.length_cons, List.length_nil, Nat.reduceAdd, Nat.zero_add, List.map_cons, List.map_nil, Option.map_none]
  simp (maxSteps := 300000) (disch := omega) only [go_sem, Nat.reduceAdd, Nat.reduceEqDiff, reduceCtorEq, ↓reduceIte]
  with_reducible refine hK _ ?_
  clear hK K
  repeat (first | with_reducible refine nx_then ?_ | with_reducible refine nx_blk ?_ | with_reducible refine nx_loop ?_ | with_reducible refine nx_ex_then ?_ | with_reducible refine nx_ex_loop ?_ | with_reducible refine nx_ex_blk ?_ | with_reducible refine nx_ret_then ?_ | with_reducible refine nx_ret_blk ?_ | with_reducible refine nx_ret_loop ?_)
  refine awp_ifN ((64 : Int) ≤ ((b.length - 64 * j : Nat) : Int)) (.tmp 19) rfl rfl rfl (fun h => ?_) (fun h => ?_)
  · refine awp_skipP rfl ?_
    repeat (first | with_reducible refine nx_then ?_ | with_reducible refine nx_blk ?_ | with_reducible refine nx_loop ?_ | with_reducible refine nx_ex_then ?_ | with_reducible refine nx_ex_loop ?_ | with_reducible refine nx_ex_blk ?_ | with_reducible refine nx_ret_then ?_ | with_reducible refine nx_ret_blk ?_ | with_reducible refine nx_ret_loop ?_)
    refine awp_blockN 1 rfl rfl ?_
    refine awp_seqP rfl ?_
    have hcl : (c8 (b.drop (64 * j))).length = b.length - 64 * j := (c8_len _).trans hdl
    have htl : ((b.drop (64 * j)).take 64).length = 64 := by rw [List.length_take, hdl]; omega
    refine awp_regP (Γ := envL [(60, .heap mixG)]) [0, 2, 3, 4] (envM_ok) rfl rfl rfl (fun K hK => ?_)
    simp only [Tryd.f22, bodyOf, Option.getD_some, cl, cr, rOps, lights, light, rN, List.size_toArray, List.length_cons, List.length_nil, Nat.reduceAdd, Nat.zero_add, List.map_cons, List.map_nil, Option.map_none]
    simp (maxSteps := 300000) (disch := omega) only [go_sem, Nat.reduceAdd, Nat.reduceSub, Nat.reduceEqDiff, Int.reduceLE, Int.reduceToNat, reduceCtorEq, ↓reduceIte, mixG_S, mixO_c, bytesOf_sl, notId_sl, c8_take, c8_len, un8_c8, un32_c32, htl, hl]
    with_reducible refine hK _ ?_
    clear hK K
    repeat (first | with_reducible refine nx_then ?_ | with_reducible refine nx_blk ?_ | with_reducible refine nx_loop ?_ | with_reducible refine nx_ex_then ?_ | with_reducible refine nx_ex_loop ?_ | with_reducible refine nx_ex_blk ?_ | with_reducible refine nx_ret_then ?_ | with_reducible refine nx_ret_blk ?_ | with_reducible refine nx_ret_loop ?_)
    refine awp_regP (Γ := noEnv) [0, 2, 3, 4] (noEnv_ok _ _) rfl rfl rfl (fun K hK => ?_)
    simp only [Tryd.f22, bodyOf, Option.getD_some, cl, cr, rOps, lights, light, rN, List.size_toArray, List.length_cons, List.length_nil, Nat.reduceAdd, Nat.zero_add, List.map_cons, List.map_nil, Option.map_none]
    simp (maxSteps := 300000) (disch := omega) only [go_sem, Nat.reduceAdd, Nat.reduceEqDiff, Int.reduceLE, Int.reduceToNat, reduceCtorEq, ↓reduceIte, list_drop_take_all, Int.toNat_natCast]
    with_reducible refine hK _ ?_
    clear hK K
    repeat (first | with_reducible refine nx_then ?_ | with_reducible refine nx_blk ?_ | with_reducible refine nx_loop ?_ | with_reducible refine nx_ex_then ?_ | with_reducible refine nx_ex_loop ?_ | with_reducible refine nx_ex_blk ?_ | with_reducible refine nx_ret_then ?_ | with_reducible refine nx_ret_blk ?_ | with_reducible refine nx_ret_loop ?_)
    exact ⟨j + 1, by omega, by omega, sub_same (by simp only [List.cons.injEq, Prod.mk.injEq, AV.sl.injEq, true_and, and_true, c8_drop, List.drop_drop]; exact ⟨by omega, by rw [show 64 * (j + 1) = 64 * j + 64 by omega]⟩) (by simp only [upd_upd, ab]) (by simp only [cxR]; omega)⟩
  · refine awp_exitN 0 rfl rfl ?_
    repeat (first | with_reducible refine nx_then ?_ | with_reducible refine nx_blk ?_ | with_reducible refine nx_loop ?_ | with_reducible refine nx_ex_then ?_ | with_reducible refine nx_ex_loop ?_ | with_reducible refine nx_ex_blk ?_ | with_reducible refine nx_ret_then ?_ | with_reducible refine nx_ret_blk ?_ | with_reducible refine nx_ret_loop ?_)
    obtain rfl : j = b.length / 64 := by omega
    exact hQ _ _

set_option maxHeartbeats 4000000 in
theorem sum_l2 {nx c0 e : Nat} {l : List B8} {n : BitVec 64} {s : AV} {hp : H} {Q : Exit → S → Prop} (he : 8 ≤ e ∧ e ≤ 128) (hll : l.length = 128) {c1 id5 : Nat} (hc : c0 ≤ c1) (_ : id5 < c1)
    (hQ : ∀ m z, Q .normal { fr := [(2, .op nx 0), (3, s), (4, .w64 n), (5, .op id5 0), (6, .i e), (32, .i ((8 : Nat) : Int)), (33, z)], hp := upd hp id5 (.cells (c8 (tl n e l 8)) true), nx := m, cx := c1 + 100 * 8 + 1 }) :
    ∀ n0, Awp Tryd.prog GLh Tryd.f22.ntmps (cr (cl (cr (cr (cr (cr (cr (cr (cr (cr (bodyOf Tryd.f22))))))))))) { fr := [(2, .op nx 0), (3, s), (4, .w64 n), (5, .op id5 0), (6, .i e), (32, .i 0)], hp := upd hp id5 (.cells (c8 l) true), nx := n0, cx := c0 } Q := by
  intro n0
  refine awp_blockN 2 rfl rfl ?_
  refine awp_loopP (fun k : Nat => { fr := [(2, .op nx 0), (3, s), (4, .w64 n), (5, .op id5 0), (6, .i e), (32, .i k)], hp := upd hp id5 (.cells (c8 (tl n e l k)) true), nx := 0, cx := c1 + 100 * k }) (fun k => k ≤ 8) (fun k => 8 - k) rfl ⟨0, by omega, sub_same rfl rfl hc⟩ ?_
  intro k hk m
  have hl : (tl n e l k).length = 128 := by rw [tl_len, hll]
  refine awp_seqP rfl ?_
  refine awp_regP (Γ := noEnv) [2, 3, 4, 5, 6, 32, 33] (noEnv_ok _ _) rfl rfl rfl (fun K hK => ?_)
  simp only [Tryd.f22, bodyOf, Option.getD_some, cl, cr, rOps, lights, light, rN, List.size_toArray, List.length_cons, List.length_nil, Nat.zero_add, List.map_cons, List.map_nil, Option.map_none]
  simp (maxSteps := 300000) (disch := omega) only [go_sem, Nat.reduceEqDiff, ↓reduceIte]
  with_reducible refine hK _ ?_
  clear hK K
  repeat (first | with_reducible refine nx_then ?_ | with_reducible refine nx_blk ?_ | with_reducible refine nx_loop ?_ | with_reducible refine nx_ex_then ?_ | with_reducible refine nx_ex_loop ?_ | with_reducible refine nx_ex_blk ?_ | with_reducible refine nx_ret_then ?_ | with_reducible refine nx_ret_blk ?_ | with_reducible refine nx_ret_loop ?_)
  refine awp_seqP rfl ?_
  refine awp_ifN ((k : Int) < 8) (.tmp 33) rfl rfl rfl (fun h => ?_) (fun h => ?_)
  · refine awp_skipP rfl ?_
    repeat (first | with_reducible refine nx_then ?_ | with_reducible refine nx_blk ?_ | with_reducible refine nx_loop ?_ | with_reducible refine nx_ex_then ?_ | with_reducible refine nx_ex_loop ?_ | with_reducible refine nx_ex_blk ?_ | with_reducible refine nx_ret_then ?_ | with_reducible refine nx_ret_blk ?_ | with_reducible refine nx_ret_loop ?_)
    refine awp_seqP rfl ?_
    refine awp_blockN 3 rfl rfl ?_
    refine awp_seqP rfl ?_
    refine awp_regP (Γ := noEnv) [2, 3, 4, 5, 6, 7, 32] (noEnv_ok _ _) rfl rfl rfl (fun K hK => ?_)
    simp only [Tryd.f22, bodyOf, Option.getD_some, cl, cr, rOps, lights, light, rN, List.size_toArray, List.length_cons, List.length_nil, Nat.reduceAdd, Nat.zero_add, List.map_cons, List.map_nil, Option.map_none]
    simp (maxSteps := 300000) (disch := omega) only [go_sem, Nat.reduceAdd, Nat.reduceEqDiff, ↓reduceIte]
    with_reducible refine hK _ ?_
    clear hK K
    repeat (first | with_reducible refine nx_then ?_ | with_reducible refine nx_blk ?_ | with_reducible refine nx_loop ?_ | with_reducible refine nx_ex_then ?_ | with_reducible refine nx_ex_loop ?_ | with_reducible refine nx_ex_blk ?_ | with_reducible refine nx_ret_then ?_ | with_reducible refine nx_ret_blk ?_ | with_reducible refine nx_ret_loop ?_)
    have e1 : ((e : Int) - 1 - (k : Int)).toNat = e - 1 - k := by omega
    have e2 : (BitVec.ofInt 64 (8 * (k : Int))).toNat = 8 * k := by rw [BitVec.toNat_ofInt]; omega
    refine awp_regP (Γ := noEnv) [2, 3, 4, 5, 6, 32] (noEnv_ok _ _) rfl rfl rfl (fun K hK => ?_)
    simp only [Tryd.f22, bodyOf, Option.getD_some, cl, cr, rOps, lights, light, rN, List.size_toArray, List.length_cons, List.length_nil, Nat.reduceAdd, Nat.zero_add, List.map_cons, List.map_nil, Option.map_none]
    simp (maxSteps := 300000) (disch := omega) only [go_sem, Nat.reduceAdd, Nat.reduceEqDiff, Nat.reduceLeDiff, ↓reduceIte, W_eq, c8_len, c8_set, hl, e1, e2]
    with_reducible refine hK _ ?_
    clear hK K
    repeat (first | with_reducible refine nx_then ?_ | with_reducible refine nx_blk ?_ | with_reducible refine nx_loop ?_ | with_reducible refine nx_ex_then ?_ | with_reducible refine nx_ex_loop ?_ | with_reducible refine nx_ex_blk ?_ | with_reducible refine nx_ret_then ?_ | with_reducible refine nx_ret_blk ?_ | with_reducible refine nx_ret_loop ?_)
    refine awp_regP (Γ := noEnv) [2, 3, 4, 5, 6, 32] (noEnv_ok _ _) rfl rfl rfl (fun K hK => ?_)
    simp only [Tryd.f22, bodyOf, Option.getD_some, cl, cr, rOps, lights, light, rN, List.size_toArray, List.length_cons, List.length_nil, Nat.reduceAdd, Nat.zero_add, List.map_cons, List.map_nil, Option.map_none]
    simp (maxSteps := 300000) (disch := omega) only [go_sem, Nat.reduceAdd, Nat.reduceEqDiff, ↓reduceIte, W_eq]
    with_reducible refine hK _ ?_
    clear hK K
    repeat (first | with_reducible refine nx_then ?_ | with_reducible refine nx_blk ?_ | with_reducible refine nx_loop ?_ | with_reducible refine nx_ex_then ?_ | with_reducible refine nx_ex_loop ?_ | with_reducible refine nx_ex_blk ?_ | with_reducible refine nx_ret_then ?_ | with_reducible refine nx_ret_blk ?_ | with_reducible refine nx_ret_loop ?_)
    exact ⟨k + 1, by omega, by omega, sub_same (by simp only [Int.natCast_add, Int.natCast_one]) (by simp only [upd_upd, tl]) (by simp only; omega)⟩
  · refine awp_exitN 2 rfl rfl ?_
    repeat (first | with_reducible refine nx_then ?_ | with_reducible refine nx_blk ?_ | with_reducible refine nx_loop ?_ | with_reducible refine nx_ex_then ?_ | with_reducible refine nx_ex_loop ?_ | with_reducible refine nx_ex_blk ?_ | with_reducible refine nx_ret_then ?_ | with_reducible refine nx_ret_blk ?_ | with_reducible refine nx_ret_loop ?_)
    obtain rfl : k = 8 := by omega
    exact hQ _ _

set_option maxHeartbeats 4000000 in
theorem sum_l4 {nx c0 m : Nat} {l : List B8} {s : List W32} {hp : H} {Q : Exit → S → Prop} (hm : m ≤ 2) (hll : l.length = 128) (hs : s.length = 8) {c1 id3 id5 : Nat} (hne : id5 ≠ id3) (hc : c0 ≤ c1) (_ : id5 < c1) (hid3 : id3 < c1) (hol : hp id5 = some (.cells (c8 l) true))
    (hQ : ∀ k z, Q .normal { fr := [(2, .op nx 0), (3, .op id3 0), (5, .op id5 0), (6, .i ((64 * m : Nat) : Int)), (8, .i ((64 * m : Nat) : Int)), (49, z)], hp := upd hp id3 (.cells (c32 (ab s l m)) true), nx := k, cx := cxR c1 m + 3 }) :
    ∀ n0, Awp Tryd.prog GLh Tryd.f22.ntmps (cr (cl (cr (cr (cr (cr (cr (cr (cr (cr (cr (bodyOf Tryd.f22)))))))))))) { fr := [(2, .op nx 0), (3, .op id3 0), (5, .op id5 0), (6, .i ((64 * m : Nat) : Int)), (8, .i 0)], hp := upd hp id3 (.cells (c32 s) true), nx := n0, cx := c0 } Q := by
  intro n0
  refine awp_blockN 4 rfl rfl ?_
  refine awp_loopP (fun k : Nat => { fr := [(2, .op nx 0), (3, .op id3 0), (5, .op id5 0), (6, .i ((64 * m : Nat) : Int)), (8, .i ((64 * k : Nat) : Int))], hp := upd hp id3 (.cells (c32 (ab s l k)) true), nx := 0, cx := cxR c1 k }) (fun k => k ≤ m) (fun k => m - k) rfl ⟨0, by omega, sub_same rfl rfl hc⟩ ?_
  intro k hk n
  have hcx := cxR_le c1 k
  have hl : (ab s l k).length = 8 := by rw [ab_len, hs]
  have hne' : (id5 = id3) = False := eq_false hne
  refine awp_seqP rfl ?_
  refine awp_seqP rfl ?_
  refine awp_regP (Γ := noEnv) [2, 3, 5, 6, 8, 49] (noEnv_ok _ _) rfl rfl rfl (fun K hK => ?_)
  simp only [Tryd.f22, bodyOf, Option.getD_some, cl, cr, rOps, lights, light, rN, List.size_toArray, List.length_cons, List.length_nil, Nat.reduceAdd, Nat.zero_add, List.map_cons, List.map_nil, Option.map_none]
  simp (maxSteps := 300000) (disch := omega) only [go_sem, Nat.reduceAdd, Nat.reduceEqDiff, ↓reduceIte]
  with_reducible refine hK _ ?_
  clear hK K
  repeat (first | with_reducible refine nx_then ?_ | with_reducible refine nx_blk ?_ | with_reducible refine nx_loop ?_ | with_reducible refine nx_ex_then ?_ | with_reducible refine nx_ex_loop ?_ | with_reducible refine nx_ex_blk ?_ | with_reducible refine nx_ret_then ?_ | with_reducible refine nx_ret_blk ?_ | with_reducible refine nx_ret_loop ?_)
  refine awp_ifN (((64 * k : Nat) : Int) < ((64 * m : Nat) : Int)) (.tmp 49) rfl rfl rfl (fun h => ?_) (fun h => ?_)
  · refine awp_skipP rfl ?_
    repeat (first | with_reducible refine nx_then ?_ | with_reducible refine nx_blk ?_ | with_reducible refine nx_loop ?_ | with_reducible refine nx_ex_then ?_ | with_reducible refine nx_ex_loop ?_ | with_reducible refine nx_ex_blk ?_ | with_reducible refine nx_ret_then ?_ | with_reducible refine nx_ret_blk ?_ | with_reducible refine nx_ret_loop ?_)
    refine awp_seqP rfl ?_
    refine awp_blockN 5 rfl rfl ?_
    have e1 : (((64 * k : Nat) : Int) + 64).toNat = 64 * k + 64 := by omega
    have e2 : 64 * k + 64 - 64 * k = 64 := by omega
    have htl : ((l.drop (64 * k)).take 64).length = 64 := by rw [List.length_take, List.length_drop]; omega
    refine awp_regP (Γ := envL [(60, .heap mixG)]) [2, 3, 5, 6, 8] (envM_ok) rfl rfl rfl (fun K hK => ?_)
    simp only [Tryd.f22, bodyOf, Option.getD_some, cl, cr, rOps, lights, light, rN, List.size_toArray, List.length_cons, List.length_nil, Nat.reduceAdd, Nat.zero_add, List.map_cons, List.map_nil, Option.map_none]
    simp (maxSteps := 300000) (disch := omega) only [go_sem, Nat.reduceAdd, Nat.reduceEqDiff, Nat.reduceLeDiff, ↓reduceIte, W_eq, e1, e2, hne', hol, mixG_S, mixO_c, bytesOf_os, byO_c, notId_os, c8_drop, c8_take, c8_len, hll, un8_c8, un32_c32, htl, hl, Int.toNat_natCast]
    with_reducible refine hK _ ?_
    clear hK K
    repeat (first | with_reducible refine nx_then ?_ | with_reducible refine nx_blk ?_ | with_reducible refine nx_loop ?_ | with_reducible refine nx_ex_then ?_ | with_reducible refine nx_ex_loop ?_ | with_reducible refine nx_ex_blk ?_ | with_reducible refine nx_ret_then ?_ | with_reducible refine nx_ret_blk ?_ | with_reducible refine nx_ret_loop ?_)
    refine awp_regP (Γ := noEnv) [2, 3, 5, 6, 8] (noEnv_ok _ _) rfl rfl rfl (fun K hK => ?_)
    simp only [Tryd.f22, bodyOf, Option.getD_some, cl, cr, rOps, lights, light, rN, List.size_toArray, List.length_cons, List.length_nil, Nat.reduceAdd, Nat.zero_add, List.map_cons, List.map_nil, Option.map_none]
    simp (maxSteps := 300000) (disch := omega) only [go_sem, Nat.reduceAdd, Nat.reduceEqDiff, ↓reduceIte, W_eq]
    with_reducible refine hK _ ?_
    clear hK K
    repeat (first | with_reducible refine nx_then ?_ | with_reducible refine nx_blk ?_ | with_reducible refine nx_loop ?_ | with_reducible refine nx_ex_then ?_ | with_reducible refine nx_ex_loop ?_ | with_reducible refine nx_ex_blk ?_ | with_reducible refine nx_ret_then ?_ | with_reducible refine nx_ret_blk ?_ | with_reducible refine nx_ret_loop ?_)
    exact ⟨k + 1, by omega, by omega, sub_same (by simp only [List.cons.injEq, Prod.mk.injEq, AV.i.injEq, true_and, and_true]; omega) (by simp only [upd_upd, ab]) (by simp only [cxR]; omega)⟩
  · refine awp_exitN 4 rfl rfl ?_
    repeat (first | with_reducible refine nx_then ?_ | with_reducible refine nx_blk ?_ | with_reducible refine nx_loop ?_ | with_reducible refine nx_ex_then ?_ | with_reducible refine nx_ex_loop ?_ | with_reducible refine nx_ex_blk ?_ | with_reducible refine nx_ret_then ?_ | with_reducible refine nx_ret_blk ?_ | with_reducible refine nx_ret_loop ?_)
    obtain rfl : k = m := by omega
    exact hQ _ _
end Go.AX
