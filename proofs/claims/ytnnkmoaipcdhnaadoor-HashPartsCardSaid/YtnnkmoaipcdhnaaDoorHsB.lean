/-
  Hash, part B: mixing a block in, as the program does it.
-/
import Derived.Test.YtnnkmoaipcdhnaaDoorHsA
namespace Go.AX
open Go Go.Proofs

def un8 : List AV → Option (List B8)
  | [] => some []
  | .w8 x :: r => obind (un8 r) fun l => some (x :: l)
  | _ :: _ => none
def un32 : List AV → Option (List W32)
  | [] => some []
  | .w32 x :: r => obind (un32 r) fun l => some (x :: l)
  | _ :: _ => none
theorem un8_c8 (l : List B8) : un8 (c8 l) = some l := by
  induction l with
  | nil => rfl
  | cons x r ih => show obind (un8 (c8 r)) _ = _; rw [ih]; rfl
theorem un32_c32 (l : List W32) : un32 (c32 l) = some l := by
  induction l with
  | nil => rfl
  | cons x r ih => show obind (un32 (c32 r)) _ = _; rw [ih]; rfl
theorem un8_inv : ∀ (xs : List AV) {l : List B8}, un8 xs = some l → xs = c8 l
  | [], l, h => by obtain rfl := Option.some.inj h; rfl
  | x :: r, l, h => by
    cases x with
    | w8 y =>
      simp only [un8] at h
      replace h := obind_inv h; obtain ⟨m, hm, h⟩ := h
      obtain rfl := Option.some.inj h
      rw [un8_inv r hm]; rfl
    | _ => cases h
theorem un32_inv : ∀ (xs : List AV) {l : List W32}, un32 xs = some l → xs = c32 l
  | [], l, h => by obtain rfl := Option.some.inj h; rfl
  | x :: r, l, h => by
    cases x with
    | w32 y =>
      simp only [un32] at h
      replace h := obind_inv h; obtain ⟨m, hm, h⟩ := h
      obtain rfl := Option.some.inj h
      rw [un32_inv r hm]; rfl
    | _ => cases h

/-- The bytes that a slice of bytes shows. -/
def bytesOf (hp : H) : AV → Option (List B8)
  | .sl n xs => guardO (xs.length = n) (un8 xs)
  | .os id off n e _ => obind (hp id) fun o => match o with
    | .cells xs _ => guardO (e = 1 ∧ off + n ≤ xs.length) (un8 ((xs.drop off).take n))
  | _ => none

theorem bigK_ex : ∃ n : Nat, 20000 ≤ n := ⟨20000, Nat.le_refl _⟩
/-- A great number, whose value nobody can compute (so that no checker counts down from it). -/
noncomputable def bigK : Nat := Classical.choose bigK_ex
theorem bigK_ge : 20000 ≤ bigK := Classical.choose_spec bigK_ex
noncomputable def cxR (c : Nat) : Nat → Nat
  | 0 => c
  | j + 1 => cxR c j + bigK + 100
theorem cxR_le (c j : Nat) : c ≤ cxR c j := by
  induction j with
  | zero => exact Nat.le_refl _
  | succ j ih => simp only [cxR]; omega

def notId (id : Nat) : AV → Bool
  | .os j _ _ _ _ => j != id
  | _ => true

noncomputable def mixG : List AV → H → Nat → Option (AV × H × Nat)
  | [.op id 0, y], hp, nx => obind (bytesOf hp y) fun bl => obind (hp id) fun o => match o with
    | .cells xs mt => obind (un32 xs) fun s => guardO (mt = true ∧ s.length = 8 ∧ bl.length = 64 ∧ notId id y = true ∧ id < nx)
        (some (.tup [], upd hp id (.cells (c32 (comp s bl)) true), nx + bigK))
  | _, _, _ => none

theorem bytesOf_inv {hp : H} {y : AV} {bl : List B8} {m : Nat} (h : bytesOf hp y = some bl) (hl : bl.length = m) :
    y = .sl m (c8 bl) ∨ ∃ id off g ys mt, y = .os id off m 1 g ∧ hp id = some (.cells ys mt) ∧ ∀ k, k < m → (ys.drop (off + k)).head? = some (.w8 (bl.getD k 0#8)) := by
  unfold bytesOf at h
  split at h
  · replace h := guardO_inv h; obtain ⟨hn, h⟩ := h
    have := un8_inv _ h; subst this
    rw [c8_len] at hn
    exact .inl (by rw [← hn, hl])
  · rename_i id off n e g
    replace h := obind_inv h; obtain ⟨o, ho, h⟩ := h
    obtain ⟨xs, mt⟩ := o
    simp only at h
    replace h := guardO_inv h; obtain ⟨⟨rfl, hle⟩, h⟩ := h
    have hx := un8_inv _ h
    have hln : n = m := by
      have := congrArg List.length hx
      rw [c8_len, List.length_take, List.length_drop] at this
      omega
    subst hln
    refine .inr ⟨id, off, g, xs, mt, rfl, ho, fun k hk => ?_⟩
    have := c8_head bl k (by omega)
    rw [← hx, List.drop_take, List.drop_drop, List.head?_take, if_neg (by omega)] at this
    exact this
  · cases h

theorem envR_ok : EnvOK Tryd.prog GLh (envL [(81, .pure true rotG)]) := by
  intro f s h
  simp only [envL] at h
  split at h
  · rename_i e; subst e
    obtain rfl := Option.some.inj h
    exact ⟨⟨_, Tryd.func81, rfl, rfl⟩, rot_ok _⟩
  · cases h




set_option maxHeartbeats 4000000 in
theorem mix_l1 {hp : H} {nx id c0 : Nat} {y : AV} {bl : List B8} {Q : Exit → S → Prop} (hbl : bytesOf hp y = some bl) (hbll : bl.length = 64) (hnone : ∀ id, nx ≤ id → hp id = none) (_ : id < nx) (hc : c0 ≤ nx + 100)
    (hQ : ∀ n z, Q .normal { fr := [(0, .op id 0), (1, y), (4, .op nx 0), (23, .i ((16 : Nat) : Int)), (24, z)], hp := upd hp nx (.cells (c32 (w16 bl 16)) true), nx := n, cx := nx + 100 + 100 * 16 + 1 }) :
    ∀ n0, Awp Tryd.prog GLh Tryd.f60.ntmps (cr (cl (cr (bodyOf Tryd.f60)))) { fr := [(0, .op id 0), (1, y), (4, .op nx 0), (23, .i 0)], hp := upd hp nx (.cells (c32 (w16 bl 0)) true), nx := n0, cx := c0 } Q := by
  intro n0
  refine awp_blockN 0 rfl rfl ?_
  refine awp_loopP (fun i : Nat => { fr := [(0, .op id 0), (1, y), (4, .op nx 0), (23, .i i)], hp := upd hp nx (.cells (c32 (w16 bl i)) true), nx := 0, cx := nx + 100 + 100 * i }) (fun i => i ≤ 16) (fun i => 16 - i) rfl ⟨0, by omega, sub_same rfl rfl hc⟩ ?_
  intro i hi n
  have hl : (w16 bl i).length = 64 := w16_len bl i
  refine awp_seqP rfl ?_
  refine awp_regP (Γ := noEnv) [0, 1, 4, 23, 24] (noEnv_ok _ _) rfl rfl rfl (fun K hK => ?_)
  simp only [Tryd.f60, bodyOf, Option.getD_some, cl, cr, rOps, lights, light, rN, List.size_toArray, List.length_cons, List.length_nil, Nat.zero_add, List.map_cons, List.map_nil, Option.map_none]
  simp (maxSteps := 300000) (disch := omega) only [go_sem, Nat.reduceEqDiff, reduceCtorEq, ↓reduceIte]
  with_reducible refine hK _ ?_
  clear hK K
  repeat (first | with_reducible refine nx_then ?_ | with_reducible refine nx_blk ?_ | with_reducible refine nx_loop ?_ | with_reducible refine nx_ex_then ?_ | with_reducible refine nx_ex_loop ?_ | with_reducible refine nx_ex_blk ?_ | with_reducible refine nx_ret_then ?_ | with_reducible refine nx_ret_blk ?_ | with_reducible refine nx_ret_loop ?_)
  refine awp_seqP rfl ?_
  refine awp_ifN ((i : Int) < 16) (.tmp 24) rfl rfl rfl (fun h => ?_) (fun h => ?_)
  · refine awp_skipP rfl ?_
    repeat (first | with_reducible refine nx_then ?_ | with_reducible refine nx_blk ?_ | with_reducible refine nx_loop ?_ | with_reducible refine nx_ex_then ?_ | with_reducible refine nx_ex_loop ?_ | with_reducible refine nx_ex_blk ?_ | with_reducible refine nx_ret_then ?_ | with_reducible refine nx_ret_blk ?_ | with_reducible refine nx_ret_loop ?_)
    refine awp_seqP rfl ?_
    refine awp_blockN 1 rfl rfl ?_
    refine awp_seqP rfl ?_
    refine awp_regP (Γ := noEnv) [0, 1, 4, 5, 23] (noEnv_ok _ _) rfl rfl rfl (fun K hK => ?_)
    simp only [Tryd.f60, bodyOf, Option.getD_some, cl, cr, rOps, lights, light, rN, List.size_toArray, List.length_cons, List.length_nil, Nat.reduceAdd, Nat.zero_add, List.map_cons, List.map_nil, Option.map_none]
    simp (maxSteps := 300000) (disch := omega) only [go_sem, Nat.reduceAdd, Nat.reduceEqDiff, reduceCtorEq, ↓reduceIte]
    with_reducible refine hK _ ?_
    clear hK K
    repeat (first | with_reducible refine nx_then ?_ | with_reducible refine nx_blk ?_ | with_reducible refine nx_loop ?_ | with_reducible refine nx_ex_then ?_ | with_reducible refine nx_ex_loop ?_ | with_reducible refine nx_ex_blk ?_ | with_reducible refine nx_ret_then ?_ | with_reducible refine nx_ret_blk ?_ | with_reducible refine nx_ret_loop ?_)
    have e0 : ((4 * (i : Int))).toNat = 4 * i := by omega
    have e1 : ((4 * (i : Int) + 1)).toNat = 4 * i + 1 := by omega
    have e2 : ((4 * (i : Int) + 2)).toNat = 4 * i + 2 := by omega
    have e3 : ((4 * (i : Int) + 3)).toNat = 4 * i + 3 := by omega
    rcases bytesOf_inv hbl hbll with hy | ⟨id2, off, g, ys, mt, hy, ho2, hys⟩
    · subst hy
      refine awp_drwP (Γ := noEnv) (fun _ => 2) [0, 1, 4, 23] mixed (noEnv_ok _ _) rfl rfl rfl (by kernel_rfl) (fun K hK => ?_)
      simp only [Tryd.f60, bodyOf, Option.getD_some, cl, cr, rOps, lights, light, rN, List.size_toArray, List.length_cons, List.length_nil, Nat.reduceAdd, Nat.zero_add, List.map_cons, List.map_nil, Option.map_none]
      simp (maxSteps := 300000) (disch := omega) only [go_sem, Nat.reduceAdd, Nat.reduceEqDiff, Nat.reduceLeDiff, Int.reduceLE, Int.reduceLT, BitVec.reduceOfInt, BitVec.reduceToNat, reduceCtorEq, ↓reduceIte, W_eq, e0, e1, e2, e3, c8_head, c32_set, c32_len, hl, Int.toNat_natCast]
      with_reducible refine hK _ ?_
      clear hK K
      repeat (first | with_reducible refine nx_then ?_ | with_reducible refine nx_blk ?_ | with_reducible refine nx_loop ?_ | with_reducible refine nx_ex_then ?_ | with_reducible refine nx_ex_loop ?_ | with_reducible refine nx_ex_blk ?_ | with_reducible refine nx_ret_then ?_ | with_reducible refine nx_ret_blk ?_ | with_reducible refine nx_ret_loop ?_)
      refine awp_regP (Γ := noEnv) [0, 1, 4, 23] (noEnv_ok _ _) rfl rfl rfl (fun K hK => ?_)
      simp only [Tryd.f60, bodyOf, Option.getD_some, cl, cr, rOps, lights, light, rN, List.size_toArray, List.length_cons, List.length_nil, Nat.reduceAdd, Nat.zero_add, List.map_cons, List.map_nil, Option.map_none]
      simp (maxSteps := 300000) (disch := omega) only [go_sem, Nat.reduceAdd, Nat.reduceEqDiff, reduceCtorEq, ↓reduceIte, W_eq]
      with_reducible refine hK _ ?_
      clear hK K
      repeat (first | with_reducible refine nx_then ?_ | with_reducible refine nx_blk ?_ | with_reducible refine nx_loop ?_ | with_reducible refine nx_ex_then ?_ | with_reducible refine nx_ex_loop ?_ | with_reducible refine nx_ex_blk ?_ | with_reducible refine nx_ret_then ?_ | with_reducible refine nx_ret_blk ?_ | with_reducible refine nx_ret_loop ?_)
      exact ⟨i + 1, by omega, by omega, sub_same (by simp only [Int.natCast_add, Int.natCast_one]) (by simp only [upd_upd, w16, word]) (by simp only; omega)⟩
    · subst hy
      have hlt2 : id2 < nx := by
        rcases Nat.lt_or_ge id2 nx with h | h
        · exact h
        · rw [hnone id2 h] at ho2; cases ho2
      have hne2 : (id2 = nx) = False := eq_false (by omega)
      refine awp_drwP (Γ := noEnv) (fun _ => 2) [0, 1, 4, 23] mixed (noEnv_ok _ _) rfl rfl rfl (by kernel_rfl) (fun K hK => ?_)
      simp only [Tryd.f60, bodyOf, Option.getD_some, cl, cr, rOps, lights, light, rN, List.size_toArray, List.length_cons, List.length_nil, Nat.reduceAdd, Nat.zero_add, List.map_cons, List.map_nil, Option.map_none]
      simp (maxSteps := 300000) (disch := omega) only [go_sem, Nat.reduceAdd, Nat.reduceEqDiff, Nat.reduceLeDiff, Int.reduceLE, Int.reduceLT, BitVec.reduceOfInt, BitVec.reduceToNat, reduceCtorEq, ↓reduceIte, W_eq, e0, e1, e2, e3, hys, hne2, ho2, c32_set, c32_len, hl, Int.toNat_natCast]
      with_reducible refine hK _ ?_
      clear hK K
      repeat (first | with_reducible refine nx_then ?_ | with_reducible refine nx_blk ?_ | with_reducible refine nx_loop ?_ | with_reducible refine nx_ex_then ?_ | with_reducible refine nx_ex_loop ?_ | with_reducible refine nx_ex_blk ?_ | with_reducible refine nx_ret_then ?_ | with_reducible refine nx_ret_blk ?_ | with_reducible refine nx_ret_loop ?_)
      refine awp_regP (Γ := noEnv) [0, 1, 4, 23] (noEnv_ok _ _) rfl rfl rfl (fun K hK => ?_)
      simp only [Tryd.f60, bodyOf, Option.getD_some, cl, cr, rOps, lights, light, rN, List.size_toArray, List.length_cons, List.length_nil, Nat.reduceAdd, Nat.zero_add, List.map_cons, List.map_nil, Option.map_none]
      simp (maxSteps := 300000) (disch := omega) only [go_sem, Nat.reduceAdd, Nat.reduceEqDiff, reduceCtorEq, ↓reduceIte, W_eq]
      with_reducible refine hK _ ?_
      clear hK K
      repeat (first | with_reducible refine nx_then ?_ | with_reducible refine nx_blk ?_ | with_reducible refine nx_loop ?_ | with_reducible refine nx_ex_then ?_ | with_reducible refine nx_ex_loop ?_ | with_reducible refine nx_ex_blk ?_ | with_reducible refine nx_ret_then ?_ | with_reducible refine nx_ret_blk ?_ | with_reducible refine nx_ret_loop ?_)
      exact ⟨i + 1, by omega, by omega, sub_same (by simp only [Int.natCast_add, Int.natCast_one]) (by simp only [upd_upd, w16, word]) (by simp only; omega)⟩
  · refine awp_exitN 0 rfl rfl ?_
    repeat (first | with_reducible refine nx_then ?_ | with_reducible refine nx_blk ?_ | with_reducible refine nx_loop ?_ | with_reducible refine nx_ex_then ?_ | with_reducible refine nx_ex_loop ?_ | with_reducible refine nx_ex_blk ?_ | with_reducible refine nx_ret_then ?_ | with_reducible refine nx_ret_blk ?_ | with_reducible refine nx_ret_loop ?_)
    obtain rfl : i = 16 := by omega
    exact hQ _ _
end Go.AX
