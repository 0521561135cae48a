/-
  Digest, part A: the tag, as the program and the reference tell it; a place.
-/
import Derived.Test.YtnnkmoaipcdhnaaDoorBF
namespace Go.AX
open Go Go.Proofs

/-- The sum of a key's bytes, by twos. -/
def tagN : List B8 → Nat → Nat
  | _, 0 => 0
  | l, k + 1 => tagN l k + (if k % 2 = 0 then 256 * (l.getD k 0#8).toNat else (l.getD k 0#8).toNat)
theorem tagN_le (l : List B8) (k : Nat) : tagN l k ≤ 65280 * k := by
  induction k with
  | zero => simp [tagN]
  | succ k ih =>
    have := (l.getD k 0#8).isLt
    rw [tagN]
    split <;> omega
def tagL (l : List B8) : BitVec 16 := BitVec.ofNat 16 (tagN l l.length + tagN l l.length / 65536 % 65536)
def tagG : List AV → Option AV
  | [.sl n xs] => obind (un8 xs) fun b => guardO (b.length = n ∧ n ≤ 60000) (some (.w16 (tagL b)))
  | _ => none
theorem tagG_eq (n : Nat) (xs : List AV) : tagG [.sl n xs] = obind (un8 xs) fun b => guardO (b.length = n ∧ n ≤ 60000) (some (.w16 (tagL b))) := (rfl)
attribute [go_sem] tagG_eq

theorem te64 (s : Nat) (x : B8) : BitVec.ofNat 64 s + BitVec.setWidth 64 x <<< 8 = BitVec.ofNat 64 (s + 256 * x.toNat) := by
  apply BitVec.eq_of_toNat_eq
  have := x.isLt
  simp only [BitVec.toNat_add, BitVec.toNat_ofNat, BitVec.toNat_shiftLeft, BitVec.toNat_setWidth, Nat.shiftLeft_eq]; omega
theorem to64 (s : Nat) (x : B8) : BitVec.ofNat 64 s + BitVec.setWidth 64 x = BitVec.ofNat 64 (s + x.toNat) := by
  apply BitVec.eq_of_toNat_eq
  have := x.isLt
  simp only [BitVec.toNat_add, BitVec.toNat_ofNat, BitVec.toNat_setWidth]; omega
theorem te32 (s : Nat) (x : B8) : BitVec.ofNat 32 s + BitVec.setWidth 32 x <<< 8 = BitVec.ofNat 32 (s + 256 * x.toNat) := by
  apply BitVec.eq_of_toNat_eq
  have := x.isLt
  simp only [BitVec.toNat_add, BitVec.toNat_ofNat, BitVec.toNat_shiftLeft, BitVec.toNat_setWidth, Nat.shiftLeft_eq]; omega
theorem to32 (s : Nat) (x : B8) : BitVec.ofNat 32 s + BitVec.setWidth 32 x = BitVec.ofNat 32 (s + x.toNat) := by
  apply BitVec.eq_of_toNat_eq
  have := x.isLt
  simp only [BitVec.toNat_add, BitVec.toNat_ofNat, BitVec.toNat_setWidth]; omega
theorem tag_even (l : List B8) (k : Nat) (h : k % 2 = 0) : tagN l (k + 1) = tagN l k + 256 * (l.getD k 0#8).toNat := by rw [tagN, if_pos h]
theorem tag_odd (l : List B8) (k : Nat) (h : ¬ k % 2 = 0) : tagN l (k + 1) = tagN l k + (l.getD k 0#8).toNat := by rw [tagN, if_neg h]

theorem and16 (a : Nat) : a &&& 65535 = a % 65536 := Nat.and_two_pow_sub_one_eq_mod a 16
theorem fin64 (s : Nat) (_ : s < 4294967296) : BitVec.setWidth 16 (BitVec.ofNat 64 s + (BitVec.ofNat 64 s >>> 16 &&& 65535#64)) = BitVec.ofNat 16 (s + s / 65536 % 65536) := by
  apply BitVec.eq_of_toNat_eq
  have e : (65535#64 : BitVec 64).toNat = 65535 := rfl
  simp only [BitVec.toNat_setWidth, BitVec.toNat_add, BitVec.toNat_and, BitVec.toNat_ushiftRight, BitVec.toNat_ofNat, Nat.shiftRight_eq_div_pow, and16, e]; omega
theorem fin32 (s : Nat) (_ : s < 4294900000) : BitVec.setWidth 16 (BitVec.ofNat 32 s + (BitVec.ofNat 32 s >>> 16 &&& 65535#32)) = BitVec.ofNat 16 (s + s / 65536 % 65536) := by
  apply BitVec.eq_of_toNat_eq
  have e : (65535#32 : BitVec 32).toNat = 65535 := rfl
  simp only [BitVec.toNat_setWidth, BitVec.toNat_add, BitVec.toNat_and, BitVec.toNat_ushiftRight, BitVec.toNat_ofNat, Nat.shiftRight_eq_div_pow, and16, e]; omega

set_option maxHeartbeats 1000000 in
theorem tag_ok : PureOK Tryd.prog GLh 40 tagG := by
  refine pure_of_awp Tryd.func40 (bodyOf_some rfl) ?_
  intro args r hg
  unfold tagG at hg
  split at hg
  · rename_i n xs
    replace hg := obind_inv hg; obtain ⟨b, hb, hg⟩ := hg
    replace hg := guardO_inv hg; obtain ⟨⟨hn, hbig⟩, hg⟩ := hg
    obtain rfl := Option.some.inj hg
    have := un8_inv _ hb; subst this
    subst hn
    clear hg hb
    refine ⟨Nat.le_of_ble_eq_true rfl, fun nx => ?_⟩
    refine awp_seqP rfl ?_
    refine awp_regP (Γ := noEnv) [0] (noEnv_ok _ _) rfl rfl rfl (fun K hK => ?_)
    simp only [Tryd.f40, bodyOf, Option.getD_some, cl, rOps, lights, light, rN, List.size_toArray, List.length_cons, List.length_nil, Nat.zero_add, List.map_cons, List.map_nil, Option.map_none]
    simp (maxSteps := 300000) (disch := omega) only [go_sem, Int.reduceLE, Int.reduceLT, BitVec.reduceOfInt, ↓reduceIte]
    with_reducible refine hK _ ?_
    clear hK K
    refine nx_then ?_
    refine awp_seqP rfl ?_
    refine awp_regP (Γ := noEnv) [0, 3] (noEnv_ok _ _) rfl rfl rfl (fun K hK => ?_)
    simp only [Tryd.f40, bodyOf, Option.getD_some, cl, cr, rOps, lights, light, rN, List.size_toArray, List.length_cons, List.length_nil, Nat.zero_add, List.map_cons, List.map_nil, Option.map_none]
    simp (maxSteps := 300000) (disch := omega) only [go_sem, Int.reduceLE, Int.reduceLT, BitVec.reduceOfInt, ↓reduceIte]
    with_reducible refine hK _ ?_
    clear hK K
    refine nx_then ?_
    refine awp_seqP rfl ?_
    refine awp_seqP rfl ?_
    refine awp_regP (Γ := noEnv) [3, 6, 7, 8] (noEnv_ok _ _) rfl rfl rfl (fun K hK => ?_)
    simp only [Tryd.f40, bodyOf, Option.getD_some, cl, cr, rOps, lights, light, rN, List.size_toArray, List.length_cons, List.length_nil, Nat.reduceAdd, Nat.zero_add, List.map_cons, List.map_nil, Option.map_none]
    simp (maxSteps := 300000) (disch := omega) only [go_sem, Nat.reduceAdd, ↓reduceIte]
    with_reducible refine hK _ ?_
    clear hK K
    refine nx_then ?_
    refine awp_blockN 0 rfl rfl ?_
    refine awp_loopP (fun p : KC => { fr := [(3, .w64 (BitVec.ofNat 64 (tagN b p.k))), (6, .sl b.length (c8 b)), (7, .i b.length), (8, .i p.k)], hp := fun _ => none, nx := 0, cx := p.c }) (fun p => p.k ≤ b.length) (fun p => b.length - p.k) rfl ⟨⟨0, _⟩, Nat.zero_le _, sub_same rfl rfl (Nat.le_refl _)⟩ ?_
    rintro ⟨k, c⟩ hk n0
    simp only at hk ⊢
    refine awp_seqP rfl ?_
    refine awp_regP (Γ := noEnv) [9, 3, 6, 7, 8] (noEnv_ok _ _) rfl rfl rfl (fun K hK => ?_)
    simp only [Tryd.f40, bodyOf, Option.getD_some, cl, cr, rOps, lights, light, rN, List.size_toArray, List.length_cons, List.length_nil, Nat.zero_add, List.map_cons, List.map_nil, Option.map_none]
    simp (maxSteps := 300000) (disch := omega) only [go_sem, ↓reduceIte]
    with_reducible refine hK _ ?_
    clear hK K
    refine nx_then ?_
    refine awp_seqP rfl ?_
    refine awp_ifD (.tmp 9) rfl rfl rfl (fun h => ?_) (fun h => ?_)
    · skip
      refine awp_drop rfl ?_
      refine awp_skipP rfl ?_
      refine nx_then ?_
      refine awp_seqP rfl ?_
      refine awp_blockN 1 rfl rfl ?_
      refine awp_seqP rfl ?_
      refine awp_regP (Γ := noEnv) [3, 4, 5, 6, 7, 8] (noEnv_ok _ _) rfl rfl rfl (fun K hK => ?_)
      simp only [Tryd.f40, bodyOf, Option.getD_some, cl, cr, rOps, lights, light, rN, List.size_toArray, List.length_cons, List.length_nil, Nat.reduceAdd, Nat.zero_add, List.map_cons, List.map_nil, Option.map_none]
      simp (maxSteps := 300000) (disch := omega) only [go_sem, Nat.reduceAdd, ↓reduceIte]
      with_reducible refine hK _ ?_
      clear hK K
      refine nx_then ?_
      have e2 : (k : Int).tmod 2 = ((k % 2 : Nat) : Int) := by rw [Int.tmod_eq_emod_of_nonneg (by omega)]; omega
      have hkl : k < b.length := by omega
      refine awp_seqP rfl ?_
      refine awp_regP (Γ := noEnv) [15, 3, 5, 6, 7, 8] (noEnv_ok _ _) rfl rfl rfl (fun K hK => ?_)
      simp only [Tryd.f40, bodyOf, Option.getD_some, cl, cr, rOps, lights, light, rN, List.size_toArray, List.length_cons, List.length_nil, Nat.reduceAdd, Nat.zero_add, List.map_cons, List.map_nil, Option.map_none]
      simp (maxSteps := 300000) (disch := omega) only [go_sem, Nat.reduceAdd, Int.reduceEq, ↓reduceIte, e2]
      with_reducible refine hK _ ?_
      clear hK K
      refine nx_then ?_
      refine awp_ifD (.tmp 15) rfl rfl rfl (fun h => ?_) (fun h => ?_)
      · skip
        refine awp_drop rfl ?_
        have hs : BitVec.ofNat 64 (tagN b k) + BitVec.setWidth 64 (b.getD k 0#8) <<< 8 = BitVec.ofNat 64 (tagN b (k + 1)) := by rw [te64, tag_even _ _ (by omega)]
        refine awp_regP (Γ := noEnv) [3, 6, 7, 8] (noEnv_ok _ _) rfl rfl rfl (fun K hK => ?_)
        simp only [Tryd.f40, bodyOf, Option.getD_some, cl, cr, rOps, lights, light, rN, List.size_toArray, List.length_cons, List.length_nil, Nat.reduceAdd, Nat.zero_add, List.map_cons, List.map_nil, Option.map_none]
        simp (maxSteps := 300000) (disch := omega) only [go_sem, Nat.reduceAdd, Int.reduceLE, Int.reduceLT, BitVec.reduceOfInt, BitVec.reduceToNat, ↓reduceIte, hs]
        with_reducible refine hK _ ?_
        clear hK K
        refine nx_blk (nx_then ?_)
        refine awp_regP (Γ := noEnv) [3, 6, 7, 8] (noEnv_ok _ _) rfl rfl rfl (fun K hK => ?_)
        simp only [Tryd.f40, bodyOf, Option.getD_some, cl, cr, rOps, lights, light, rN, List.size_toArray, List.length_cons, List.length_nil, Nat.reduceAdd, Nat.zero_add, List.map_cons, List.map_nil, Option.map_none]
        simp (maxSteps := 300000) (disch := omega) only [go_sem, Nat.reduceAdd, ↓reduceIte]
        with_reducible refine hK _ ?_
        clear hK K
        refine nx_loop ?_
        refine ⟨⟨k + 1, _⟩, by simp only; omega, by simp only; omega, sub_same ?_ rfl (Nat.le_refl _)⟩
        simp only [Int.natCast_add, Int.natCast_one]
      · skip
        refine awp_drop rfl ?_
        have hs : BitVec.ofNat 64 (tagN b k) + BitVec.setWidth 64 (b.getD k 0#8) = BitVec.ofNat 64 (tagN b (k + 1)) := by rw [to64, tag_odd _ _ (by omega)]
        refine awp_regP (Γ := noEnv) [3, 6, 7, 8] (noEnv_ok _ _) rfl rfl rfl (fun K hK => ?_)
        simp only [Tryd.f40, bodyOf, Option.getD_some, cl, cr, rOps, lights, light, rN, List.size_toArray, List.length_cons, List.length_nil, Nat.reduceAdd, Nat.zero_add, List.map_cons, List.map_nil, Option.map_none]
        simp (maxSteps := 300000) (disch := omega) only [go_sem, Nat.reduceAdd, ↓reduceIte, hs]
        with_reducible refine hK _ ?_
        clear hK K
        refine nx_blk (nx_then ?_)
        refine awp_regP (Γ := noEnv) [3, 6, 7, 8] (noEnv_ok _ _) rfl rfl rfl (fun K hK => ?_)
        simp only [Tryd.f40, bodyOf, Option.getD_some, cl, cr, rOps, lights, light, rN, List.size_toArray, List.length_cons, List.length_nil, Nat.reduceAdd, Nat.zero_add, List.map_cons, List.map_nil, Option.map_none]
        simp (maxSteps := 300000) (disch := omega) only [go_sem, Nat.reduceAdd, ↓reduceIte]
        with_reducible refine hK _ ?_
        clear hK K
        refine nx_loop ?_
        refine ⟨⟨k + 1, _⟩, by simp only; omega, by simp only; omega, sub_same ?_ rfl (Nat.le_refl _)⟩
        simp only [Int.natCast_add, Int.natCast_one]
    · skip
      refine awp_drop rfl ?_
      refine awp_exitN 0 rfl rfl ?_
      refine nx_ex_then (nx_ex_loop (nx_ex_blk ?_))
      refine nx_then ?_
      refine awp_seqP rfl ?_
      obtain rfl : k = b.length := by omega
      have ht := tagN_le b b.length
      have hf : BitVec.setWidth 16 (BitVec.ofNat 64 (tagN b b.length) + (BitVec.ofNat 64 (tagN b b.length) >>> 16 &&& 65535#64)) = tagL b := fin64 _ (by omega)
      refine awp_regP (Γ := noEnv) [2] (noEnv_ok _ _) rfl rfl rfl (fun K hK => ?_)
      simp only [Tryd.f40, bodyOf, Option.getD_some, cl, cr, rOps, lights, light, rN, List.size_toArray, List.length_cons, List.length_nil, Nat.reduceAdd, Nat.zero_add, List.map_cons, List.map_nil, Option.map_none]
      simp (maxSteps := 300000) (disch := omega) only [go_sem, Nat.reduceAdd, Int.reduceLE, Int.reduceLT, BitVec.reduceOfInt, BitVec.reduceToNat, ↓reduceIte, hf]
      with_reducible refine hK _ ?_
      clear hK K
      refine nx_then ?_
      refine awp_retP rfl ?_
      simp (disch := omega) only [pureQ, resA, resAL, resA1, Tryd.f40, go_sem, ↓reduceIte]
  · cases hg
theorem ok40 : EntOK Tryd.prog GLh 40 (.pure true tagG) := ⟨⟨_, Tryd.func40, rfl, rfl⟩, tag_ok⟩

set_option maxHeartbeats 1000000 in
theorem rtag_ok : PureOK Tryd.prog GLh 41 tagG := by
  refine pure_of_awp Tryd.func41 (bodyOf_some rfl) ?_
  intro args r hg
  unfold tagG at hg
  split at hg
  · rename_i n xs
    replace hg := obind_inv hg; obtain ⟨b, hb, hg⟩ := hg
    replace hg := guardO_inv hg; obtain ⟨⟨hn, hbig⟩, hg⟩ := hg
    obtain rfl := Option.some.inj hg
    have := un8_inv _ hb; subst this
    subst hn
    clear hg hb
    refine ⟨Nat.le_of_ble_eq_true rfl, fun nx => ?_⟩
    refine awp_seqP rfl ?_
    refine awp_regP (Γ := noEnv) [0] (noEnv_ok _ _) rfl rfl rfl (fun K hK => ?_)
    simp only [Tryd.f41, bodyOf, Option.getD_some, cl, rOps, lights, light, rN, List.size_toArray, List.length_cons, List.length_nil, Nat.zero_add, List.map_cons, List.map_nil, Option.map_none]
    simp (maxSteps := 300000) (disch := omega) only [go_sem, Int.reduceLE, Int.reduceLT, BitVec.reduceOfInt, ↓reduceIte]
    with_reducible refine hK _ ?_
    clear hK K
    refine nx_then ?_
    refine awp_seqP rfl ?_
    refine awp_regP (Γ := noEnv) [0, 3] (noEnv_ok _ _) rfl rfl rfl (fun K hK => ?_)
    simp only [Tryd.f41, bodyOf, Option.getD_some, cl, cr, rOps, lights, light, rN, List.size_toArray, List.length_cons, List.length_nil, Nat.zero_add, List.map_cons, List.map_nil, Option.map_none]
    simp (maxSteps := 300000) (disch := omega) only [go_sem, Int.reduceLE, Int.reduceLT, BitVec.reduceOfInt, ↓reduceIte]
    with_reducible refine hK _ ?_
    clear hK K
    refine nx_then ?_
    refine awp_seqP rfl ?_
    refine awp_seqP rfl ?_
    refine awp_regP (Γ := noEnv) [0, 3, 4] (noEnv_ok _ _) rfl rfl rfl (fun K hK => ?_)
    simp only [Tryd.f41, bodyOf, Option.getD_some, cl, cr, rOps, lights, light, rN, List.size_toArray, List.length_cons, List.length_nil, Nat.zero_add, List.map_cons, List.map_nil, Option.map_none]
    simp (maxSteps := 300000) (disch := omega) only [go_sem, ↓reduceIte]
    with_reducible refine hK _ ?_
    clear hK K
    refine nx_then ?_
    refine awp_blockN 0 rfl rfl ?_
    refine awp_loopP (fun p : KC => { fr := [(0, .sl b.length (c8 b)), (3, .w32 (BitVec.ofNat 32 (tagN b p.k))), (4, .i p.k)], hp := fun _ => none, nx := 0, cx := p.c }) (fun p => p.k ≤ b.length) (fun p => b.length - p.k) rfl ⟨⟨0, _⟩, Nat.zero_le _, sub_same rfl rfl (Nat.le_refl _)⟩ ?_
    rintro ⟨k, c⟩ hk n0
    simp only at hk ⊢
    refine awp_seqP rfl ?_
    refine awp_seqP rfl ?_
    refine awp_regP (Γ := noEnv) [8, 0, 3, 4] (noEnv_ok _ _) rfl rfl rfl (fun K hK => ?_)
    simp only [Tryd.f41, bodyOf, Option.getD_some, cl, cr, rOps, lights, light, rN, List.size_toArray, List.length_cons, List.length_nil, Nat.reduceAdd, Nat.zero_add, List.map_cons, List.map_nil, Option.map_none]
    simp (maxSteps := 300000) (disch := omega) only [go_sem, Nat.reduceAdd, ↓reduceIte]
    with_reducible refine hK _ ?_
    clear hK K
    refine nx_then ?_
    refine awp_ifD (.tmp 8) rfl rfl rfl (fun h => ?_) (fun h => ?_)
    · skip
      refine awp_drop rfl ?_
      have e2 : (k : Int).tmod 2 = ((k % 2 : Nat) : Int) := by rw [Int.tmod_eq_emod_of_nonneg (by omega)]; omega
      have hkl : k < b.length := by omega
      refine awp_skipP rfl ?_
      refine nx_then ?_
      refine awp_seqP rfl ?_
      refine awp_blockN 1 rfl rfl ?_
      refine awp_seqP rfl ?_
      refine awp_regP (Γ := noEnv) [13, 0, 3, 4] (noEnv_ok _ _) rfl rfl rfl (fun K hK => ?_)
      simp only [Tryd.f41, bodyOf, Option.getD_some, cl, cr, rOps, lights, light, rN, List.size_toArray, List.length_cons, List.length_nil, Nat.reduceAdd, Nat.zero_add, List.map_cons, List.map_nil, Option.map_none]
      simp (maxSteps := 300000) (disch := omega) only [go_sem, Nat.reduceAdd, Int.reduceEq, ↓reduceIte, e2]
      with_reducible refine hK _ ?_
      clear hK K
      refine nx_then ?_
      refine awp_ifD (.tmp 13) rfl rfl rfl (fun h => ?_) (fun h => ?_)
      · skip
        refine awp_drop rfl ?_
        have hs : BitVec.ofNat 32 (tagN b k) + BitVec.setWidth 32 (b.getD k 0#8) <<< 8 = BitVec.ofNat 32 (tagN b (k + 1)) := by rw [te32, tag_even _ _ (by omega)]
        refine awp_regP (Γ := noEnv) [0, 3, 4] (noEnv_ok _ _) rfl rfl rfl (fun K hK => ?_)
        simp only [Tryd.f41, bodyOf, Option.getD_some, cl, cr, rOps, lights, light, rN, List.size_toArray, List.length_cons, List.length_nil, Nat.reduceAdd, Nat.zero_add, List.map_cons, List.map_nil, Option.map_none]
        simp (maxSteps := 300000) (disch := omega) only [go_sem, Nat.reduceAdd, Int.reduceLE, Int.reduceLT, BitVec.reduceOfInt, BitVec.reduceToNat, ↓reduceIte, hs]
        with_reducible refine hK _ ?_
        clear hK K
        refine nx_blk (nx_then ?_)
        refine awp_regP (Γ := noEnv) [0, 3, 4] (noEnv_ok _ _) rfl rfl rfl (fun K hK => ?_)
        simp only [Tryd.f41, bodyOf, Option.getD_some, cl, cr, rOps, lights, light, rN, List.size_toArray, List.length_cons, List.length_nil, Nat.reduceAdd, Nat.zero_add, List.map_cons, List.map_nil, Option.map_none]
        simp (maxSteps := 300000) (disch := omega) only [go_sem, Nat.reduceAdd, ↓reduceIte]
        with_reducible refine hK _ ?_
        clear hK K
        refine nx_loop ?_
        refine ⟨⟨k + 1, _⟩, by simp only; omega, by simp only; omega, sub_same ?_ rfl (Nat.le_refl _)⟩
        simp only [Int.natCast_add, Int.natCast_one]
      · skip
        refine awp_drop rfl ?_
        have hs : BitVec.ofNat 32 (tagN b k) + BitVec.setWidth 32 (b.getD k 0#8) = BitVec.ofNat 32 (tagN b (k + 1)) := by rw [to32, tag_odd _ _ (by omega)]
        refine awp_regP (Γ := noEnv) [0, 3, 4] (noEnv_ok _ _) rfl rfl rfl (fun K hK => ?_)
        simp only [Tryd.f41, bodyOf, Option.getD_some, cl, cr, rOps, lights, light, rN, List.size_toArray, List.length_cons, List.length_nil, Nat.reduceAdd, Nat.zero_add, List.map_cons, List.map_nil, Option.map_none]
        simp (maxSteps := 300000) (disch := omega) only [go_sem, Nat.reduceAdd, ↓reduceIte, hs]
        with_reducible refine hK _ ?_
        clear hK K
        refine nx_blk (nx_then ?_)
        refine awp_regP (Γ := noEnv) [0, 3, 4] (noEnv_ok _ _) rfl rfl rfl (fun K hK => ?_)
        simp only [Tryd.f41, bodyOf, Option.getD_some, cl, cr, rOps, lights, light, rN, List.size_toArray, List.length_cons, List.length_nil, Nat.reduceAdd, Nat.zero_add, List.map_cons, List.map_nil, Option.map_none]
        simp (maxSteps := 300000) (disch := omega) only [go_sem, Nat.reduceAdd, ↓reduceIte]
        with_reducible refine hK _ ?_
        clear hK K
        refine nx_loop ?_
        refine ⟨⟨k + 1, _⟩, by simp only; omega, by simp only; omega, sub_same ?_ rfl (Nat.le_refl _)⟩
        simp only [Int.natCast_add, Int.natCast_one]
    · skip
      refine awp_drop rfl ?_
      refine awp_exitN 0 rfl rfl ?_
      refine nx_ex_then (nx_ex_loop (nx_ex_blk ?_))
      refine nx_then ?_
      refine awp_seqP rfl ?_
      obtain rfl : k = b.length := by omega
      have ht := tagN_le b b.length
      have hf : BitVec.setWidth 16 (BitVec.ofNat 32 (tagN b b.length) + (BitVec.ofNat 32 (tagN b b.length) >>> 16 &&& 65535#32)) = tagL b := fin32 _ (by omega)
      refine awp_regP (Γ := noEnv) [3] (noEnv_ok _ _) rfl rfl rfl (fun K hK => ?_)
      simp only [Tryd.f41, bodyOf, Option.getD_some, cl, cr, rOps, lights, light, rN, List.size_toArray, List.length_cons, List.length_nil, Nat.reduceAdd, Nat.zero_add, List.map_cons, List.map_nil, Option.map_none]
      simp (maxSteps := 300000) (disch := omega) only [go_sem, Nat.reduceAdd, Int.reduceLE, Int.reduceLT, BitVec.reduceOfInt, BitVec.reduceToNat, ↓reduceIte]
      with_reducible refine hK _ ?_
      clear hK K
      refine nx_then ?_
      refine awp_seqP rfl ?_
      refine awp_regP (Γ := noEnv) [2] (noEnv_ok _ _) rfl rfl rfl (fun K hK => ?_)
      simp only [Tryd.f41, bodyOf, Option.getD_some, cl, cr, rOps, lights, light, rN, List.size_toArray, List.length_cons, List.length_nil, Nat.reduceAdd, Nat.zero_add, List.map_cons, List.map_nil, Option.map_none]
      simp (maxSteps := 300000) (disch := omega) only [go_sem, Nat.reduceAdd, ↓reduceIte, hf]
      with_reducible refine hK _ ?_
      clear hK K
      refine nx_then ?_
      refine awp_retP rfl ?_
      simp (disch := omega) only [pureQ, resA, resAL, resA1, Tryd.f41, go_sem, ↓reduceIte]
  · cases hg
theorem ok41 : EntOK Tryd.prog GLh 41 (.pure true tagG) := ⟨⟨_, Tryd.func41, rfl, rfl⟩, rtag_ok⟩

theorem place_eq (k n : Int) (h : 0 < n) : (if k.tmod n < 0 then k.tmod n + n else k.tmod n) = k % n := by
  have e : k.tmod n % n = k % n := by
    conv => rhs; rw [← Int.tmod_add_mul_tdiv k n]
    rw [Int.add_mul_emod_self_left]
  have hb : (k.tmod n).natAbs < n.natAbs := by rw [Int.natAbs_tmod]; exact Nat.mod_lt _ (by omega)
  split
  · rw [← e, ← Int.add_emod_right, Int.emod_eq_of_lt (by omega) (by omega)]
  · rw [← e, Int.emod_eq_of_lt (by omega) (by omega)]
def placeG : List AV → Option AV
  | [.i k, .i n] => guardO (0 < n ∧ n ≤ 1000000000) (some (.i (k % n)))
  | _ => none
theorem placeG_eq (k n : Int) : placeG [.i k, .i n] = guardO (0 < n ∧ n ≤ 1000000000) (some (.i (k % n))) := (rfl)
attribute [go_sem] placeG_eq

set_option maxHeartbeats 1000000 in
theorem place_ok : PureOK Tryd.prog GLh 44 placeG := by
  refine pure_of_awp Tryd.func44 (bodyOf_some rfl) ?_
  intro args r hg
  unfold placeG at hg
  split at hg
  · rename_i k n
    replace hg := guardO_inv hg; obtain ⟨⟨h0, hbig⟩, hg⟩ := hg
    obtain rfl := Option.some.inj hg
    clear hg
    refine ⟨Nat.le_of_ble_eq_true rfl, fun nx => ?_⟩
    have hp := place_eq k n h0
    have hb : (k.tmod n).natAbs < n.natAbs := by rw [Int.natAbs_tmod]; exact Nat.mod_lt _ (by omega)
    have hne : ¬ n = 0 := by omega
    refine awp_seqP rfl ?_
    refine awp_regP (Γ := noEnv) [0, 1] (noEnv_ok _ _) rfl rfl rfl (fun K hK => ?_)
    simp only [Tryd.f44, bodyOf, Option.getD_some, cl, rOps, lights, light, rN, List.size_toArray, List.length_cons, List.length_nil, Nat.zero_add, List.map_cons, List.map_nil, Option.map_none]
    simp (maxSteps := 300000) (disch := omega) only [go_sem, ↓reduceIte]
    with_reducible refine hK _ ?_
    clear hK K
    refine nx_then ?_
    refine awp_seqP rfl ?_
    refine awp_regP (Γ := noEnv) [0, 1] (noEnv_ok _ _) rfl rfl rfl (fun K hK => ?_)
    simp only [Tryd.f44, bodyOf, Option.getD_some, cl, cr, rOps, lights, light, rN, List.size_toArray, List.length_cons, List.length_nil, Nat.reduceAdd, Nat.zero_add, List.map_cons, List.map_nil, Option.map_none]
    simp (maxSteps := 300000) (disch := omega) only [go_sem, Nat.reduceAdd, ↓reduceIte, if_neg hne]
    with_reducible refine hK _ ?_
    clear hK K
    refine nx_then ?_
    refine awp_seqP rfl ?_
    refine awp_seqP rfl ?_
    refine awp_regP (Γ := noEnv) [9, 0, 1] (noEnv_ok _ _) rfl rfl rfl (fun K hK => ?_)
    simp only [Tryd.f44, bodyOf, Option.getD_some, cl, cr, rOps, lights, light, rN, List.size_toArray, List.length_cons, List.length_nil, Nat.reduceAdd, Nat.zero_add, List.map_cons, List.map_nil, Option.map_none]
    simp (maxSteps := 300000) (disch := omega) only [go_sem, Nat.reduceAdd, ↓reduceIte]
    with_reducible refine hK _ ?_
    clear hK K
    refine nx_then ?_
    refine awp_ifD (.tmp 9) rfl rfl rfl (fun h => ?_) (fun h => ?_)
    · skip
      refine awp_drop rfl ?_
      rw [if_pos (by assumption)] at hp
      refine awp_regP (Γ := noEnv) [0] (noEnv_ok _ _) rfl rfl rfl (fun K hK => ?_)
      simp only [Tryd.f44, bodyOf, Option.getD_some, cl, cr, rOps, lights, light, rN, List.size_toArray, List.length_cons, List.length_nil, Nat.reduceAdd, Nat.zero_add, List.map_cons, List.map_nil, Option.map_none]
      simp (maxSteps := 300000) (disch := omega) only [go_sem, Nat.reduceAdd, ↓reduceIte, hp]
      with_reducible refine hK _ ?_
      clear hK K
      refine nx_then ?_
      refine awp_seqP rfl ?_
      refine awp_regP (Γ := noEnv) [4] (noEnv_ok _ _) rfl rfl rfl (fun K hK => ?_)
      simp only [Tryd.f44, bodyOf, Option.getD_some, cl, cr, rOps, lights, light, rN, List.size_toArray, List.length_cons, List.length_nil, Nat.reduceAdd, Nat.zero_add, List.map_cons, List.map_nil, Option.map_none]
      simp (maxSteps := 300000) (disch := omega) only [go_sem, Nat.reduceAdd, ↓reduceIte]
      with_reducible refine hK _ ?_
      clear hK K
      refine nx_then ?_
      refine awp_retP rfl ?_
      simp (disch := omega) only [pureQ, resA, resAL, resA1, Tryd.f44, go_sem, ↓reduceIte]
    · skip
      refine awp_drop rfl ?_
      refine awp_skipP rfl ?_
      refine nx_then ?_
      refine awp_seqP rfl ?_
      rw [if_neg (by assumption)] at hp
      refine awp_regP (Γ := noEnv) [4] (noEnv_ok _ _) rfl rfl rfl (fun K hK => ?_)
      simp only [Tryd.f44, bodyOf, Option.getD_some, cl, cr, rOps, lights, light, rN, List.size_toArray, List.length_cons, List.length_nil, Nat.reduceAdd, Nat.zero_add, List.map_cons, List.map_nil, Option.map_none]
      simp (maxSteps := 300000) (disch := omega) only [go_sem, Nat.reduceAdd, ↓reduceIte, hp]
      with_reducible refine hK _ ?_
      clear hK K
      refine nx_then ?_
      refine awp_retP rfl ?_
      simp (disch := omega) only [pureQ, resA, resAL, resA1, Tryd.f44, go_sem, ↓reduceIte]
  · cases hg
theorem ok44 : EntOK Tryd.prog GLh 44 (.pure true placeG) := ⟨⟨_, Tryd.func44, rfl, rfl⟩, place_ok⟩
end Go.AX
