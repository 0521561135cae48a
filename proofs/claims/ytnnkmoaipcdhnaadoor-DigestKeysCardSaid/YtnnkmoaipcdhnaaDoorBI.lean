/-
  Digest, part A: the tag, as the program and the reference tell it; a place. Digest, part B: names' bytes and small letters, as the program and the reference tell them. Digest, part C: small letters, as the program and the reference tell them. Digest, part D: a key's digest, as the program and the reference tell it. Digest, part E: a key's digest, as the reference tells it.
-/
import Derived.Test.YtnnkmoaipcdhnaaDoorBF
import Derived.Test.YtnnkmoaipcdhnaaDoorBH
namespace Go.AX
open Go Go.Proofs

/-- The sum of a key's bytes, by twos. -/
def tagN : List B8 → Nat → Nat
  | _, 0 => 0
  | l, k + 1 => tagN l k + (if k % 2 = 0 then 256 * (l.getD k 0#8).toNat else (l.getD k 0#8).toNat)
theorem tagN_le (l : List B8) (k : Nat) : tagN l k ≤ 65280 * k := by
  induction k with
  | zero => simp [tagN]
  | succ k ih =>
    have := (l.getD k 0#8).isLt
    rw [tagN]
    split <;> omega
def tagL (l : List B8) : BitVec 16 := BitVec.ofNat 16 (tagN l l.length + tagN l l.length / 65536 % 65536)
def tagG : List AV → Option AV
  | [.sl n xs] => obind (un8 xs) fun b => guardO (b.length = n ∧ n ≤ 60000) (some (.w16 (tagL b)))
  | _ => none
theorem tagG_eq (n : Nat) (xs : List AV) : tagG [.sl n xs] = obind (un8 xs) fun b => guardO (b.length = n ∧ n ≤ 60000) (some (.w16 (tagL b))) := (rfl)
attribute [go_sem] tagG_eq

theorem te64 (s : Nat) (x : B8) : BitVec.ofNat 64 s + BitVec.setWidth 64 x <<< 8 = BitVec.ofNat 64 (s + 256 * x.toNat) := by
  apply BitVec.eq_of_toNat_eq
  have := x.isLt
  simp only [BitVec.toNat_add, BitVec.toNat_ofNat, BitVec.toNat_shiftLeft, BitVec.toNat_setWidth, Nat.shiftLeft_eq]; omega
theorem to64 (s : Nat) (x : B8) : BitVec.ofNat 64 s + BitVec.setWidth 64 x = BitVec.ofNat 64 (s + x.toNat) := by
  apply BitVec.eq_of_toNat_eq
  have := x.isLt
  simp only [BitVec.toNat_add, BitVec.toNat_ofNat, BitVec.toNat_setWidth]; omega
theorem te32 (s : Nat) (x : B8) : BitVec.ofNat 32 s + BitVec.setWidth 32 x <<< 8 = BitVec.ofNat 32 (s + 256 * x.toNat) := by
  apply BitVec.eq_of_toNat_eq
  have := x.isLt
  simp only [BitVec.toNat_add, BitVec.toNat_ofNat, BitVec.toNat_shiftLeft, BitVec.toNat_setWidth, Nat.shiftLeft_eq]; omega
theorem to32 (s : Nat) (x : B8) : BitVec.ofNat 32 s + BitVec.setWidth 32 x = BitVec.ofNat 32 (s + x.toNat) := by
  apply BitVec.eq_of_toNat_eq
  have := x.isLt
  simp only [BitVec.toNat_add, BitVec.toNat_ofNat, BitVec.toNat_setWidth]; omega
theorem tag_even (l : List B8) (k : Nat) (h : k % 2 = 0) : tagN l (k + 1) = tagN l k + 256 * (l.getD k 0#8).toNat := by rw [tagN, if_pos h]
theorem tag_odd (l : List B8) (k : Nat) (h : ¬ k % 2 = 0) : tagN l (k + 1) = tagN l k + (l.getD k 0#8).toNat := by rw [tagN, if_neg h]

theorem and16 (a : Nat) : a &&& 65535 = a % 65536 := Nat.and_two_pow_sub_one_eq_mod a 16
theorem fin64 (s : Nat) (_ : s < 4294967296) : BitVec.setWidth 16 (BitVec.ofNat 64 s + (BitVec.ofNat 64 s >>> 16 &&& 65535#64)) = BitVec.ofNat 16 (s + s / 65536 % 65536) := by
  apply BitVec.eq_of_toNat_eq
  have e : (65535#64 : BitVec 64).toNat = 65535 := rfl
  simp only [BitVec.toNat_setWidth, BitVec.toNat_add, BitVec.toNat_and, BitVec.toNat_ushiftRight, BitVec.toNat_ofNat, Nat.shiftRight_eq_div_pow, and16, e]; omega
theorem fin32 (s : Nat) (_ : s < 4294900000) : BitVec.setWidth 16 (BitVec.ofNat 32 s + (BitVec.ofNat 32 s >>> 16 &&& 65535#32)) = BitVec.ofNat 16 (s + s / 65536 % 65536) := by
  apply BitVec.eq_of_toNat_eq
  have e : (65535#32 : BitVec 32).toNat = 65535 := rfl
  simp only [BitVec.toNat_setWidth, BitVec.toNat_add, BitVec.toNat_and, BitVec.toNat_ushiftRight, BitVec.toNat_ofNat, Nat.shiftRight_eq_div_pow, and16, e]; omega

set_option maxHeartbeats 1000000 in
theorem tag_ok : PureOK Tryd.prog GLh 40 tagG := by
  refine pure_of_awp Tryd.func40 (bodyOf_some rfl) ?_
  intro args r hg
  unfold tagG at hg
  split at hg
  · rename_i n xs
    replace hg := obind_inv hg; obtain ⟨b, hb, hg⟩ := hg
    replace hg := guardO_inv hg; obtain ⟨⟨hn, hbig⟩, hg⟩ := hg
    obtain rfl := Option.some.inj hg
    have := un8_inv _ hb; subst this
    subst hn
    clear hg hb
    refine ⟨Nat.le_of_ble_eq_true rfl, fun nx => ?_⟩
    refine awp_seqP rfl ?_
    refine awp_regP (Γ := noEnv) [0] (noEnv_ok _ _) rfl rfl rfl (fun K hK => ?_)
    simp only [Tryd.f40, bodyOf, Option.getD_some, cl, rOps, lights, light, rN, List.size_toArray, List.length_cons, List.length_nil, Nat.zero_add, List.map_cons, List.map_nil, Option.map_none]
    simp (maxSteps := 300000) (disch := omega) only [go_sem, Int.reduceLE, Int.reduceLT, BitVec.reduceOfInt, ↓reduceIte]
    with_reducible refine hK _ ?_
    clear hK K
    refine nx_then ?_
    refine awp_seqP rfl ?_
    refine awp_regP (Γ := noEnv) [0, 3] (noEnv_ok _ _) rfl rfl rfl (fun K hK => ?_)
    simp only [Tryd.f40, bodyOf, Option.getD_some, cl, cr, rOps, lights, light, rN, List.size_toArray, List.length_cons, List.length_nil, Nat.zero_add, List.map_cons, List.map_nil, Option.map_none]
    simp (maxSteps := 300000) (disch := omega) only [go_sem, Int.reduceLE, Int.reduceLT, BitVec.reduceOfInt, ↓reduceIte]
    with_reducible refine hK _ ?_
    clear hK K
    refine nx_then ?_
    refine awp_seqP rfl ?_
    refine awp_seqP rfl ?_
    refine awp_regP (Γ := noEnv) [3, 6, 7, 8] (noEnv_ok _ _) rfl rfl rfl (fun K hK => ?_)
    simp only [Tryd.f40, bodyOf, Option.getD_some, cl, cr, rOps, lights, light, rN, List.size_toArray, List.length_cons, List.length_nil, Nat.reduceAdd, Nat.zero_add, List.map_cons, List.map_nil, Option.map_none]
    simp (maxSteps := 300000) (disch := omega) only [go_sem, Nat.reduceAdd, ↓reduceIte]
    with_reducible refine hK _ ?_
    clear hK K
    refine nx_then ?_
    refine awp_blockN 0 rfl rfl ?_
    refine awp_loopP (fun p : KC => { fr := [(3, .w64 (BitVec.ofNat 64 (tagN b p.k))), (6, .sl b.length (c8 b)), (7, .i b.length), (8, .i p.k)], hp := fun _ => none, nx := 0, cx := p.c }) (fun p => p.k ≤ b.length) (fun p => b.length - p.k) rfl ⟨⟨0, _⟩, Nat.zero_le _, sub_same rfl rfl (Nat.le_refl _)⟩ ?_
    rintro ⟨k, c⟩ hk n0
    simp only at hk ⊢
    refine awp_seqP rfl ?_
    refine awp_regP (Γ := noEnv) [9, 3, 6, 7, 8] (noEnv_ok _ _) rfl rfl rfl (fun K hK => ?_)
    simp only [Tryd.f40, bodyOf, Option.getD_some, cl, cr, rOps, lights, light, rN, List.size_toArray, List.length_cons, List.length_nil, Nat.zero_add, List.map_cons, List.map_nil, Option.map_none]
    simp (maxSteps := 300000) (disch := omega) only [go_sem, ↓reduceIte]
    with_reducible refine hK _ ?_
    clear hK K
    refine nx_then ?_
    refine awp_seqP rfl ?_
    refine awp_ifD (.tmp 9) rfl rfl rfl (fun h => ?_) (fun h => ?_)
    · skip
      refine awp_drop rfl ?_
      refine awp_skipP rfl ?_
      refine nx_then ?_
      refine awp_seqP rfl ?_
      refine awp_blockN 1 rfl rfl ?_
      refine awp_seqP rfl ?_
      refine awp_regP (Γ := noEnv) [3, 4, 5, 6, 7, 8] (noEnv_ok _ _) rfl rfl rfl (fun K hK => ?_)
      simp only [Tryd.f40, bodyOf, Option.getD_some, cl, cr, rOps, lights, light, rN, List.size_toArray, List.length_cons, List.length_nil, Nat.reduceAdd, Nat.zero_add, List.map_cons, List.map_nil, Option.map_none]
      simp (maxSteps := 300000) (disch := omega) only [go_sem, Nat.reduceAdd, ↓reduceIte]
      with_reducible refine hK _ ?_
      clear hK K
      refine nx_then ?_
      have e2 : (k : Int).tmod 2 = ((k % 2 : Nat) : Int) := by rw [Int.tmod_eq_emod_of_nonneg (by omega)]; omega
      have hkl : k < b.length := by omega
      refine awp_seqP rfl ?_
      refine awp_regP (Γ := noEnv) [15, 3, 5, 6, 7, 8] (noEnv_ok _ _) rfl rfl rfl (fun K hK => ?_)
      simp only [Tryd.f40, bodyOf, Option.getD_some, cl, cr, rOps, lights, light, rN, List.size_toArray, List.length_cons, List.length_nil, Nat.reduceAdd, Nat.zero_add, List.map_cons, List.map_nil, Option.map_none]
      simp (maxSteps := 300000) (disch := omega) only [go_sem, Nat.reduceAdd, Int.reduceEq, ↓reduceIte, e2]
      with_reducible refine hK _ ?_
      clear hK K
      refine nx_then ?_
      refine awp_ifD (.tmp 15) rfl rfl rfl (fun h => ?_) (fun h => ?_)
      · skip
        refine awp_drop rfl ?_
        have hs : BitVec.ofNat 64 (tagN b k) + BitVec.setWidth 64 (b.getD k 0#8) <<< 8 = BitVec.ofNat 64 (tagN b (k + 1)) := by rw [te64, tag_even _ _ (by omega)]
        refine awp_regP (Γ := noEnv) [3, 6, 7, 8] (noEnv_ok _ _) rfl rfl rfl (fun K hK => ?_)
        simp only [Tryd.f40, bodyOf, Option.getD_some, cl, cr, rOps, lights, light, rN, List.size_toArray, List.length_cons, List.length_nil, Nat.reduceAdd, Nat.zero_add, List.map_cons, List.map_nil, Option.map_none]
        simp (maxSteps := 300000) (disch := omega) only [go_sem, Nat.reduceAdd, Int.reduceLE, Int.reduceLT, BitVec.reduceOfInt, BitVec.reduceToNat, ↓reduceIte, hs]
        with_reducible refine hK _ ?_
        clear hK K
        refine nx_blk (nx_then ?_)
        refine awp_regP (Γ := noEnv) [3, 6, 7, 8] (noEnv_ok _ _) rfl rfl rfl (fun K hK => ?_)
        simp only [Tryd.f40, bodyOf, Option.getD_some, cl, cr, rOps, lights, light, rN, List.size_toArray, List.length_cons, List.length_nil, Nat.reduceAdd, Nat.zero_add, List.map_cons, List.map_nil, Option.map_none]
        simp (maxSteps := 300000) (disch := omega) only [go_sem, Nat.reduceAdd, ↓reduceIte]
        with_reducible refine hK _ ?_
        clear hK K
        refine nx_loop ?_
        refine ⟨⟨k + 1, _⟩, by simp only; omega, by simp only; omega, sub_same ?_ rfl (Nat.le_refl _)⟩
        simp only [Int.natCast_add, Int.natCast_one]
      · skip
        refine awp_drop rfl ?_
        have hs : BitVec.ofNat 64 (tagN b k) + BitVec.setWidth 64 (b.getD k 0#8) = BitVec.ofNat 64 (tagN b (k + 1)) := by rw [to64, tag_odd _ _ (by omega)]
        refine awp_regP (Γ := noEnv) [3, 6, 7, 8] (noEnv_ok _ _) rfl rfl rfl (fun K hK => ?_)
        simp only [Tryd.f40, bodyOf, Option.getD_some, cl, cr, rOps, lights, light, rN, List.size_toArray, List.length_cons, List.length_nil, Nat.reduceAdd, Nat.zero_add, List.map_cons, List.map_nil, Option.map_none]
        simp (maxSteps := 300000) (disch := omega) only [go_sem, Nat.reduceAdd, ↓reduceIte, hs]
        with_reducible refine hK _ ?_
        clear hK K
        refine nx_blk (nx_then ?_)
        refine awp_regP (Γ := noEnv) [3, 6, 7, 8] (noEnv_ok _ _) rfl rfl rfl (fun K hK => ?_)
        simp only [Tryd.f40, bodyOf, Option.getD_some, cl, cr, rOps, lights, light, rN, List.size_toArray, List.length_cons, List.length_nil, Nat.reduceAdd, Nat.zero_add, List.map_cons, List.map_nil, Option.map_none]
        simp (maxSteps := 300000) (disch := omega) only [go_sem, Nat.reduceAdd, ↓reduceIte]
        with_reducible refine hK _ ?_
        clear hK K
        refine nx_loop ?_
        refine ⟨⟨k + 1, _⟩, by simp only; omega, by simp only; omega, sub_same ?_ rfl (Nat.le_refl _)⟩
        simp only [Int.natCast_add, Int.natCast_one]
    · skip
      refine awp_drop rfl ?_
      refine awp_exitN 0 rfl rfl ?_
      refine nx_ex_then (nx_ex_loop (nx_ex_blk ?_))
      refine nx_then ?_
      refine awp_seqP rfl ?_
      obtain rfl : k = b.length := by omega
      have ht := tagN_le b b.length
      have hf : BitVec.setWidth 16 (BitVec.ofNat 64 (tagN b b.length) + (BitVec.ofNat 64 (tagN b b.length) >>> 16 &&& 65535#64)) = tagL b := fin64 _ (by omega)
      refine awp_regP (Γ := noEnv) [2] (noEnv_ok _ _) rfl rfl rfl (fun K hK => ?_)
      simp only [Tryd.f40, bodyOf, Option.getD_some, cl, cr, rOps, lights, light, rN, List.size_toArray, List.length_cons, List.length_nil, Nat.reduceAdd, Nat.zero_add, List.map_cons, List.map_nil, Option.map_none]
      simp (maxSteps := 300000) (disch := omega) only [go_sem, Nat.reduceAdd, Int.reduceLE, Int.reduceLT, BitVec.reduceOfInt, BitVec.reduceToNat, ↓reduceIte, hf]
      with_reducible refine hK _ ?_
      clear hK K
      refine nx_then ?_
      refine awp_retP rfl ?_
      simp (disch := omega) only [pureQ, resA, resAL, resA1, Tryd.f40, go_sem, ↓reduceIte]
  · cases hg
theorem ok40 : EntOK Tryd.prog GLh 40 (.pure true tagG) := ⟨⟨_, Tryd.func40, rfl, rfl⟩, tag_ok⟩

set_option maxHeartbeats 1000000 in
theorem rtag_ok : PureOK Tryd.prog GLh 41 tagG := by
  refine pure_of_awp Tryd.func41 (bodyOf_some rfl) ?_
  intro args r hg
  unfold tagG at hg
  split at hg
  · rename_i n xs
    replace hg := obind_inv hg; obtain ⟨b, hb, hg⟩ := hg
    replace hg := guardO_inv hg; obtain ⟨⟨hn, hbig⟩, hg⟩ := hg
    obtain rfl := Option.some.inj hg
    have := un8_inv _ hb; subst this
    subst hn
    clear hg hb
    refine ⟨Nat.le_of_ble_eq_true rfl, fun nx => ?_⟩
    refine awp_seqP rfl ?_
    refine awp_regP (Γ := noEnv) [0] (noEnv_ok _ _) rfl rfl rfl (fun K hK => ?_)
    simp only [Tryd.f41, bodyOf, Option.getD_some, cl, rOps, lights, light, rN, List.size_toArray, List.length_cons, List.length_nil, Nat.zero_add, List.map_cons, List.map_nil, Option.map_none]
    simp (maxSteps := 300000) (disch := omega) only [go_sem, Int.reduceLE, Int.reduceLT, BitVec.reduceOfInt, ↓reduceIte]
    with_reducible refine hK _ ?_
    clear hK K
    refine nx_then ?_
    refine awp_seqP rfl ?_
    refine awp_regP (Γ := noEnv) [0, 3] (noEnv_ok _ _) rfl rfl rfl (fun K hK => ?_)
    simp only [Tryd.f41, bodyOf, Option.getD_some, cl, cr, rOps, lights, light, rN, List.size_toArray, List.length_cons, List.length_nil, Nat.zero_add, List.map_cons, List.map_nil, Option.map_none]
    simp (maxSteps := 300000) (disch := omega) only [go_sem, Int.reduceLE, Int.reduceLT, BitVec.reduceOfInt, ↓reduceIte]
    with_reducible refine hK _ ?_
    clear hK K
    refine nx_then ?_
    refine awp_seqP rfl ?_
    refine awp_seqP rfl ?_
    refine awp_regP (Γ := noEnv) [0, 3, 4] (noEnv_ok _ _) rfl rfl rfl (fun K hK => ?_)
    simp only [Tryd.f41, bodyOf, Option.getD_some, cl, cr, rOps, lights, light, rN, List.size_toArray, List.length_cons, List.length_nil, Nat.zero_add, List.map_cons, List.map_nil, Option.map_none]
    simp (maxSteps := 300000) (disch := omega) only [go_sem, ↓reduceIte]
    with_reducible refine hK _ ?_
    clear hK K
    refine nx_then ?_
    refine awp_blockN 0 rfl rfl ?_
    refine awp_loopP (fun p : KC => { fr := [(0, .sl b.length (c8 b)), (3, .w32 (BitVec.ofNat 32 (tagN b p.k))), (4, .i p.k)], hp := fun _ => none, nx := 0, cx := p.c }) (fun p => p.k ≤ b.length) (fun p => b.length - p.k) rfl ⟨⟨0, _⟩, Nat.zero_le _, sub_same rfl rfl (Nat.le_refl _)⟩ ?_
    rintro ⟨k, c⟩ hk n0
    simp only at hk ⊢
    refine awp_seqP rfl ?_
    refine awp_seqP rfl ?_
    refine awp_regP (Γ := noEnv) [8, 0, 3, 4] (noEnv_ok _ _) rfl rfl rfl (fun K hK => ?_)
    simp only [Tryd.f41, bodyOf, Option.getD_some, cl, cr, rOps, lights, light, rN, List.size_toArray, List.length_cons, List.length_nil, Nat.reduceAdd, Nat.zero_add, List.map_cons, List.map_nil, Option.map_none]
    simp (maxSteps := 300000) (disch := omega) only [go_sem, Nat.reduceAdd, ↓reduceIte]
    with_reducible refine hK _ ?_
    clear hK K
    refine nx_then ?_
    refine awp_ifD (.tmp 8) rfl rfl rfl (fun h => ?_) (fun h => ?_)
    · skip
      refine awp_drop rfl ?_
      have e2 : (k : Int).tmod 2 = ((k % 2 : Nat) : Int) := by rw [Int.tmod_eq_emod_of_nonneg (by omega)]; omega
      have hkl : k < b.length := by omega
      refine awp_skipP rfl ?_
      refine nx_then ?_
      refine awp_seqP rfl ?_
      refine awp_blockN 1 rfl rfl ?_
      refine awp_seqP rfl ?_
      refine awp_regP (Γ := noEnv) [13, 0, 3, 4] (noEnv_ok _ _) rfl rfl rfl (fun K hK => ?_)
      simp only [Tryd.f41, bodyOf, Option.getD_some, cl, cr, rOps, lights, light, rN, List.size_toArray, List.length_cons, List.length_nil, Nat.reduceAdd, Nat.zero_add, List.map_cons, List.map_nil, Option.map_none]
      simp (maxSteps := 300000) (disch := omega) only [go_sem, Nat.reduceAdd, Int.reduceEq, ↓reduceIte, e2]
      with_reducible refine hK _ ?_
      clear hK K
      refine nx_then ?_
      refine awp_ifD (.tmp 13) rfl rfl rfl (fun h => ?_) (fun h => ?_)
      · skip
        refine awp_drop rfl ?_
        have hs : BitVec.ofNat 32 (tagN b k) + BitVec.setWidth 32 (b.getD k 0#8) <<< 8 = BitVec.ofNat 32 (tagN b (k + 1)) := by rw [te32, tag_even _ _ (by omega)]
        refine awp_regP (Γ := noEnv) [0, 3, 4] (noEnv_ok _ _) rfl rfl rfl (fun K hK => ?_)
        simp only [Tryd.f41, bodyOf, Option.getD_some, cl, cr, rOps, lights, light, rN, List.size_toArray, List.length_cons, List.length_nil, Nat.reduceAdd, Nat.zero_add, List.map_cons, List.map_nil, Option.map_none]
        simp (maxSteps := 300000) (disch := omega) only [go_sem, Nat.reduceAdd, Int.reduceLE, Int.reduceLT, BitVec.reduceOfInt, BitVec.reduceToNat, ↓reduceIte, hs]
        with_reducible refine hK _ ?_
        clear hK K
        refine nx_blk (nx_then ?_)
        refine awp_regP (Γ := noEnv) [0, 3, 4] (noEnv_ok _ _) rfl rfl rfl (fun K hK => ?_)
        simp only [Tryd.f41, bodyOf, Option.getD_some, cl, cr, rOps, lights, light, rN, List.size_toArray, List.length_cons, List.length_nil, Nat.reduceAdd, Nat.zero_add, List.map_cons, List.map_nil, Option.map_none]
        simp (maxSteps := 300000) (disch := omega) only [go_sem, Nat.reduceAdd, ↓reduceIte]
        with_reducible refine hK _ ?_
        clear hK K
        refine nx_loop ?_
        refine ⟨⟨k + 1, _⟩, by simp only; omega, by simp only; omega, sub_same ?_ rfl (Nat.le_refl _)⟩
        simp only [Int.natCast_add, Int.natCast_one]
      · skip
        refine awp_drop rfl ?_
        have hs : BitVec.ofNat 32 (tagN b k) + BitVec.setWidth 32 (b.getD k 0#8) = BitVec.ofNat 32 (tagN b (k + 1)) := by rw [to32, tag_odd _ _ (by omega)]
        refine awp_regP (Γ := noEnv) [0, 3, 4] (noEnv_ok _ _) rfl rfl rfl (fun K hK => ?_)
        simp only [Tryd.f41, bodyOf, Option.getD_some, cl, cr, rOps, lights, light, rN, List.size_toArray, List.length_cons, List.length_nil, Nat.reduceAdd, Nat.zero_add, List.map_cons, List.map_nil, Option.map_none]
        simp (maxSteps := 300000) (disch := omega) only [go_sem, Nat.reduceAdd, ↓reduceIte, hs]
        with_reducible refine hK _ ?_
        clear hK K
        refine nx_blk (nx_then ?_)
        refine awp_regP (Γ := noEnv) [0, 3, 4] (noEnv_ok _ _) rfl rfl rfl (fun K hK => ?_)
        simp only [Tryd.f41, bodyOf, Option.getD_some, cl, cr, rOps, lights, light, rN, List.size_toArray, List.length_cons, List.length_nil, Nat.reduceAdd, Nat.zero_add, List.map_cons, List.map_nil, Option.map_none]
        simp (maxSteps := 300000) (disch := omega) only [go_sem, Nat.reduceAdd, ↓reduceIte]
        with_reducible refine hK _ ?_
        clear hK K
        refine nx_loop ?_
        refine ⟨⟨k + 1, _⟩, by simp only; omega, by simp only; omega, sub_same ?_ rfl (Nat.le_refl _)⟩
        simp only [Int.natCast_add, Int.natCast_one]
    · skip
      refine awp_drop rfl ?_
      refine awp_exitN 0 rfl rfl ?_
      refine nx_ex_then (nx_ex_loop (nx_ex_blk ?_))
      refine nx_then ?_
      refine awp_seqP rfl ?_
      obtain rfl : k = b.length := by omega
      have ht := tagN_le b b.length
      have hf : BitVec.setWidth 16 (BitVec.ofNat 32 (tagN b b.length) + (BitVec.ofNat 32 (tagN b b.length) >>> 16 &&& 65535#32)) = tagL b := fin32 _ (by omega)
      refine awp_regP (Γ := noEnv) [3] (noEnv_ok _ _) rfl rfl rfl (fun K hK => ?_)
      simp only [Tryd.f41, bodyOf, Option.getD_some, cl, cr, rOps, lights, light, rN, List.size_toArray, List.length_cons, List.length_nil, Nat.reduceAdd, Nat.zero_add, List.map_cons, List.map_nil, Option.map_none]
      simp (maxSteps := 300000) (disch := omega) only [go_sem, Nat.reduceAdd, Int.reduceLE, Int.reduceLT, BitVec.reduceOfInt, BitVec.reduceToNat, ↓reduceIte]
      with_reducible refine hK _ ?_
      clear hK K
      refine nx_then ?_
      refine awp_seqP rfl ?_
      refine awp_regP (Γ := noEnv) [2] (noEnv_ok _ _) rfl rfl rfl (fun K hK => ?_)
      simp only [Tryd.f41, bodyOf, Option.getD_some, cl, cr, rOps, lights, light, rN, List.size_toArray, List.length_cons, List.length_nil, Nat.reduceAdd, Nat.zero_add, List.map_cons, List.map_nil, Option.map_none]
      simp (maxSteps := 300000) (disch := omega) only [go_sem, Nat.reduceAdd, ↓reduceIte, hf]
      with_reducible refine hK _ ?_
      clear hK K
      refine nx_then ?_
      refine awp_retP rfl ?_
      simp (disch := omega) only [pureQ, resA, resAL, resA1, Tryd.f41, go_sem, ↓reduceIte]
  · cases hg
theorem ok41 : EntOK Tryd.prog GLh 41 (.pure true tagG) := ⟨⟨_, Tryd.func41, rfl, rfl⟩, rtag_ok⟩

theorem place_eq (k n : Int) (h : 0 < n) : (if k.tmod n < 0 then k.tmod n + n else k.tmod n) = k % n := by
  have e : k.tmod n % n = k % n := by
    conv => rhs; rw [← Int.tmod_add_mul_tdiv k n]
    rw [Int.add_mul_emod_self_left]
  have hb : (k.tmod n).natAbs < n.natAbs := by rw [Int.natAbs_tmod]; exact Nat.mod_lt _ (by omega)
  split
  · rw [← e, ← Int.add_emod_right, Int.emod_eq_of_lt (by omega) (by omega)]
  · rw [← e, Int.emod_eq_of_lt (by omega) (by omega)]
def placeG : List AV → Option AV
  | [.i k, .i n] => guardO (0 < n ∧ n ≤ 1000000000) (some (.i (k % n)))
  | _ => none
theorem placeG_eq (k n : Int) : placeG [.i k, .i n] = guardO (0 < n ∧ n ≤ 1000000000) (some (.i (k % n))) := (rfl)
attribute [go_sem] placeG_eq

set_option maxHeartbeats 1000000 in
theorem place_ok : PureOK Tryd.prog GLh 44 placeG := by
  refine pure_of_awp Tryd.func44 (bodyOf_some rfl) ?_
  intro args r hg
  unfold placeG at hg
  split at hg
  · rename_i k n
    replace hg := guardO_inv hg; obtain ⟨⟨h0, hbig⟩, hg⟩ := hg
    obtain rfl := Option.some.inj hg
    clear hg
    refine ⟨Nat.le_of_ble_eq_true rfl, fun nx => ?_⟩
    have hp := place_eq k n h0
    have hb : (k.tmod n).natAbs < n.natAbs := by rw [Int.natAbs_tmod]; exact Nat.mod_lt _ (by omega)
    have hne : ¬ n = 0 := by omega
    refine awp_seqP rfl ?_
    refine awp_regP (Γ := noEnv) [0, 1] (noEnv_ok _ _) rfl rfl rfl (fun K hK => ?_)
    simp only [Tryd.f44, bodyOf, Option.getD_some, cl, rOps, lights, light, rN, List.size_toArray, List.length_cons, List.length_nil, Nat.zero_add, List.map_cons, List.map_nil, Option.map_none]
    simp (maxSteps := 300000) (disch := omega) only [go_sem, ↓reduceIte]
    with_reducible refine hK _ ?_
    clear hK K
    refine nx_then ?_
    refine awp_seqP rfl ?_
    refine awp_regP (Γ := noEnv) [0, 1] (noEnv_ok _ _) rfl rfl rfl (fun K hK => ?_)
    simp only [Tryd.f44, bodyOf, Option.getD_some, cl, cr, rOps, lights, light, rN, List.size_toArray, List.length_cons, List.length_nil, Nat.reduceAdd, Nat.zero_add, List.map_cons, List.map_nil, Option.map_none]
    simp (maxSteps := 300000) (disch := omega) only [go_sem, Nat.reduceAdd, ↓reduceIte, if_neg hne]
    with_reducible refine hK _ ?_
    clear hK K
    refine nx_then ?_
    refine awp_seqP rfl ?_
    refine awp_seqP rfl ?_
    refine awp_regP (Γ := noEnv) [9, 0, 1] (noEnv_ok _ _) rfl rfl rfl (fun K hK => ?_)
    simp only [Tryd.f44, bodyOf, Option.getD_some, cl, cr, rOps, lights, light, rN, List.size_toArray, List.length_cons, List.length_nil, Nat.reduceAdd, Nat.zero_add, List.map_cons, List.map_nil, Option.map_none]
    simp (maxSteps := 300000) (disch := omega) only [go_sem, Nat.reduceAdd, ↓reduceIte]
    with_reducible refine hK _ ?_
    clear hK K
    refine nx_then ?_
    refine awp_ifD (.tmp 9) rfl rfl rfl (fun h => ?_) (fun h => ?_)
    · skip
      refine awp_drop rfl ?_
      rw [if_pos (by assumption)] at hp
      refine awp_regP (Γ := noEnv) [0] (noEnv_ok _ _) rfl rfl rfl (fun K hK => ?_)
      simp only [Tryd.f44, bodyOf, Option.getD_some, cl, cr, rOps, lights, light, rN, List.size_toArray, List.length_cons, List.length_nil, Nat.reduceAdd, Nat.zero_add, List.map_cons, List.map_nil, Option.map_none]
      simp (maxSteps := 300000) (disch := omega) only [go_sem, Nat.reduceAdd, ↓reduceIte, hp]
      with_reducible refine hK _ ?_
      clear hK K
      refine nx_then ?_
      refine awp_seqP rfl ?_
      refine awp_regP (Γ := noEnv) [4] (noEnv_ok _ _) rfl rfl rfl (fun K hK => ?_)
      simp only [Tryd.f44, bodyOf, Option.getD_some, cl, cr, rOps, lights, light, rN, List.size_toArray, List.length_cons, List.length_nil, Nat.reduceAdd, Nat.zero_add, List.map_cons, List.map_nil, Option.map_none]
      simp (maxSteps := 300000) (disch := omega) only [go_sem, Nat.reduceAdd, ↓reduceIte]
      with_reducible refine hK _ ?_
      clear hK K
      refine nx_then ?_
      refine awp_retP rfl ?_
      simp (disch := omega) only [pureQ, resA, resAL, resA1, Tryd.f44, go_sem, ↓reduceIte]
    · skip
      refine awp_drop rfl ?_
      refine awp_skipP rfl ?_
      refine nx_then ?_
      refine awp_seqP rfl ?_
      rw [if_neg (by assumption)] at hp
      refine awp_regP (Γ := noEnv) [4] (noEnv_ok _ _) rfl rfl rfl (fun K hK => ?_)
      simp only [Tryd.f44, bodyOf, Option.getD_some, cl, cr, rOps, lights, light, rN, List.size_toArray, List.length_cons, List.length_nil, Nat.reduceAdd, Nat.zero_add, List.map_cons, List.map_nil, Option.map_none]
      simp (maxSteps := 300000) (disch := omega) only [go_sem, Nat.reduceAdd, ↓reduceIte, hp]
      with_reducible refine hK _ ?_
      clear hK K
      refine nx_then ?_
      refine awp_retP rfl ?_
      simp (disch := omega) only [pureQ, resA, resAL, resA1, Tryd.f44, go_sem, ↓reduceIte]
  · cases hg
theorem ok44 : EntOK Tryd.prog GLh 44 (.pure true placeG) := ⟨⟨_, Tryd.func44, rfl, rfl⟩, place_ok⟩
end Go.AX

namespace Go.AX
open Go Go.Proofs

/-- A name, as the program has it. -/
def cS (ps : List (List B8)) : List AV := ps.map .s
def unS : List AV → Option (List (List B8))
  | [] => some []
  | .s l :: r => obind (unS r) fun ps => some (l :: ps)
  | _ => none
theorem unS_cS (ps : List (List B8)) : unS (cS ps) = some ps := by
  induction ps with
  | nil => rfl
  | cons p ps ih => show obind (unS (cS ps)) (fun l => some (p :: l)) = _; rw [ih, obind_some]
theorem unS_inv : ∀ {xs : List AV} {ps : List (List B8)}, unS xs = some ps → xs = cS ps
  | [], ps, h => by obtain rfl := Option.some.inj h; rfl
  | x :: r, ps, h => by
    cases x <;> simp only [unS] at h <;> first | (cases h; done) | skip
    replace h := obind_inv h; obtain ⟨l, hl, h⟩ := h
    obtain rfl := Option.some.inj h
    rw [unS_inv hl]; rfl
theorem cS_len (ps : List (List B8)) : (cS ps).length = ps.length := List.length_map ..
theorem cS_head (ps : List (List B8)) (k : Nat) (h : k < ps.length) : ((cS ps).drop k).head? = some (.s (ps.getD k [])) := by
  rw [List.head?_drop]; simp [cS, List.getElem?_map, List.getElem?_eq_getElem h]
theorem cS_noOwn (ps : List (List B8)) : noOwn (cS ps) = true := by
  simp only [noOwn, cS, List.all_eq_true, List.mem_map]
  rintro _ ⟨x, _, rfl⟩; rfl
theorem nmL_cS (ps : List (List B8)) : AV.noMem.noMemL (cS ps) = true := by
  induction ps with
  | nil => rfl
  | cons x l ih => show (AV.noMem (.s x) && AV.noMem.noMemL (cS l)) = true; rw [ih]; rfl
theorem cS_app (l m : List (List B8)) : cS l ++ cS m = cS (l ++ m) := by simp [cS]
theorem cS_one (x : List B8) : [AV.s x] = cS [x] := rfl
theorem cS_drop (l : List (List B8)) (k : Nat) : (cS l).drop k = cS (l.drop k) := by simp [cS, List.map_drop]
theorem cS_take (l : List (List B8)) (k : Nat) : (cS l).take k = cS (l.take k) := by simp [cS, List.map_take]
theorem cS_nil : cS [] = [] := rfl
theorem cS_headd (ps : List (List B8)) (k : Nat) (h : k < ps.length) : (cS (ps.drop k)).head? = some (.s (ps.getD k [])) := by rw [← cS_drop]; exact cS_head ps k h
attribute [go_sem] unS_cS cS_len cS_head cS_headd cS_noOwn nmL_cS cS_app cS_drop cS_take

/-- A name's bytes, without the end. -/
def labL (l : List B8) : List B8 := BitVec.ofInt 8 (l.length : Int) :: l
def wirB (ps : List (List B8)) : List B8 := ps.flatMap labL
def wireL (ps : List (List B8)) : List B8 := wirB ps ++ [0#8]
theorem wirB_nil : wirB [] = [] := rfl
theorem wirB_cons (p : List B8) (ps : List (List B8)) : wirB (p :: ps) = labL p ++ wirB ps := by simp [wirB]
theorem wirB_len (p : List B8) (ps : List (List B8)) : (wirB (p :: ps)).length = p.length + 1 + (wirB ps).length := by rw [wirB_cons]; simp [labL]; omega
theorem wirB_take (ps : List (List B8)) (k : Nat) (h : k < ps.length) : wirB (ps.take (k + 1)) = wirB (ps.take k) ++ labL (ps.getD k []) := by
  have e : ps.take (k + 1) = ps.take k ++ [ps.getD k []] := by rw [List.take_succ_eq_append_getElem h]; simp [List.getD, List.getElem?_eq_getElem h, -List.take_append_getElem]
  rw [e]; unfold wirB; rw [List.flatMap_append]; simp only [List.flatMap_cons, List.flatMap_nil, List.append_nil]
theorem wirB_ge (ps : List (List B8)) : ps.length ≤ (wirB ps).length := by
  induction ps with
  | nil => simp
  | cons p ps ih => rw [wirB_len, List.length_cons]; omega
theorem wirB_mem (ps : List (List B8)) (k : Nat) : (ps.getD k []).length ≤ (wirB ps).length := by
  induction ps generalizing k with
  | nil => simp
  | cons p ps ih =>
    rw [wirB_len]
    cases k with
    | zero => simp; omega
    | succ k => have := ih k; simp at this ⊢; omega
theorem wirB_tk (ps : List (List B8)) (k : Nat) : (wirB (ps.take k)).length ≤ (wirB ps).length := by
  induction ps generalizing k with
  | nil => simp
  | cons p ps ih =>
    cases k with
    | zero => simp [wirB]
    | succ k => rw [List.take_succ_cons, wirB_len, wirB_len]; have := ih k; omega
def wireG : List AV → Option (Nat × Nat × List AV)
  | [.sl n xs] => obind (unS xs) fun ps => guardO (ps.length = n ∧ (wirB ps).length ≤ 1000000) (some ((wireL ps).length, 1, c8 (wireL ps)))
  | _ => none
theorem wireG_eq (n : Nat) (xs : List AV) : wireG [.sl n xs] = obind (unS xs) fun ps => guardO (ps.length = n ∧ (wirB ps).length ≤ 1000000) (some ((wireL ps).length, 1, c8 (wireL ps))) := (rfl)
theorem map_w8 (l : List B8) : List.map AV.w8 l = c8 l := rfl
attribute [go_sem] wireG_eq map_w8

set_option maxHeartbeats 1000000 in
theorem wire_ok : FreshOK Tryd.prog GLh 71 wireG := by
  refine fresh_of_awp Tryd.func71 (bodyOf_some rfl) ?_
  intro args r hg
  unfold wireG at hg
  split at hg
  · rename_i n xs
    replace hg := obind_inv hg; obtain ⟨ps, hb, hg⟩ := hg
    replace hg := guardO_inv hg; obtain ⟨⟨hn, hbig⟩, hg⟩ := hg
    obtain rfl := Option.some.inj hg
    have := unS_inv hb; subst this
    subst hn
    clear hg hb
    refine ⟨Nat.le_of_ble_eq_true rfl, fun nx => ?_⟩
    have hpn := wirB_ge ps
    refine awp_seqP rfl ?_
    refine awp_regP (Γ := noEnv) [0] (noEnv_ok _ _) rfl rfl rfl (fun K hK => ?_)
    simp only [Tryd.f71, bodyOf, Option.getD_some, cl, rOps, lights, light, rN, List.size_toArray, List.length_cons, List.length_nil, Nat.zero_add, List.map_cons, List.map_nil, Option.map_none]
    simp (maxSteps := 300000) (disch := omega) only [go_sem, ↓reduceIte]
    with_reducible refine hK _ ?_
    clear hK K
    refine nx_then ?_
    refine awp_seqP rfl ?_
    refine awp_regP (Γ := noEnv) [0, 3] (noEnv_ok _ _) rfl rfl rfl (fun K hK => ?_)
    simp only [Tryd.f71, bodyOf, Option.getD_some, cl, cr, rOps, lights, light, rN, List.size_toArray, List.length_cons, List.length_nil, Nat.zero_add, List.map_cons, List.map_nil, Option.map_none]
    simp (maxSteps := 300000) (disch := omega) only [go_sem, ↓reduceIte]
    with_reducible refine hK _ ?_
    clear hK K
    refine nx_then ?_
    refine awp_seqP rfl ?_
    refine awp_seqP rfl ?_
    refine awp_regP (Γ := noEnv) [3, 6, 7, 8] (noEnv_ok _ _) rfl rfl rfl (fun K hK => ?_)
    simp only [Tryd.f71, bodyOf, Option.getD_some, cl, cr, rOps, lights, light, rN, List.size_toArray, List.length_cons, List.length_nil, Nat.reduceAdd, Nat.zero_add, List.map_cons, List.map_nil, Option.map_none]
    simp (maxSteps := 300000) (disch := omega) only [go_sem, Nat.reduceAdd, ↓reduceIte]
    with_reducible refine hK _ ?_
    clear hK K
    refine nx_then ?_
    refine awp_own 3 1 rfl ?_
    refine awp_keep [3, 6, 7, 8] ?_
    simp only [kf_nil, kf_cons, look_cons, ↓reduceIte, Nat.reduceEqDiff]
    refine awp_blockN 0 rfl rfl ?_
    refine awp_loopP (fun p : KIC => { fr := [(3, .os p.id 0 (wirB (ps.take p.k)).length 1 true), (6, .sl ps.length (cS ps)), (7, .i ps.length), (8, .i p.k)], hp := upd (fun _ => none) p.id (.cells (c8 (wirB (ps.take p.k))) true), nx := 0, cx := p.c }) (fun p => p.k ≤ ps.length ∧ p.id < p.c) (fun p => ps.length - p.k) rfl ⟨⟨0, _, _⟩, ⟨Nat.zero_le _, by simp only; omega⟩, sub_same rfl rfl (Nat.le_refl _)⟩ ?_
    rintro ⟨k, id, c⟩ ⟨hk, hid⟩ n0
    simp only at hk hid ⊢
    refine awp_seqP rfl ?_
    refine awp_regP (Γ := noEnv) [9, 3, 6, 7, 8] (noEnv_ok _ _) rfl rfl rfl (fun K hK => ?_)
    simp only [Tryd.f71, bodyOf, Option.getD_some, cl, cr, rOps, lights, light, rN, List.size_toArray, List.length_cons, List.length_nil, Nat.zero_add, List.map_cons, List.map_nil, Option.map_none]
    simp (maxSteps := 300000) (disch := omega) only [go_sem, ↓reduceIte]
    with_reducible refine hK _ ?_
    clear hK K
    refine nx_then ?_
    refine awp_seqP rfl ?_
    refine awp_ifD (.tmp 9) rfl rfl rfl (fun h => ?_) (fun h => ?_)
    · skip
      refine awp_drop rfl ?_
      have hkl : k < ps.length := by omega
      have ht := wirB_tk ps k
      have hm := wirB_mem ps k
      refine awp_skipP rfl ?_
      refine nx_then ?_
      refine awp_seqP rfl ?_
      refine awp_blockN 1 rfl rfl ?_
      refine awp_seqP rfl ?_
      refine awp_regP (Γ := noEnv) [3, 5, 6, 7, 8] (noEnv_ok _ _) rfl rfl rfl (fun K hK => ?_)
      simp only [Tryd.f71, bodyOf, Option.getD_some, cl, cr, rOps, lights, light, rN, List.size_toArray, List.length_cons, List.length_nil, Nat.reduceAdd, Nat.zero_add, List.map_cons, List.map_nil, Option.map_none]
      simp (maxSteps := 300000) (disch := omega) only [go_sem, Nat.reduceAdd, ↓reduceIte]
      with_reducible refine hK _ ?_
      clear hK K
      refine nx_then ?_
      generalize hl : ps.getD k [] = l at hm
      refine awp_regP (Γ := noEnv) [3, 6, 7, 8] (noEnv_ok _ _) rfl rfl rfl (fun K hK => ?_)
      simp only [Tryd.f71, bodyOf, Option.getD_some, cl, cr, rOps, lights, light, rN, List.size_toArray, List.length_cons, List.length_nil, Nat.reduceAdd, Nat.zero_add, List.map_cons, List.map_nil, Option.map_none]
      simp (maxSteps := 300000) (disch := omega) only [go_sem, Nat.reduceAdd, Nat.reduceLeDiff, Nat.reduceLT, ↓reduceIte]
      with_reducible refine hK _ ?_
      clear hK K
      refine nx_blk (nx_then ?_)
      have e6 : wirB (ps.take (k + 1)) = wirB (ps.take k) ++ [BitVec.ofInt 8 (l.length : Int)] ++ l := by rw [wirB_take ps k hkl, hl]; simp [labL]
      have e7 : (wirB (ps.take (k + 1))).length = (wirB (ps.take k)).length + 1 + l.length := by rw [e6]; simp; omega
      refine awp_regP (Γ := noEnv) [3, 6, 7, 8] (noEnv_ok _ _) rfl rfl rfl (fun K hK => ?_)
      simp only [Tryd.f71, bodyOf, Option.getD_some, cl, cr, rOps, lights, light, rN, List.size_toArray, List.length_cons, List.length_nil, Nat.reduceAdd, Nat.zero_add, List.map_cons, List.map_nil, Option.map_none]
      simp (maxSteps := 300000) (disch := omega) only [go_sem, Nat.reduceAdd, ↓reduceIte]
      with_reducible refine hK _ ?_
      clear hK K
      refine nx_loop ?_
      refine ⟨⟨k + 1, c + 1 + 3 + 7, _⟩, ⟨by simp only; omega, by simp only; omega⟩, by simp only; omega, ⟨fun _ => .inr ?_, fun j o h => ?_, Nat.le_refl _⟩⟩
      · simp only [e7, Int.natCast_add, Int.natCast_one]
      · simp only at h
        exact hsub_cons (by simp (disch := omega) only [up_app, ↓reduceIte, eq_self, e6]) (hsub_nil) j o h
    · skip
      refine awp_drop rfl ?_
      refine awp_exitN 0 rfl rfl ?_
      refine nx_ex_then (nx_ex_loop (nx_ex_blk ?_))
      refine nx_then ?_
      refine awp_seqP rfl ?_
      obtain rfl : k = ps.length := by omega
      have e8 : ps.take ps.length = ps := List.take_length
      have e9 : (wireL ps).length = (wirB ps).length + 1 := by simp [wireL]
      have ew : wirB ps ++ [0#8] = wireL ps := rfl
      refine awp_regP (Γ := noEnv) [2] (noEnv_ok _ _) rfl rfl rfl (fun K hK => ?_)
      simp only [Tryd.f71, bodyOf, Option.getD_some, cl, cr, rOps, lights, light, rN, List.size_toArray, List.length_cons, List.length_nil, Nat.reduceAdd, Nat.zero_add, List.map_cons, List.map_nil, Option.map_none]
      simp (maxSteps := 300000) (disch := omega) only [go_sem, Nat.reduceAdd, Nat.reduceLeDiff, Nat.reduceLT, Int.reduceLE, Int.reduceLT, BitVec.reduceOfInt, ↓reduceIte, e8, ew]
      with_reducible refine hK _ ?_
      clear hK K
      refine nx_then ?_
      refine awp_retP rfl ?_
      simp (disch := omega) only [freshQ, freshR, resA, resAL, resA1, Tryd.f71, go_sem, ↓reduceIte, c8_noOwn, e9]
  · cases hg
theorem ok71 : EntOK Tryd.prog GLh 71 (.fresh true wireG) := ⟨⟨_, Tryd.func71, rfl, rfl⟩, wire_ok⟩

set_option maxHeartbeats 1000000 in
theorem rwire_ok : FreshOK Tryd.prog GLh 73 wireG := by
  refine fresh_of_awp Tryd.func73 (bodyOf_some rfl) ?_
  intro args r hg
  unfold wireG at hg
  split at hg
  · rename_i n xs
    replace hg := obind_inv hg; obtain ⟨ps, hb, hg⟩ := hg
    replace hg := guardO_inv hg; obtain ⟨⟨hn, hbig⟩, hg⟩ := hg
    obtain rfl := Option.some.inj hg
    have := unS_inv hb; subst this
    subst hn
    clear hg hb
    refine ⟨Nat.le_of_ble_eq_true rfl, fun nx => ?_⟩
    have hpn := wirB_ge ps
    refine awp_seqP rfl ?_
    refine awp_regP (Γ := noEnv) [0] (noEnv_ok _ _) rfl rfl rfl (fun K hK => ?_)
    simp only [Tryd.f73, bodyOf, Option.getD_some, cl, rOps, lights, light, rN, List.size_toArray, List.length_cons, List.length_nil, Nat.zero_add, List.map_cons, List.map_nil, Option.map_none]
    simp (maxSteps := 300000) (disch := omega) only [go_sem, ↓reduceIte]
    with_reducible refine hK _ ?_
    clear hK K
    refine nx_then ?_
    refine awp_seqP rfl ?_
    refine awp_regP (Γ := noEnv) [0, 3] (noEnv_ok _ _) rfl rfl rfl (fun K hK => ?_)
    simp only [Tryd.f73, bodyOf, Option.getD_some, cl, cr, rOps, lights, light, rN, List.size_toArray, List.length_cons, List.length_nil, Nat.zero_add, List.map_cons, List.map_nil, Option.map_none]
    simp (maxSteps := 300000) (disch := omega) only [go_sem, ↓reduceIte]
    with_reducible refine hK _ ?_
    clear hK K
    refine nx_then ?_
    refine awp_seqP rfl ?_
    refine awp_seqP rfl ?_
    refine awp_regP (Γ := noEnv) [0, 3, 4] (noEnv_ok _ _) rfl rfl rfl (fun K hK => ?_)
    simp only [Tryd.f73, bodyOf, Option.getD_some, cl, cr, rOps, lights, light, rN, List.size_toArray, List.length_cons, List.length_nil, Nat.zero_add, List.map_cons, List.map_nil, Option.map_none]
    simp (maxSteps := 300000) (disch := omega) only [go_sem, ↓reduceIte]
    with_reducible refine hK _ ?_
    clear hK K
    refine nx_then ?_
    refine awp_own 3 1 rfl ?_
    refine awp_keep [0, 3, 4] ?_
    simp only [kf_nil, kf_cons, look_cons, ↓reduceIte, Nat.reduceEqDiff]
    refine awp_blockN 0 rfl rfl ?_
    refine awp_loopP (fun p : KIC => { fr := [(0, .sl ps.length (cS ps)), (3, .os p.id 0 (wirB (ps.take p.k)).length 1 true), (4, .i p.k)], hp := upd (fun _ => none) p.id (.cells (c8 (wirB (ps.take p.k))) true), nx := 0, cx := p.c }) (fun p => p.k ≤ ps.length ∧ p.id < p.c) (fun p => ps.length - p.k) rfl ⟨⟨0, _, _⟩, ⟨Nat.zero_le _, by simp only; omega⟩, sub_same rfl rfl (Nat.le_refl _)⟩ ?_
    rintro ⟨k, id, c⟩ ⟨hk, hid⟩ n0
    simp only at hk hid ⊢
    refine awp_seqP rfl ?_
    refine awp_seqP rfl ?_
    refine awp_regP (Γ := noEnv) [8, 0, 3, 4] (noEnv_ok _ _) rfl rfl rfl (fun K hK => ?_)
    simp only [Tryd.f73, bodyOf, Option.getD_some, cl, cr, rOps, lights, light, rN, List.size_toArray, List.length_cons, List.length_nil, Nat.reduceAdd, Nat.zero_add, List.map_cons, List.map_nil, Option.map_none]
    simp (maxSteps := 300000) (disch := omega) only [go_sem, Nat.reduceAdd, ↓reduceIte]
    with_reducible refine hK _ ?_
    clear hK K
    refine nx_then ?_
    refine awp_ifD (.tmp 8) rfl rfl rfl (fun h => ?_) (fun h => ?_)
    · skip
      refine awp_drop rfl ?_
      have hkl : k < ps.length := by omega
      have ht := wirB_tk ps k
      have hm := wirB_mem ps k
      obtain ⟨l, hl⟩ : ∃ l, ps.getD k [] = l := ⟨_, rfl⟩
      rw [hl] at hm
      have e6 : wirB (ps.take (k + 1)) = wirB (ps.take k) ++ [BitVec.ofInt 8 (l.length : Int)] ++ l := by rw [wirB_take ps k hkl, hl]; simp [labL]
      have e7 : (wirB (ps.take (k + 1))).length = (wirB (ps.take k)).length + 1 + l.length := by rw [e6]; simp; omega
      refine awp_skipP rfl ?_
      refine nx_then ?_
      refine awp_seqP rfl ?_
      refine awp_blockN 1 rfl rfl ?_
      refine awp_drwP (Γ := noEnv) (fun k => if k = 4 then 1 else if k = 12 then 1 else if k = 6 then 1 else 0) [0, 3, 4] mixed (noEnv_ok _ _) rfl rfl rfl (by kernel_rfl) (fun K hK => ?_)
      simp only [Tryd.f73, bodyOf, Option.getD_some, cl, cr, rOps, lights, light, rN, List.size_toArray, List.length_cons, List.length_nil, Nat.reduceAdd, Nat.zero_add, List.map_cons, List.map_nil, Option.map_none]
      simp (maxSteps := 300000) (disch := omega) only [go_sem, Nat.reduceAdd, Nat.reduceLeDiff, Nat.reduceLT, ↓reduceIte, hl]
      with_reducible refine hK _ ?_
      clear hK K
      refine nx_blk (nx_then ?_)
      refine awp_regP (Γ := noEnv) [0, 3, 4] (noEnv_ok _ _) rfl rfl rfl (fun K hK => ?_)
      simp only [Tryd.f73, bodyOf, Option.getD_some, cl, cr, rOps, lights, light, rN, List.size_toArray, List.length_cons, List.length_nil, Nat.reduceAdd, Nat.zero_add, List.map_cons, List.map_nil, Option.map_none]
      simp (maxSteps := 300000) (disch := omega) only [go_sem, Nat.reduceAdd, ↓reduceIte]
      with_reducible refine hK _ ?_
      clear hK K
      refine nx_loop ?_
      refine ⟨⟨k + 1, c + 4 + 13, _⟩, ⟨by simp only; omega, by simp only; omega⟩, by simp only; omega, ⟨fun _ => .inr ?_, fun j o h => ?_, Nat.le_refl _⟩⟩
      · simp only [e7, Int.natCast_add, Int.natCast_one]
      · simp only at h
        exact hsub_cons (by simp (disch := omega) only [up_app, ↓reduceIte, eq_self, e6]) (hsub_nil) j o h
    · skip
      refine awp_drop rfl ?_
      refine awp_exitN 0 rfl rfl ?_
      refine nx_ex_then (nx_ex_loop (nx_ex_blk ?_))
      refine nx_then ?_
      refine awp_seqP rfl ?_
      obtain rfl : k = ps.length := by omega
      have e8 : ps.take ps.length = ps := List.take_length
      have e9 : (wireL ps).length = (wirB ps).length + 1 := by simp [wireL]
      have ew : wirB ps ++ [0#8] = wireL ps := rfl
      refine awp_regP (Γ := noEnv) [2] (noEnv_ok _ _) rfl rfl rfl (fun K hK => ?_)
      simp only [Tryd.f73, bodyOf, Option.getD_some, cl, cr, rOps, lights, light, rN, List.size_toArray, List.length_cons, List.length_nil, Nat.reduceAdd, Nat.zero_add, List.map_cons, List.map_nil, Option.map_none]
      simp (maxSteps := 300000) (disch := omega) only [go_sem, Nat.reduceAdd, Nat.reduceLeDiff, Nat.reduceLT, Int.reduceLE, Int.reduceLT, BitVec.reduceOfInt, ↓reduceIte, e8, ew]
      with_reducible refine hK _ ?_
      clear hK K
      refine nx_then ?_
      refine awp_retP rfl ?_
      simp (disch := omega) only [freshQ, freshR, resA, resAL, resA1, Tryd.f73, go_sem, ↓reduceIte, c8_noOwn, e9]
  · cases hg
theorem ok73 : EntOK Tryd.prog GLh 73 (.fresh true wireG) := ⟨⟨_, Tryd.func73, rfl, rfl⟩, rwire_ok⟩

end Go.AX

namespace Go.AX
open Go Go.Proofs

def low8 (c : B8) : B8 := if 65#8 ≤ c ∧ c ≤ 90#8 then c + 32#8 else c
def lowK (l : List B8) (k : Nat) : List B8 := (l.take k).map low8 ++ l.drop k
theorem lowK_len (l : List B8) (k : Nat) : (lowK l k).length = l.length := by simp [lowK]; omega
theorem lowK_get (l : List B8) (k : Nat) (h : k < l.length) : (lowK l k).getD k 0#8 = l.getD k 0#8 := by
  unfold lowK
  rw [List.getD_eq_getElem?_getD, List.getElem?_append_right (by simp; omega)]
  simp [List.length_take, Nat.min_eq_left (Nat.le_of_lt h)]
theorem lowK_set (l : List B8) (k : Nat) (h : k < l.length) : (lowK l k).set k (low8 (l.getD k 0#8)) = lowK l (k + 1) := by
  unfold lowK
  rw [List.set_append_right _ _ (by simp; omega), List.length_map, List.length_take, Nat.min_eq_left (Nat.le_of_lt h), Nat.sub_self, List.drop_eq_getElem_cons h, List.set_cons_zero, List.take_succ_eq_append_getElem h]
  simp [List.getElem?_eq_getElem h, -List.take_append_getElem]
theorem lowK_same (l : List B8) (k : Nat) (h : k < l.length) (hs : low8 (l.getD k 0#8) = l.getD k 0#8) : lowK l k = lowK l (k + 1) := by
  rw [← lowK_set l k h, hs, ← lowK_get l k h]
  apply List.ext_getElem?
  intro i
  rw [List.getElem?_set]
  split
  · rename_i e; subst e
    rw [lowK_len, if_pos h, List.getD_eq_getElem?_getD]
    have : k < (lowK l k).length := by rw [lowK_len]; exact h
    simp [List.getElem?_eq_getElem this]
  · rfl
theorem lowK_zero (l : List B8) : lowK l 0 = l := by simp [lowK]
theorem lowK_all (l : List B8) : lowK l l.length = l.map low8 := by simp [lowK]
def smallG : List AV → Option AV
  | [.s l] => guardO (l.length ≤ 1000000) (some (.s (l.map low8)))
  | _ => none
theorem smallG_eq (l : List B8) : smallG [.s l] = guardO (l.length ≤ 1000000) (some (.s (l.map low8))) := (rfl)
attribute [go_sem] smallG_eq

set_option maxHeartbeats 1000000 in
theorem small_ok : PureOK Tryd.prog GLh 83 smallG := by
  refine pure_of_awp Tryd.func83 (bodyOf_some rfl) ?_
  intro args r hg
  unfold smallG at hg
  split at hg
  · rename_i l
    replace hg := guardO_inv hg; obtain ⟨hbig, hg⟩ := hg
    obtain rfl := Option.some.inj hg
    clear hg
    refine ⟨Nat.le_of_ble_eq_true rfl, fun nx => ?_⟩
    refine awp_seqP rfl ?_
    refine awp_regP (Γ := noEnv) [0] (noEnv_ok _ _) rfl rfl rfl (fun K hK => ?_)
    simp only [Tryd.f83, bodyOf, Option.getD_some, cl, rOps, lights, light, rN, List.size_toArray, List.length_cons, List.length_nil, Nat.zero_add, List.map_cons, List.map_nil, Option.map_none]
    simp (maxSteps := 300000) (disch := omega) only [go_sem, ↓reduceIte]
    with_reducible refine hK _ ?_
    clear hK K
    refine nx_then ?_
    refine awp_seqP rfl ?_
    refine awp_regP (Γ := noEnv) [3] (noEnv_ok _ _) rfl rfl rfl (fun K hK => ?_)
    simp only [Tryd.f83, bodyOf, Option.getD_some, cl, cr, rOps, lights, light, rN, List.size_toArray, List.length_cons, List.length_nil, Nat.reduceAdd, Nat.zero_add, List.map_cons, List.map_nil, Option.map_none]
    simp (maxSteps := 300000) (disch := omega) only [go_sem, Nat.reduceAdd, ↓reduceIte]
    with_reducible refine hK _ ?_
    clear hK K
    refine nx_then ?_
    refine awp_seqP rfl ?_
    refine awp_seqP rfl ?_
    refine awp_regP (Γ := noEnv) [3, 8, 9, 10] (noEnv_ok _ _) rfl rfl rfl (fun K hK => ?_)
    simp only [Tryd.f83, bodyOf, Option.getD_some, cl, cr, rOps, lights, light, rN, List.size_toArray, List.length_cons, List.length_nil, Nat.reduceAdd, Nat.zero_add, List.map_cons, List.map_nil, Option.map_none]
    simp (maxSteps := 300000) (disch := omega) only [go_sem, Nat.reduceAdd, ↓reduceIte]
    with_reducible refine hK _ ?_
    clear hK K
    refine nx_then ?_
    refine awp_blockN 0 rfl rfl ?_
    refine awp_loopP (fun p : KC => { fr := [(3, .os (nx + 1 + 1) 0 l.length 1 true), (8, .os (nx + 1 + 1) 0 l.length 1 true), (9, .i l.length), (10, .i p.k)], hp := upd (fun _ => none) (nx + 1 + 1) (.cells (c8 (lowK l p.k)) true), nx := 0, cx := p.c }) (fun p => p.k ≤ l.length ∧ nx + 1 + 1 < p.c) (fun p => l.length - p.k) rfl ⟨⟨0, _⟩, ⟨Nat.zero_le _, by simp only; omega⟩, sub_same rfl (by simp only [lowK_zero]) (Nat.le_refl _)⟩ ?_
    rintro ⟨k, c⟩ ⟨hk, hid⟩ n0
    simp only at hk hid ⊢
    refine awp_seqP rfl ?_
    refine awp_regP (Γ := noEnv) [11, 3, 8, 9, 10] (noEnv_ok _ _) rfl rfl rfl (fun K hK => ?_)
    simp only [Tryd.f83, bodyOf, Option.getD_some, cl, cr, rOps, lights, light, rN, List.size_toArray, List.length_cons, List.length_nil, Nat.zero_add, List.map_cons, List.map_nil, Option.map_none]
    simp (maxSteps := 300000) (disch := omega) only [go_sem, ↓reduceIte]
    with_reducible refine hK _ ?_
    clear hK K
    refine nx_then ?_
    refine awp_seqP rfl ?_
    refine awp_ifD (.tmp 11) rfl rfl rfl (fun h => ?_) (fun h => ?_)
    · skip
      refine awp_drop rfl ?_
      have hkl : k < l.length := by omega
      have hll := lowK_len l k
      have hgt := lowK_get l k hkl
      refine awp_skipP rfl ?_
      refine nx_then ?_
      refine awp_seqP rfl ?_
      refine awp_blockN 1 rfl rfl ?_
      refine awp_seqP rfl ?_
      refine awp_regP (Γ := noEnv) [3, 4, 5, 8, 9, 10] (noEnv_ok _ _) rfl rfl rfl (fun K hK => ?_)
      simp only [Tryd.f83, bodyOf, Option.getD_some, cl, cr, rOps, lights, light, rN, List.size_toArray, List.length_cons, List.length_nil, Nat.reduceAdd, Nat.zero_add, List.map_cons, List.map_nil, Option.map_none]
      simp (maxSteps := 300000) (disch := omega) only [go_sem, Nat.reduceAdd, ↓reduceIte, hgt]
      with_reducible refine hK _ ?_
      clear hK K
      refine nx_then ?_
      obtain ⟨x, hx⟩ : ∃ x, l.getD k 0#8 = x := ⟨_, rfl⟩
      rw [hx]
      by_cases ha : 65#8 ≤ x
      · skip
        by_cases hb : x ≤ 90#8
        · skip
          refine awp_seqP rfl ?_
          refine awp_regP (Γ := noEnv) [20, 3, 4, 5, 8, 9, 10] (noEnv_ok _ _) rfl rfl rfl (fun K hK => ?_)
          simp only [Tryd.f83, bodyOf, Option.getD_some, cl, cr, rOps, lights, light, rN, List.size_toArray, List.length_cons, List.length_nil, Nat.reduceAdd, Nat.zero_add, List.map_cons, List.map_nil, Option.map_none, Option.map_some, List.getElem?_toArray, List.getElem?_cons_zero, List.getElem?_cons_succ, Option.bind_some]
          simp (maxSteps := 300000) (disch := omega) only [go_sem, Nat.reduceAdd, Int.reduceLE, Int.reduceLT, BitVec.reduceOfInt, ↓reduceIte, decide_eq_true ha, decide_eq_true hb]
          with_reducible refine hK _ ?_
          clear hK K
          refine nx_then ?_
          refine awp_ifB (.tmp 20) rfl rfl rfl (fun h => ?_) (fun h => ?_)
          · skip
            refine awp_drop rfl ?_
            clear h
            have e1 : x + 97#8 - 65#8 = low8 x := by unfold low8; rw [if_pos ⟨ha, hb⟩]; bv_omega
            refine awp_regP (Γ := noEnv) [3, 8, 9, 10] (noEnv_ok _ _) rfl rfl rfl (fun K hK => ?_)
            simp only [Tryd.f83, bodyOf, Option.getD_some, cl, cr, rOps, lights, light, rN, List.size_toArray, List.length_cons, List.length_nil, Nat.reduceAdd, Nat.zero_add, List.map_cons, List.map_nil, Option.map_none]
            simp (maxSteps := 300000) (disch := omega) only [go_sem, Nat.reduceAdd, Int.reduceLE, Int.reduceLT, BitVec.reduceOfInt, ↓reduceIte, e1, c8_set]
            with_reducible refine hK _ ?_
            clear hK K
            refine nx_blk (nx_then ?_)
            have e2 := lowK_set l k hkl
            rw [hx] at e2
            refine awp_regP (Γ := noEnv) [3, 8, 9, 10] (noEnv_ok _ _) rfl rfl rfl (fun K hK => ?_)
            simp only [Tryd.f83, bodyOf, Option.getD_some, cl, cr, rOps, lights, light, rN, List.size_toArray, List.length_cons, List.length_nil, Nat.reduceAdd, Nat.zero_add, List.map_cons, List.map_nil, Option.map_none]
            simp (maxSteps := 300000) (disch := omega) only [go_sem, Nat.reduceAdd, ↓reduceIte]
            with_reducible refine hK _ ?_
            clear hK K
            refine nx_loop ?_
            refine ⟨⟨k + 1, _⟩, ⟨by simp only; omega, by simp only; omega⟩, by simp only; omega, sub_same ?_ ?_ (Nat.le_refl _)⟩
            · simp only [Int.natCast_add, Int.natCast_one]
            · simp only [e2]
          · skip
            refine awp_drop rfl ?_
            cases h
        · skip
          refine awp_seqP rfl ?_
          refine awp_regP (Γ := noEnv) [20, 3, 4, 5, 8, 9, 10] (noEnv_ok _ _) rfl rfl rfl (fun K hK => ?_)
          simp only [Tryd.f83, bodyOf, Option.getD_some, cl, cr, rOps, lights, light, rN, List.size_toArray, List.length_cons, List.length_nil, Nat.reduceAdd, Nat.zero_add, List.map_cons, List.map_nil, Option.map_none, Option.map_some, List.getElem?_toArray, List.getElem?_cons_zero, List.getElem?_cons_succ, Option.bind_some]
          simp (maxSteps := 300000) (disch := omega) only [go_sem, Nat.reduceAdd, Int.reduceLE, Int.reduceLT, BitVec.reduceOfInt, ↓reduceIte, decide_eq_true ha, decide_eq_false hb]
          with_reducible refine hK _ ?_
          clear hK K
          refine nx_then ?_
          refine awp_ifB (.tmp 20) rfl rfl rfl (fun h => ?_) (fun h => ?_)
          · skip
            refine awp_drop rfl ?_
            cases h
          · skip
            refine awp_drop rfl ?_
            clear h
            have e1 : low8 x = x := by unfold low8; rw [if_neg (fun h => by first | exact hb h.2 | exact ha h.1)]
            have e2 := lowK_same l k hkl (by rw [hx, e1])
            refine awp_skipP rfl ?_
            refine nx_blk (nx_then ?_)
            refine awp_regP (Γ := noEnv) [3, 8, 9, 10] (noEnv_ok _ _) rfl rfl rfl (fun K hK => ?_)
            simp only [Tryd.f83, bodyOf, Option.getD_some, cl, cr, rOps, lights, light, rN, List.size_toArray, List.length_cons, List.length_nil, Nat.reduceAdd, Nat.zero_add, List.map_cons, List.map_nil, Option.map_none]
            simp (maxSteps := 300000) (disch := omega) only [go_sem, Nat.reduceAdd, ↓reduceIte]
            with_reducible refine hK _ ?_
            clear hK K
            refine nx_loop ?_
            refine ⟨⟨k + 1, _⟩, ⟨by simp only; omega, by simp only; omega⟩, by simp only; omega, sub_same ?_ ?_ (Nat.le_refl _)⟩
            · simp only [Int.natCast_add, Int.natCast_one]
            · simp only [← e2]
      · skip
        refine awp_seqP rfl ?_
        refine awp_regP (Γ := noEnv) [20, 3, 4, 5, 8, 9, 10] (noEnv_ok _ _) rfl rfl rfl (fun K hK => ?_)
        simp only [Tryd.f83, bodyOf, Option.getD_some, cl, cr, rOps, lights, light, rN, List.size_toArray, List.length_cons, List.length_nil, Nat.reduceAdd, Nat.zero_add, List.map_cons, List.map_nil, Option.map_none, Option.map_some, List.getElem?_toArray, List.getElem?_cons_zero, List.getElem?_cons_succ, Option.bind_some]
        simp (maxSteps := 300000) (disch := omega) only [go_sem, Nat.reduceAdd, Int.reduceLE, Int.reduceLT, BitVec.reduceOfInt, reduceCtorEq, ↓reduceIte, decide_eq_false ha]
        with_reducible refine hK _ ?_
        clear hK K
        refine nx_then ?_
        refine awp_ifB (.tmp 20) rfl rfl rfl (fun h => ?_) (fun h => ?_)
        · skip
          refine awp_drop rfl ?_
          cases h
        · skip
          refine awp_drop rfl ?_
          clear h
          have e1 : low8 x = x := by unfold low8; rw [if_neg (fun h => by first | exact hb h.2 | exact ha h.1)]
          have e2 := lowK_same l k hkl (by rw [hx, e1])
          refine awp_skipP rfl ?_
          refine nx_blk (nx_then ?_)
          refine awp_regP (Γ := noEnv) [3, 8, 9, 10] (noEnv_ok _ _) rfl rfl rfl (fun K hK => ?_)
          simp only [Tryd.f83, bodyOf, Option.getD_some, cl, cr, rOps, lights, light, rN, List.size_toArray, List.length_cons, List.length_nil, Nat.reduceAdd, Nat.zero_add, List.map_cons, List.map_nil, Option.map_none]
          simp (maxSteps := 300000) (disch := omega) only [go_sem, Nat.reduceAdd, ↓reduceIte]
          with_reducible refine hK _ ?_
          clear hK K
          refine nx_loop ?_
          refine ⟨⟨k + 1, _⟩, ⟨by simp only; omega, by simp only; omega⟩, by simp only; omega, sub_same ?_ ?_ (Nat.le_refl _)⟩
          · simp only [Int.natCast_add, Int.natCast_one]
          · simp only [← e2]
    · skip
      refine awp_drop rfl ?_
      refine awp_exitN 0 rfl rfl ?_
      refine nx_ex_then (nx_ex_loop (nx_ex_blk ?_))
      refine nx_then ?_
      refine awp_seqP rfl ?_
      obtain rfl : k = l.length := by omega
      have hml : (l.map low8).length = l.length := List.length_map ..
      have htk : (l.map low8).take l.length = l.map low8 := List.take_of_length_le (by omega)
      refine awp_regP (Γ := noEnv) [2] (noEnv_ok _ _) rfl rfl rfl (fun K hK => ?_)
      simp only [Tryd.f83, bodyOf, Option.getD_some, cl, cr, rOps, lights, light, rN, List.size_toArray, List.length_cons, List.length_nil, Nat.reduceAdd, Nat.zero_add, List.map_cons, List.map_nil, Option.map_none]
      simp (maxSteps := 300000) (disch := omega) only [go_sem, Nat.reduceAdd, ↓reduceIte, lowK_all, hml, htk, unW8_c8]
      with_reducible refine hK _ ?_
      clear hK K
      refine nx_then ?_
      refine awp_retP rfl ?_
      simp (disch := omega) only [pureQ, resA, resAL, resA1, Tryd.f83, go_sem, ↓reduceIte]
  · cases hg
theorem ok83 : EntOK Tryd.prog GLh 83 (.pure true smallG) := ⟨⟨_, Tryd.func83, rfl, rfl⟩, small_ok⟩

def lowG : List AV → Option AV
  | [.w8 c] => some (.w8 (low8 c))
  | _ => none
theorem lowG_eq (c : B8) : lowG [.w8 c] = some (.w8 (low8 c)) := (rfl)
attribute [go_sem] lowG_eq

set_option maxHeartbeats 1000000 in
theorem low_ok : PureOK Tryd.prog GLh 87 lowG := by
  refine pure_of_awp Tryd.func87 (bodyOf_some rfl) ?_
  intro args r hg
  unfold lowG at hg
  split at hg
  · rename_i x
    obtain rfl := Option.some.inj hg
    clear hg
    refine ⟨Nat.le_of_ble_eq_true rfl, fun nx => ?_⟩
    refine awp_seqP rfl ?_
    refine awp_regP (Γ := noEnv) [0] (noEnv_ok _ _) rfl rfl rfl (fun K hK => ?_)
    simp only [Tryd.f87, bodyOf, Option.getD_some, cl, rOps, lights, light, rN, List.size_toArray, List.length_cons, List.length_nil, Nat.zero_add, List.map_cons, List.map_nil, Option.map_none]
    simp (maxSteps := 300000) (disch := omega) only [go_sem, Int.reduceLE, Int.reduceLT, BitVec.reduceOfInt, ↓reduceIte]
    with_reducible refine hK _ ?_
    clear hK K
    refine nx_then ?_
    by_cases ha : 65#8 ≤ x
    · skip
      by_cases hb : x ≤ 90#8
      · skip
        refine awp_seqP rfl ?_
        refine awp_seqP rfl ?_
        refine awp_regP (Γ := noEnv) [8, 0] (noEnv_ok _ _) rfl rfl rfl (fun K hK => ?_)
        simp only [Tryd.f87, bodyOf, Option.getD_some, cl, cr, rOps, lights, light, rN, List.size_toArray, List.length_cons, List.length_nil, Nat.reduceAdd, Nat.zero_add, List.map_cons, List.map_nil, Option.map_none, Option.map_some, List.getElem?_toArray, List.getElem?_cons_zero, List.getElem?_cons_succ, Option.bind_some]
        simp (maxSteps := 300000) (disch := omega) only [go_sem, Nat.reduceAdd, Int.reduceLE, Int.reduceLT, BitVec.reduceOfInt, ↓reduceIte, decide_eq_true ha, decide_eq_true hb]
        with_reducible refine hK _ ?_
        clear hK K
        refine nx_then ?_
        refine awp_ifB (.tmp 8) rfl rfl rfl (fun h => ?_) (fun h => ?_)
        · skip
          refine awp_drop rfl ?_
          have e1 : x + 32#8 = low8 x := by unfold low8; rw [if_pos ⟨ha, hb⟩]
          refine awp_seqP rfl ?_
          refine awp_regP (Γ := noEnv) [2] (noEnv_ok _ _) rfl rfl rfl (fun K hK => ?_)
          simp only [Tryd.f87, bodyOf, Option.getD_some, cl, cr, rOps, lights, light, rN, List.size_toArray, List.length_cons, List.length_nil, Nat.reduceAdd, Nat.zero_add, List.map_cons, List.map_nil, Option.map_none]
          simp (maxSteps := 300000) (disch := omega) only [go_sem, Nat.reduceAdd, Int.reduceLE, Int.reduceLT, BitVec.reduceOfInt, ↓reduceIte, e1]
          with_reducible refine hK _ ?_
          clear hK K
          refine nx_then ?_
          refine awp_retP rfl ?_
          refine nx_ret_then ?_
          simp (disch := omega) only [pureQ, resA, resAL, resA1, Tryd.f87, go_sem, ↓reduceIte]
        · skip
          refine awp_drop rfl ?_
          cases h
      · skip
        refine awp_seqP rfl ?_
        refine awp_seqP rfl ?_
        refine awp_regP (Γ := noEnv) [8, 0] (noEnv_ok _ _) rfl rfl rfl (fun K hK => ?_)
        simp only [Tryd.f87, bodyOf, Option.getD_some, cl, cr, rOps, lights, light, rN, List.size_toArray, List.length_cons, List.length_nil, Nat.reduceAdd, Nat.zero_add, List.map_cons, List.map_nil, Option.map_none, Option.map_some, List.getElem?_toArray, List.getElem?_cons_zero, List.getElem?_cons_succ, Option.bind_some]
        simp (maxSteps := 300000) (disch := omega) only [go_sem, Nat.reduceAdd, Int.reduceLE, Int.reduceLT, BitVec.reduceOfInt, ↓reduceIte, decide_eq_true ha, decide_eq_false hb]
        with_reducible refine hK _ ?_
        clear hK K
        refine nx_then ?_
        refine awp_ifB (.tmp 8) rfl rfl rfl (fun h => ?_) (fun h => ?_)
        · skip
          refine awp_drop rfl ?_
          cases h
        · skip
          refine awp_drop rfl ?_
          have e1 : low8 x = x := by unfold low8; rw [if_neg (fun h => hb h.2)]
          refine awp_skipP rfl ?_
          refine nx_then ?_
          refine awp_seqP rfl ?_
          refine awp_regP (Γ := noEnv) [2] (noEnv_ok _ _) rfl rfl rfl (fun K hK => ?_)
          simp only [Tryd.f87, bodyOf, Option.getD_some, cl, cr, rOps, lights, light, rN, List.size_toArray, List.length_cons, List.length_nil, Nat.reduceAdd, Nat.zero_add, List.map_cons, List.map_nil, Option.map_none]
          simp (maxSteps := 300000) (disch := omega) only [go_sem, Nat.reduceAdd, ↓reduceIte]
          with_reducible refine hK _ ?_
          clear hK K
          refine nx_then ?_
          refine awp_retP rfl ?_
          simp (disch := omega) only [pureQ, resA, resAL, resA1, Tryd.f87, go_sem, ↓reduceIte, e1]
    · skip
      refine awp_seqP rfl ?_
      refine awp_seqP rfl ?_
      refine awp_regP (Γ := noEnv) [8, 0] (noEnv_ok _ _) rfl rfl rfl (fun K hK => ?_)
      simp only [Tryd.f87, bodyOf, Option.getD_some, cl, cr, rOps, lights, light, rN, List.size_toArray, List.length_cons, List.length_nil, Nat.reduceAdd, Nat.zero_add, List.map_cons, List.map_nil, Option.map_none, Option.map_some, List.getElem?_toArray, List.getElem?_cons_zero, List.getElem?_cons_succ, Option.bind_some]
      simp (maxSteps := 300000) (disch := omega) only [go_sem, Nat.reduceAdd, Int.reduceLE, Int.reduceLT, BitVec.reduceOfInt, reduceCtorEq, ↓reduceIte, decide_eq_false ha]
      with_reducible refine hK _ ?_
      clear hK K
      refine nx_then ?_
      refine awp_ifB (.tmp 8) rfl rfl rfl (fun h => ?_) (fun h => ?_)
      · skip
        refine awp_drop rfl ?_
        cases h
      · skip
        refine awp_drop rfl ?_
        have e1 : low8 x = x := by unfold low8; rw [if_neg (fun h => ha h.1)]
        refine awp_skipP rfl ?_
        refine nx_then ?_
        refine awp_seqP rfl ?_
        refine awp_regP (Γ := noEnv) [2] (noEnv_ok _ _) rfl rfl rfl (fun K hK => ?_)
        simp only [Tryd.f87, bodyOf, Option.getD_some, cl, cr, rOps, lights, light, rN, List.size_toArray, List.length_cons, List.length_nil, Nat.reduceAdd, Nat.zero_add, List.map_cons, List.map_nil, Option.map_none]
        simp (maxSteps := 300000) (disch := omega) only [go_sem, Nat.reduceAdd, ↓reduceIte]
        with_reducible refine hK _ ?_
        clear hK K
        refine nx_then ?_
        refine awp_retP rfl ?_
        simp (disch := omega) only [pureQ, resA, resAL, resA1, Tryd.f87, go_sem, ↓reduceIte, e1]
  · cases hg
theorem ok87 : EntOK Tryd.prog GLh 87 (.pure true lowG) := ⟨⟨_, Tryd.func87, rfl, rfl⟩, low_ok⟩

set_option maxHeartbeats 1000000 in
theorem rsmall_ok : PureOK Tryd.prog GLh 84 smallG := by
  refine pure_of_awp Tryd.func84 (bodyOf_some rfl) ?_
  intro args r hg
  unfold smallG at hg
  split at hg
  · rename_i l
    replace hg := guardO_inv hg; obtain ⟨hbig, hg⟩ := hg
    obtain rfl := Option.some.inj hg
    clear hg
    refine ⟨Nat.le_of_ble_eq_true rfl, fun nx => ?_⟩
    refine awp_seqP rfl ?_
    refine awp_regP (Γ := noEnv) [0] (noEnv_ok _ _) rfl rfl rfl (fun K hK => ?_)
    simp only [Tryd.f84, bodyOf, Option.getD_some, cl, rOps, lights, light, rN, List.size_toArray, List.length_cons, List.length_nil, Nat.zero_add, List.map_cons, List.map_nil, Option.map_none]
    simp (maxSteps := 300000) (disch := omega) only [go_sem, ↓reduceIte]
    with_reducible refine hK _ ?_
    clear hK K
    refine nx_then ?_
    refine awp_seqP rfl ?_
    refine awp_regP (Γ := noEnv) [3] (noEnv_ok _ _) rfl rfl rfl (fun K hK => ?_)
    simp only [Tryd.f84, bodyOf, Option.getD_some, cl, cr, rOps, lights, light, rN, List.size_toArray, List.length_cons, List.length_nil, Nat.reduceAdd, Nat.zero_add, List.map_cons, List.map_nil, Option.map_none]
    simp (maxSteps := 300000) (disch := omega) only [go_sem, Nat.reduceAdd, ↓reduceIte]
    with_reducible refine hK _ ?_
    clear hK K
    refine nx_then ?_
    refine awp_seqP rfl ?_
    refine awp_seqP rfl ?_
    refine awp_regP (Γ := noEnv) [3, 4] (noEnv_ok _ _) rfl rfl rfl (fun K hK => ?_)
    simp only [Tryd.f84, bodyOf, Option.getD_some, cl, cr, rOps, lights, light, rN, List.size_toArray, List.length_cons, List.length_nil, Nat.zero_add, List.map_cons, List.map_nil, Option.map_none]
    simp (maxSteps := 300000) (disch := omega) only [go_sem, ↓reduceIte]
    with_reducible refine hK _ ?_
    clear hK K
    refine nx_then ?_
    refine awp_blockN 0 rfl rfl ?_
    refine awp_loopP (fun p : KC => { fr := [(3, .os (nx + 1 + 1) 0 l.length 1 true), (4, .i p.k)], hp := upd (fun _ => none) (nx + 1 + 1) (.cells (c8 (lowK l p.k)) true), nx := 0, cx := p.c }) (fun p => p.k ≤ l.length ∧ nx + 1 + 1 < p.c) (fun p => l.length - p.k) rfl ⟨⟨0, _⟩, ⟨Nat.zero_le _, by simp only; omega⟩, sub_same rfl (by simp only [lowK_zero]) (Nat.le_refl _)⟩ ?_
    rintro ⟨k, c⟩ ⟨hk, hid⟩ n0
    simp only at hk hid ⊢
    refine awp_seqP rfl ?_
    refine awp_seqP rfl ?_
    refine awp_regP (Γ := noEnv) [10, 3, 4] (noEnv_ok _ _) rfl rfl rfl (fun K hK => ?_)
    simp only [Tryd.f84, bodyOf, Option.getD_some, cl, cr, rOps, lights, light, rN, List.size_toArray, List.length_cons, List.length_nil, Nat.reduceAdd, Nat.zero_add, List.map_cons, List.map_nil, Option.map_none]
    simp (maxSteps := 300000) (disch := omega) only [go_sem, Nat.reduceAdd, ↓reduceIte]
    with_reducible refine hK _ ?_
    clear hK K
    refine nx_then ?_
    refine awp_ifD (.tmp 10) rfl rfl rfl (fun h => ?_) (fun h => ?_)
    · skip
      refine awp_drop rfl ?_
      have hkl : k < l.length := by omega
      have hll := lowK_len l k
      have hgt := lowK_get l k hkl
      have e2 := lowK_set l k hkl
      refine awp_skipP rfl ?_
      refine nx_then ?_
      refine awp_seqP rfl ?_
      refine awp_blockN 1 rfl rfl ?_
      refine awp_regP (Γ := envL [(87, .pure true lowG)]) [3, 4] (envOK_cons ok87 envOK_nil) rfl rfl rfl (fun K hK => ?_)
      simp only [Tryd.f84, bodyOf, Option.getD_some, cl, cr, rOps, lights, light, rN, List.size_toArray, List.length_cons, List.length_nil, Nat.reduceAdd, Nat.zero_add, List.map_cons, List.map_nil, Option.map_none]
      simp (maxSteps := 300000) (disch := omega) only [go_sem, Nat.reduceAdd, ↓reduceIte, hgt, c8_set]
      with_reducible refine hK _ ?_
      clear hK K
      refine nx_blk (nx_then ?_)
      refine awp_regP (Γ := noEnv) [3, 4] (noEnv_ok _ _) rfl rfl rfl (fun K hK => ?_)
      simp only [Tryd.f84, bodyOf, Option.getD_some, cl, cr, rOps, lights, light, rN, List.size_toArray, List.length_cons, List.length_nil, Nat.reduceAdd, Nat.zero_add, List.map_cons, List.map_nil, Option.map_none]
      simp (maxSteps := 300000) (disch := omega) only [go_sem, Nat.reduceAdd, ↓reduceIte]
      with_reducible refine hK _ ?_
      clear hK K
      refine nx_loop ?_
      refine ⟨⟨k + 1, _⟩, ⟨by simp only; omega, by simp only; omega⟩, by simp only; omega, sub_same ?_ ?_ (Nat.le_refl _)⟩
      · simp only [Int.natCast_add, Int.natCast_one]
      · simp only [e2]
    · skip
      refine awp_drop rfl ?_
      refine awp_exitN 0 rfl rfl ?_
      refine nx_ex_then (nx_ex_loop (nx_ex_blk ?_))
      refine nx_then ?_
      refine awp_seqP rfl ?_
      obtain rfl : k = l.length := by omega
      have hml : (l.map low8).length = l.length := List.length_map ..
      have htk : (l.map low8).take l.length = l.map low8 := List.take_of_length_le (by omega)
      refine awp_regP (Γ := noEnv) [2] (noEnv_ok _ _) rfl rfl rfl (fun K hK => ?_)
      simp only [Tryd.f84, bodyOf, Option.getD_some, cl, cr, rOps, lights, light, rN, List.size_toArray, List.length_cons, List.length_nil, Nat.reduceAdd, Nat.zero_add, List.map_cons, List.map_nil, Option.map_none]
      simp (maxSteps := 300000) (disch := omega) only [go_sem, Nat.reduceAdd, ↓reduceIte, lowK_all, hml, htk, unW8_c8]
      with_reducible refine hK _ ?_
      clear hK K
      refine nx_then ?_
      refine awp_retP rfl ?_
      simp (disch := omega) only [pureQ, resA, resAL, resA1, Tryd.f84, go_sem, ↓reduceIte]
  · cases hg
theorem ok84 : EntOK Tryd.prog GLh 84 (.pure true smallG) := ⟨⟨_, Tryd.func84, rfl, rfl⟩, rsmall_ok⟩

def lowS (ps : List (List B8)) : List (List B8) := ps.map fun l => l.map low8
theorem lowS_len (ps : List (List B8)) : (lowS ps).length = ps.length := List.length_map ..
theorem lowS_take (ps : List (List B8)) (k : Nat) (h : k < ps.length) : lowS (ps.take (k + 1)) = lowS (ps.take k) ++ [(ps.getD k []).map low8] := by
  have e : ps.take (k + 1) = ps.take k ++ [ps.getD k []] := by rw [List.take_succ_eq_append_getElem h]; simp [List.getD, List.getElem?_eq_getElem h, -List.take_append_getElem]
  rw [e]; unfold lowS; rw [List.map_append, List.map_cons, List.map_nil]
theorem wirB_low (ps : List (List B8)) : (wirB (lowS ps)).length = (wirB ps).length := by
  induction ps with
  | nil => rfl
  | cons p ps ih => rw [show lowS (p :: ps) = p.map low8 :: lowS ps from rfl, wirB_len, wirB_len, ih, List.length_map]
def lowerG : List AV → Option (Nat × Nat × List AV)
  | [.sl n xs] => obind (unS xs) fun ps => guardO (ps.length = n ∧ (wirB ps).length ≤ 1000000) (some ((lowS ps).length, 1, cS (lowS ps)))
  | _ => none
theorem lowerG_eq (n : Nat) (xs : List AV) : lowerG [.sl n xs] = obind (unS xs) fun ps => guardO (ps.length = n ∧ (wirB ps).length ≤ 1000000) (some ((lowS ps).length, 1, cS (lowS ps))) := (rfl)
attribute [go_sem] lowerG_eq

theorem cS_snoc (l : List (List B8)) (y : List B8) : cS l ++ [.s y] = cS (l ++ [y]) := by simp [cS]

set_option maxHeartbeats 1000000 in
theorem lower_ok : FreshOK Tryd.prog GLh 72 lowerG := by
  refine fresh_of_awp Tryd.func72 (bodyOf_some rfl) ?_
  intro args r hg
  unfold lowerG at hg
  split at hg
  · rename_i n xs
    replace hg := obind_inv hg; obtain ⟨ps, hb, hg⟩ := hg
    replace hg := guardO_inv hg; obtain ⟨⟨hn, hbig⟩, hg⟩ := hg
    obtain rfl := Option.some.inj hg
    have := unS_inv hb; subst this
    subst hn
    clear hg hb
    refine ⟨Nat.le_of_ble_eq_true rfl, fun nx => ?_⟩
    have hpn := wirB_ge ps
    refine awp_seqP rfl ?_
    refine awp_regP (Γ := noEnv) [0] (noEnv_ok _ _) rfl rfl rfl (fun K hK => ?_)
    simp only [Tryd.f72, bodyOf, Option.getD_some, cl, rOps, lights, light, rN, List.size_toArray, List.length_cons, List.length_nil, Nat.zero_add, List.map_cons, List.map_nil, Option.map_none]
    simp (maxSteps := 300000) (disch := omega) only [go_sem, ↓reduceIte]
    with_reducible refine hK _ ?_
    clear hK K
    refine nx_then ?_
    refine awp_seqP rfl ?_
    refine awp_regP (Γ := noEnv) [0, 3] (noEnv_ok _ _) rfl rfl rfl (fun K hK => ?_)
    simp only [Tryd.f72, bodyOf, Option.getD_some, cl, cr, rOps, lights, light, rN, List.size_toArray, List.length_cons, List.length_nil, Nat.zero_add, List.map_cons, List.map_nil, Option.map_none]
    simp (maxSteps := 300000) (disch := omega) only [go_sem, ↓reduceIte]
    with_reducible refine hK _ ?_
    clear hK K
    refine nx_then ?_
    refine awp_seqP rfl ?_
    refine awp_seqP rfl ?_
    refine awp_regP (Γ := noEnv) [3, 6, 7, 8] (noEnv_ok _ _) rfl rfl rfl (fun K hK => ?_)
    simp only [Tryd.f72, bodyOf, Option.getD_some, cl, cr, rOps, lights, light, rN, List.size_toArray, List.length_cons, List.length_nil, Nat.reduceAdd, Nat.zero_add, List.map_cons, List.map_nil, Option.map_none]
    simp (maxSteps := 300000) (disch := omega) only [go_sem, Nat.reduceAdd, ↓reduceIte]
    with_reducible refine hK _ ?_
    clear hK K
    refine nx_then ?_
    refine awp_own 3 1 rfl ?_
    refine awp_keep [3, 6, 7, 8] ?_
    simp only [kf_nil, kf_cons, look_cons, ↓reduceIte, Nat.reduceEqDiff]
    refine awp_blockN 0 rfl rfl ?_
    refine awp_loopP (fun p : KIC => { fr := [(3, .os p.id 0 (lowS (ps.take p.k)).length 1 true), (6, .sl ps.length (cS ps)), (7, .i ps.length), (8, .i p.k)], hp := upd (fun _ => none) p.id (.cells (cS (lowS (ps.take p.k))) true), nx := 0, cx := p.c }) (fun p => p.k ≤ ps.length ∧ p.id < p.c) (fun p => ps.length - p.k) rfl ⟨⟨0, _, _⟩, ⟨Nat.zero_le _, by simp only; omega⟩, sub_same rfl rfl (Nat.le_refl _)⟩ ?_
    rintro ⟨k, id, c⟩ ⟨hk, hid⟩ n0
    simp only at hk hid ⊢
    refine awp_seqP rfl ?_
    refine awp_regP (Γ := noEnv) [9, 3, 6, 7, 8] (noEnv_ok _ _) rfl rfl rfl (fun K hK => ?_)
    simp only [Tryd.f72, bodyOf, Option.getD_some, cl, cr, rOps, lights, light, rN, List.size_toArray, List.length_cons, List.length_nil, Nat.zero_add, List.map_cons, List.map_nil, Option.map_none]
    simp (maxSteps := 300000) (disch := omega) only [go_sem, ↓reduceIte]
    with_reducible refine hK _ ?_
    clear hK K
    refine nx_then ?_
    refine awp_seqP rfl ?_
    refine awp_ifD (.tmp 9) rfl rfl rfl (fun h => ?_) (fun h => ?_)
    · skip
      refine awp_drop rfl ?_
      have hkl : k < ps.length := by omega
      have ht : (lowS (ps.take k)).length = k := by rw [lowS_len, List.length_take]; omega
      have hm := wirB_mem ps k
      have e6 := lowS_take ps k hkl
      have e7 : (lowS (ps.take (k + 1))).length = (lowS (ps.take k)).length + 1 := by rw [e6]; simp
      obtain ⟨l, hl⟩ : ∃ l, ps.getD k [] = l := ⟨_, rfl⟩
      rw [hl] at hm e6
      refine awp_skipP rfl ?_
      refine nx_then ?_
      refine awp_seqP rfl ?_
      refine awp_blockN 1 rfl rfl ?_
      refine awp_seqP rfl ?_
      refine awp_regP (Γ := noEnv) [3, 5, 6, 7, 8] (noEnv_ok _ _) rfl rfl rfl (fun K hK => ?_)
      simp only [Tryd.f72, bodyOf, Option.getD_some, cl, cr, rOps, lights, light, rN, List.size_toArray, List.length_cons, List.length_nil, Nat.reduceAdd, Nat.zero_add, List.map_cons, List.map_nil, Option.map_none]
      simp (maxSteps := 300000) (disch := omega) only [go_sem, Nat.reduceAdd, ↓reduceIte, hl]
      with_reducible refine hK _ ?_
      clear hK K
      refine nx_then ?_
      refine awp_regP (Γ := envL [(83, .pure true smallG)]) [3, 6, 7, 8] (envOK_cons ok83 envOK_nil) rfl rfl rfl (fun K hK => ?_)
      simp only [Tryd.f72, bodyOf, Option.getD_some, cl, cr, rOps, lights, light, rN, List.size_toArray, List.length_cons, List.length_nil, Nat.reduceAdd, Nat.zero_add, List.map_cons, List.map_nil, Option.map_none]
      simp (maxSteps := 300000) (disch := omega) only [go_sem, Nat.reduceAdd, Nat.reduceLeDiff, Nat.reduceLT, ↓reduceIte, cS_snoc]
      with_reducible refine hK _ ?_
      clear hK K
      refine nx_blk (nx_then ?_)
      refine awp_regP (Γ := noEnv) [3, 6, 7, 8] (noEnv_ok _ _) rfl rfl rfl (fun K hK => ?_)
      simp only [Tryd.f72, bodyOf, Option.getD_some, cl, cr, rOps, lights, light, rN, List.size_toArray, List.length_cons, List.length_nil, Nat.reduceAdd, Nat.zero_add, List.map_cons, List.map_nil, Option.map_none]
      simp (maxSteps := 300000) (disch := omega) only [go_sem, Nat.reduceAdd, ↓reduceIte]
      with_reducible refine hK _ ?_
      clear hK K
      refine nx_loop ?_
      refine ⟨⟨k + 1, c + 1 + 3 + 4, _⟩, ⟨by simp only; omega, by simp only; omega⟩, by simp only; omega, ⟨fun _ => .inr ?_, fun j o h => ?_, Nat.le_refl _⟩⟩
      · simp only [e7, Int.natCast_add, Int.natCast_one]
      · simp only at h
        exact hsub_cons (by simp (disch := omega) only [up_app, ↓reduceIte, eq_self, e6]) (hsub_nil) j o h
    · skip
      refine awp_drop rfl ?_
      refine awp_exitN 0 rfl rfl ?_
      refine nx_ex_then (nx_ex_loop (nx_ex_blk ?_))
      refine nx_then ?_
      refine awp_seqP rfl ?_
      obtain rfl : k = ps.length := by omega
      have e8 : ps.take ps.length = ps := List.take_length
      refine awp_regP (Γ := noEnv) [2] (noEnv_ok _ _) rfl rfl rfl (fun K hK => ?_)
      simp only [Tryd.f72, bodyOf, Option.getD_some, cl, cr, rOps, lights, light, rN, List.size_toArray, List.length_cons, List.length_nil, Nat.reduceAdd, Nat.zero_add, List.map_cons, List.map_nil, Option.map_none]
      simp (maxSteps := 300000) (disch := omega) only [go_sem, Nat.reduceAdd, ↓reduceIte, e8]
      with_reducible refine hK _ ?_
      clear hK K
      refine nx_then ?_
      refine awp_retP rfl ?_
      simp (disch := omega) only [freshQ, freshR, resA, resAL, resA1, Tryd.f72, go_sem, ↓reduceIte, cS_noOwn]
  · cases hg
theorem ok72 : EntOK Tryd.prog GLh 72 (.fresh true lowerG) := ⟨⟨_, Tryd.func72, rfl, rfl⟩, lower_ok⟩

set_option maxHeartbeats 1000000 in
theorem rlower_ok : FreshOK Tryd.prog GLh 74 lowerG := by
  refine fresh_of_awp Tryd.func74 (bodyOf_some rfl) ?_
  intro args r hg
  unfold lowerG at hg
  split at hg
  · rename_i n xs
    replace hg := obind_inv hg; obtain ⟨ps, hb, hg⟩ := hg
    replace hg := guardO_inv hg; obtain ⟨⟨hn, hbig⟩, hg⟩ := hg
    obtain rfl := Option.some.inj hg
    have := unS_inv hb; subst this
    subst hn
    clear hg hb
    refine ⟨Nat.le_of_ble_eq_true rfl, fun nx => ?_⟩
    have hpn := wirB_ge ps
    refine awp_seqP rfl ?_
    refine awp_regP (Γ := noEnv) [0] (noEnv_ok _ _) rfl rfl rfl (fun K hK => ?_)
    simp only [Tryd.f74, bodyOf, Option.getD_some, cl, rOps, lights, light, rN, List.size_toArray, List.length_cons, List.length_nil, Nat.zero_add, List.map_cons, List.map_nil, Option.map_none]
    simp (maxSteps := 300000) (disch := omega) only [go_sem, ↓reduceIte]
    with_reducible refine hK _ ?_
    clear hK K
    refine nx_then ?_
    refine awp_seqP rfl ?_
    refine awp_regP (Γ := noEnv) [0, 3] (noEnv_ok _ _) rfl rfl rfl (fun K hK => ?_)
    simp only [Tryd.f74, bodyOf, Option.getD_some, cl, cr, rOps, lights, light, rN, List.size_toArray, List.length_cons, List.length_nil, Nat.zero_add, List.map_cons, List.map_nil, Option.map_none]
    simp (maxSteps := 300000) (disch := omega) only [go_sem, ↓reduceIte]
    with_reducible refine hK _ ?_
    clear hK K
    refine nx_then ?_
    refine awp_seqP rfl ?_
    refine awp_seqP rfl ?_
    refine awp_regP (Γ := noEnv) [0, 3, 4] (noEnv_ok _ _) rfl rfl rfl (fun K hK => ?_)
    simp only [Tryd.f74, bodyOf, Option.getD_some, cl, cr, rOps, lights, light, rN, List.size_toArray, List.length_cons, List.length_nil, Nat.zero_add, List.map_cons, List.map_nil, Option.map_none]
    simp (maxSteps := 300000) (disch := omega) only [go_sem, ↓reduceIte]
    with_reducible refine hK _ ?_
    clear hK K
    refine nx_then ?_
    refine awp_own 3 1 rfl ?_
    refine awp_keep [0, 3, 4] ?_
    simp only [kf_nil, kf_cons, look_cons, ↓reduceIte, Nat.reduceEqDiff]
    refine awp_blockN 0 rfl rfl ?_
    refine awp_loopP (fun p : KIC => { fr := [(0, .sl ps.length (cS ps)), (3, .os p.id 0 (lowS (ps.take p.k)).length 1 true), (4, .i p.k)], hp := upd (fun _ => none) p.id (.cells (cS (lowS (ps.take p.k))) true), nx := 0, cx := p.c }) (fun p => p.k ≤ ps.length ∧ p.id < p.c) (fun p => ps.length - p.k) rfl ⟨⟨0, _, _⟩, ⟨Nat.zero_le _, by simp only; omega⟩, sub_same rfl rfl (Nat.le_refl _)⟩ ?_
    rintro ⟨k, id, c⟩ ⟨hk, hid⟩ n0
    simp only at hk hid ⊢
    refine awp_seqP rfl ?_
    refine awp_seqP rfl ?_
    refine awp_regP (Γ := noEnv) [8, 0, 3, 4] (noEnv_ok _ _) rfl rfl rfl (fun K hK => ?_)
    simp only [Tryd.f74, bodyOf, Option.getD_some, cl, cr, rOps, lights, light, rN, List.size_toArray, List.length_cons, List.length_nil, Nat.reduceAdd, Nat.zero_add, List.map_cons, List.map_nil, Option.map_none]
    simp (maxSteps := 300000) (disch := omega) only [go_sem, Nat.reduceAdd, ↓reduceIte]
    with_reducible refine hK _ ?_
    clear hK K
    refine nx_then ?_
    refine awp_ifD (.tmp 8) rfl rfl rfl (fun h => ?_) (fun h => ?_)
    · skip
      refine awp_drop rfl ?_
      have hkl : k < ps.length := by omega
      have ht : (lowS (ps.take k)).length = k := by rw [lowS_len, List.length_take]; omega
      have hm := wirB_mem ps k
      have e6 := lowS_take ps k hkl
      have e7 : (lowS (ps.take (k + 1))).length = (lowS (ps.take k)).length + 1 := by rw [e6]; simp
      obtain ⟨l, hl⟩ : ∃ l, ps.getD k [] = l := ⟨_, rfl⟩
      rw [hl] at hm e6
      refine awp_skipP rfl ?_
      refine nx_then ?_
      refine awp_seqP rfl ?_
      refine awp_blockN 1 rfl rfl ?_
      refine awp_regP (Γ := envL [(84, .pure true smallG)]) [0, 3, 4] (envOK_cons ok84 envOK_nil) rfl rfl rfl (fun K hK => ?_)
      simp only [Tryd.f74, bodyOf, Option.getD_some, cl, cr, rOps, lights, light, rN, List.size_toArray, List.length_cons, List.length_nil, Nat.reduceAdd, Nat.zero_add, List.map_cons, List.map_nil, Option.map_none]
      simp (maxSteps := 300000) (disch := omega) only [go_sem, Nat.reduceAdd, Nat.reduceLeDiff, Nat.reduceLT, ↓reduceIte, hl, cS_snoc]
      with_reducible refine hK _ ?_
      clear hK K
      refine nx_blk (nx_then ?_)
      refine awp_regP (Γ := noEnv) [0, 3, 4] (noEnv_ok _ _) rfl rfl rfl (fun K hK => ?_)
      simp only [Tryd.f74, bodyOf, Option.getD_some, cl, cr, rOps, lights, light, rN, List.size_toArray, List.length_cons, List.length_nil, Nat.reduceAdd, Nat.zero_add, List.map_cons, List.map_nil, Option.map_none]
      simp (maxSteps := 300000) (disch := omega) only [go_sem, Nat.reduceAdd, ↓reduceIte]
      with_reducible refine hK _ ?_
      clear hK K
      refine nx_loop ?_
      refine ⟨⟨k + 1, c + 4 + 7, _⟩, ⟨by simp only; omega, by simp only; omega⟩, by simp only; omega, ⟨fun _ => .inr ?_, fun j o h => ?_, Nat.le_refl _⟩⟩
      · simp only [e7, Int.natCast_add, Int.natCast_one]
      · simp only at h
        exact hsub_cons (by simp (disch := omega) only [up_app, ↓reduceIte, eq_self, e6]) (hsub_nil) j o h
    · skip
      refine awp_drop rfl ?_
      refine awp_exitN 0 rfl rfl ?_
      refine nx_ex_then (nx_ex_loop (nx_ex_blk ?_))
      refine nx_then ?_
      refine awp_seqP rfl ?_
      obtain rfl : k = ps.length := by omega
      have e8 : ps.take ps.length = ps := List.take_length
      refine awp_regP (Γ := noEnv) [2] (noEnv_ok _ _) rfl rfl rfl (fun K hK => ?_)
      simp only [Tryd.f74, bodyOf, Option.getD_some, cl, cr, rOps, lights, light, rN, List.size_toArray, List.length_cons, List.length_nil, Nat.reduceAdd, Nat.zero_add, List.map_cons, List.map_nil, Option.map_none]
      simp (maxSteps := 300000) (disch := omega) only [go_sem, Nat.reduceAdd, ↓reduceIte, e8]
      with_reducible refine hK _ ?_
      clear hK K
      refine nx_then ?_
      refine awp_retP rfl ?_
      simp (disch := omega) only [freshQ, freshR, resA, resAL, resA1, Tryd.f74, go_sem, ↓reduceIte, cS_noOwn]
  · cases hg
theorem ok74 : EntOK Tryd.prog GLh 74 (.fresh true lowerG) := ⟨⟨_, Tryd.func74, rfl, rfl⟩, rlower_ok⟩
end Go.AX

namespace Go.AX
open Go Go.Proofs

/-- The text that is hashed: a name in small letters, and data. -/
def nameD (ps : List (List B8)) (d : List B8) : List B8 := wireL (lowS ps) ++ d
def dsL (ps : List (List B8)) (d : List B8) : List B8 := [(tagL d >>> 8).setWidth 8, (tagL d).setWidth 8, d.getD 3 0#8, 2#8] ++ sumL (nameD ps d)
theorem dsL_len (ps : List (List B8)) (d : List B8) : (dsL ps d).length = 36 := by simp [dsL, sumL_len]
def dsG : List AV → Option (Nat × Nat × List AV)
  | [.sl n xs, .sl m ys] => obind (unS xs) fun ps => obind (un8 ys) fun d => guardO (ps.length = n ∧ (wirB ps).length ≤ 1000000 ∧ d.length = m ∧ m ≤ 60000) (some (36, 1, c8 (dsL ps d)))
  | _ => none
theorem dsG_eq (n m : Nat) (xs ys : List AV) : dsG [.sl n xs, .sl m ys] = obind (unS xs) fun ps => obind (un8 ys) fun d => guardO (ps.length = n ∧ (wirB ps).length ≤ 1000000 ∧ d.length = m ∧ m ≤ 60000) (some (36, 1, c8 (dsL ps d))) := (rfl)
attribute [go_sem] dsG_eq
theorem wireL_len (ps : List (List B8)) : (wireL (lowS ps)).length = (wirB ps).length + 1 := by simp [wireL, wirB_low]
theorem rep8d (n : Nat) (x : B8) : rep n [AV.w8 x] = c8 (List.replicate n x) := by rw [rep1, c8_rep]

theorem ds4 (a b c e : B8) (l : List B8) : AV.w8 a :: AV.w8 b :: AV.w8 c :: AV.w8 e :: c8 l = c8 ([a, b, c, e] ++ l) := rfl

set_option maxHeartbeats 1000000 in
theorem ds_ok : FreshOK Tryd.prog GLh 42 dsG := by
  refine fresh_of_awp Tryd.func42 (bodyOf_some rfl) ?_
  intro args r hg
  unfold dsG at hg
  split at hg
  · rename_i n xs m ys
    replace hg := obind_inv hg; obtain ⟨ps, hb, hg⟩ := hg
    replace hg := obind_inv hg; obtain ⟨d, hb2, hg⟩ := hg
    replace hg := guardO_inv hg; obtain ⟨⟨hn, hbig, hm, hbig2⟩, hg⟩ := hg
    obtain rfl := Option.some.inj hg
    have := unS_inv hb; subst this
    have := un8_inv _ hb2; subst this
    subst hn; subst hm
    clear hg hb hb2
    refine ⟨Nat.le_of_ble_eq_true rfl, fun nx => ?_⟩
    have hpn := wirB_ge ps
    have hll := lowS_len ps
    have hwl := wireL_len ps
    have hwb := wirB_low ps
    obtain ⟨tx, htx⟩ : ∃ tx, wireL (lowS ps) ++ d = tx := ⟨_, rfl⟩
    have htl : tx.length = (wirB ps).length + 1 + d.length := by rw [← htx, List.length_append, hwl]
    have htk : tx.take ((wirB ps).length + 1 + d.length) = tx := List.take_of_length_le (by omega)
    have hs := sumL_len tx
    have hds : dsL ps d = [(tagL d >>> 8).setWidth 8, (tagL d).setWidth 8, d.getD 3 0#8, 2#8] ++ sumL tx := by rw [← htx]; rfl
    have hdl := dsL_len ps d
    refine awp_seqP rfl ?_
    refine awp_regP (Γ := noEnv) [0, 1] (noEnv_ok _ _) rfl rfl rfl (fun K hK => ?_)
    simp only [Tryd.f42, bodyOf, Option.getD_some, cl, rOps, lights, light, rN, List.size_toArray, List.length_cons, List.length_nil, Nat.zero_add, List.map_cons, List.map_nil, Option.map_none]
    simp (maxSteps := 300000) (disch := omega) only [go_sem, ↓reduceIte]
    with_reducible refine hK _ ?_
    clear hK K
    refine nx_then ?_
    refine awp_seqP rfl ?_
    refine awp_regP (Γ := envL [(40, .pure true tagG)]) [0, 1, 5, 6] (envOK_cons ok40 envOK_nil) rfl rfl rfl (fun K hK => ?_)
    simp only [Tryd.f42, bodyOf, Option.getD_some, cl, cr, rOps, lights, light, rN, List.size_toArray, List.length_cons, List.length_nil, Nat.reduceAdd, Nat.zero_add, List.map_cons, List.map_nil, Option.map_none]
    simp (maxSteps := 300000) (disch := omega) only [go_sem, Nat.reduceAdd, Int.reduceLE, Int.reduceLT, BitVec.reduceOfInt, ↓reduceIte]
    with_reducible refine hK _ ?_
    clear hK K
    refine nx_then ?_
    refine awp_seqP rfl ?_
    refine awp_seqP rfl ?_
    refine awp_regP (Γ := noEnv) [12, 0, 1, 5, 6] (noEnv_ok _ _) rfl rfl rfl (fun K hK => ?_)
    simp only [Tryd.f42, bodyOf, Option.getD_some, cl, cr, rOps, lights, light, rN, List.size_toArray, List.length_cons, List.length_nil, Nat.reduceAdd, Nat.zero_add, List.map_cons, List.map_nil, Option.map_none]
    simp (maxSteps := 300000) (disch := omega) only [go_sem, Nat.reduceAdd, ↓reduceIte]
    with_reducible refine hK _ ?_
    clear hK K
    refine nx_then ?_
    have hds4 : AV.w8 ((tagL d >>> 8).setWidth 8) :: AV.w8 ((tagL d).setWidth 8) :: AV.w8 (d.getD 3 0#8) :: AV.w8 2#8 :: c8 (sumL tx) = c8 (dsL ps d) := by rw [hds]; exact ds4 _ _ _ _ _
    by_cases h3 : 3 < d.length
    · skip
      refine awp_ifD (.tmp 12) rfl rfl rfl (fun h => ?_) (fun h => ?_)
      · skip
        refine awp_drop rfl ?_
        refine awp_regP (Γ := noEnv) [0, 1, 5, 6] (noEnv_ok _ _) rfl rfl rfl (fun K hK => ?_)
        simp only [Tryd.f42, bodyOf, Option.getD_some, cl, cr, rOps, lights, light, rN, List.size_toArray, List.length_cons, List.length_nil, Nat.reduceAdd, Nat.zero_add, List.map_cons, List.map_nil, Option.map_none]
        simp (maxSteps := 300000) (disch := omega) only [go_sem, Nat.reduceAdd, Int.reduceLE, Int.reduceToNat, ↓reduceIte]
        with_reducible refine hK _ ?_
        clear hK K
        refine nx_then ?_
        refine awp_seqP rfl ?_
        refine awp_regP (Γ := envL [(72, .fresh true lowerG), (71, .fresh true wireG), (22, .pure true sumG)]) [5, 6, 7] (envOK_cons ok72 (envOK_cons ok71 (envOK_cons ok22 envOK_nil))) rfl rfl rfl (fun K hK => ?_)
        simp only [Tryd.f42, bodyOf, Option.getD_some, cl, cr, rOps, lights, light, rN, List.size_toArray, List.length_cons, List.length_nil, Nat.reduceAdd, Nat.zero_add, List.map_cons, List.map_nil, Option.map_none]
        simp (maxSteps := 300000) (disch := omega) only [go_sem, Nat.reduceAdd, Nat.reduceLeDiff, Nat.reduceLT, ↓reduceIte, hwl, htx, htl, htk]
        with_reducible refine hK _ ?_
        clear hK K
        refine nx_then ?_
        refine awp_seqP rfl ?_
        refine awp_regP (Γ := noEnv) [4] (noEnv_ok _ _) rfl rfl rfl (fun K hK => ?_)
        simp only [Tryd.f42, bodyOf, Option.getD_some, cl, cr, rOps, lights, light, rN, List.size_toArray, List.length_cons, List.length_nil, Nat.reduceAdd, Nat.zero_add, List.map_cons, List.map_nil, Option.map_none]
        simp (maxSteps := 300000) (disch := omega) only [go_sem, Nat.reduceAdd, Nat.reduceSub, Nat.reduceLeDiff, Nat.reduceLT, Int.reduceLE, Int.reduceLT, Int.reduceToNat, BitVec.reduceOfInt, BitVec.reduceToNat, ↓reduceIte, hs]
        with_reducible refine hK _ ?_
        clear hK K
        refine nx_then ?_
        refine awp_retP rfl ?_
        simp (disch := omega) only [freshQ, freshR, resA, resAL, resA1, Tryd.f42, go_sem, ↓reduceIte, c8_noOwn, hds4, hdl]
      · skip
        refine awp_drop rfl ?_
        omega
    · skip
      refine awp_ifD (.tmp 12) rfl rfl rfl (fun h => ?_) (fun h => ?_)
      · skip
        refine awp_drop rfl ?_
        omega
      · skip
        refine awp_drop rfl ?_
        refine awp_skipP rfl ?_
        refine nx_then ?_
        refine awp_seqP rfl ?_
        have hz : d.getD 3 0#8 = 0#8 := by rw [List.getD_eq_getElem?_getD, List.getElem?_eq_none (by omega)]; rfl
        rw [hz] at hds4
        refine awp_regP (Γ := envL [(72, .fresh true lowerG), (71, .fresh true wireG), (22, .pure true sumG)]) [5, 6, 7] (envOK_cons ok72 (envOK_cons ok71 (envOK_cons ok22 envOK_nil))) rfl rfl rfl (fun K hK => ?_)
        simp only [Tryd.f42, bodyOf, Option.getD_some, cl, cr, rOps, lights, light, rN, List.size_toArray, List.length_cons, List.length_nil, Nat.reduceAdd, Nat.zero_add, List.map_cons, List.map_nil, Option.map_none]
        simp (maxSteps := 300000) (disch := omega) only [go_sem, Nat.reduceAdd, Nat.reduceLeDiff, Nat.reduceLT, ↓reduceIte, hwl, htx, htl, htk]
        with_reducible refine hK _ ?_
        clear hK K
        refine nx_then ?_
        refine awp_seqP rfl ?_
        refine awp_regP (Γ := noEnv) [4] (noEnv_ok _ _) rfl rfl rfl (fun K hK => ?_)
        simp only [Tryd.f42, bodyOf, Option.getD_some, cl, cr, rOps, lights, light, rN, List.size_toArray, List.length_cons, List.length_nil, Nat.reduceAdd, Nat.zero_add, List.map_cons, List.map_nil, Option.map_none]
        simp (maxSteps := 300000) (disch := omega) only [go_sem, Nat.reduceAdd, Nat.reduceSub, Nat.reduceLeDiff, Nat.reduceLT, Int.reduceLE, Int.reduceLT, Int.reduceToNat, BitVec.reduceOfInt, BitVec.reduceToNat, ↓reduceIte, hs]
        with_reducible refine hK _ ?_
        clear hK K
        refine nx_then ?_
        refine awp_retP rfl ?_
        simp (disch := omega) only [freshQ, freshR, resA, resAL, resA1, Tryd.f42, go_sem, ↓reduceIte, c8_noOwn, hds4, hdl]
  · cases hg

/-- A nil slice is an empty slice. -/
def nz : AV → AV
  | .v (.slice none 0 0) => .sl 0 []
  | x => x
theorem nz_rel {σ : Nat → Loc} {I : Nat → Prop} {w : World} {x : AV} {v : Value} (h : Rel σ I w x v) : Rel σ I w (nz x) v := by
  unfold nz; split
  · cases h; exact .slnil
  · exact h
theorem fresh_nz {P : Program} {GL : Nat → Option (List AV)} {f : FuncId} {g : List AV → Option (Nat × Nat × List AV)} (h : FreshOK P GL f g) : FreshOK P GL f (fun args => g (args.map nz)) := by
  intro σ I w nx args vals n e xs h1 h2 h3 h4 h5 hg
  exact h σ I w nx _ vals n e xs h1 h2 h3 (by simpa using h4) (fun i hi => by rw [List.getElem_map]; exact nz_rel (h5 i (by simpa using hi))) hg
theorem pure_nz {P : Program} {GL : Nat → Option (List AV)} {f : FuncId} {g : List AV → Option AV} (h : PureOK P GL f g) : PureOK P GL f (fun args => g (args.map nz)) := by
  intro σ I w nx args vals r h1 h2 h3 h4 h5 hg
  exact h σ I w nx _ vals r h1 h2 h3 (by simpa using h4) (fun i hi => by rw [List.getElem_map]; exact nz_rel (h5 i (by simpa using hi))) hg
theorem nz_sl (n : Nat) (xs : List AV) : nz (.sl n xs) = .sl n xs := (rfl)
theorem nz_nil : nz (.v (.slice none 0 0)) = .sl 0 [] := (rfl)
theorem nz_i (n : Int) : nz (.i n) = .i n := (rfl)
theorem unS_nil : unS [] = some [] := (rfl)
attribute [go_sem] nz_sl nz_nil nz_i List.map_cons List.map_nil unS_nil
def dsN (args : List AV) : Option (Nat × Nat × List AV) := dsG (args.map nz)
theorem dsN_eq (args : List AV) : dsN args = dsG (args.map nz) := (rfl)
attribute [go_sem] dsN_eq
theorem ds_okN : FreshOK Tryd.prog GLh 42 dsN := fresh_nz ds_ok
theorem ok42 : EntOK Tryd.prog GLh 42 (.fresh true dsN) := ⟨⟨_, Tryd.func42, rfl, rfl⟩, ds_okN⟩

theorem tag2 (t : BitVec 16) : beL (t.setWidth 32) 2 2 = [(t >>> 8).setWidth 8, t.setWidth 8] := by
  have e : (t.setWidth 32 >>> 8).setWidth 8 = (t >>> 8).setWidth 8 := by
    apply BitVec.eq_of_toNat_eq
    have := t.isLt
    simp only [BitVec.toNat_setWidth, BitVec.toNat_ushiftRight, Nat.shiftRight_eq_div_pow]; omega
  have e2 : (t.setWidth 32 >>> 0).setWidth 8 = t.setWidth 8 := by
    apply BitVec.eq_of_toNat_eq
    have := t.isLt
    simp only [BitVec.toNat_setWidth, BitVec.toNat_ushiftRight, Nat.shiftRight_eq_div_pow]; omega
  simp only [beL, List.nil_append, List.cons_append, Nat.reduceSub, Nat.reduceMul, e, e2]
def putF : List AV → Option (Nat × Nat × List AV)
  | [.v (.slice none 0 0), .w32 n, .i k] => guardO (0 ≤ k ∧ k ≤ 8) (some (k.toNat, 1, c8 (beL n k.toNat k.toNat)))
  | _ => none
theorem putF_eq (n : W32) (k : Int) : putF [.v (.slice none 0 0), .w32 n, .i k] = guardO (0 ≤ k ∧ k ≤ 8) (some (k.toNat, 1, c8 (beL n k.toNat k.toNat))) := (rfl)
attribute [go_sem] putF_eq

set_option maxHeartbeats 4000000 in
theorem put_okF : FreshOK Tryd.prog GLh 75 putF := by
  refine fresh_of_awp Tryd.func75 (bodyOf_some rfl) ?_
  intro args r hg
  unfold putF at hg
  split at hg
  · rename_i n k0
    replace hg := guardO_inv hg; obtain ⟨⟨hk1, hk8⟩, hg⟩ := hg
    obtain rfl := Option.some.inj hg
    obtain ⟨k, rfl⟩ := Int.eq_ofNat_of_zero_le (show 0 ≤ k0 by omega)
    simp only [Int.toNat_natCast] at *
    clear hg
    refine ⟨Nat.le_of_ble_eq_true rfl, fun nx => ?_⟩
    refine awp_seqP rfl ?_
    refine awp_regP (Γ := noEnv) [0, 1, 2] (noEnv_ok _ _) rfl rfl rfl (fun K hK => ?_)
    simp only [Tryd.f75, bodyOf, Option.getD_some, cl, rOps, lights, light, rN, List.size_toArray, List.length_cons, List.length_nil, Nat.zero_add, List.map_cons, List.map_nil, Option.map_none]
    simp (maxSteps := 300000) (disch := omega) only [go_sem, Nat.reduceAdd, ↓reduceIte]
    with_reducible refine hK _ ?_
    clear hK K
    refine nx_then ?_
    refine awp_seqP rfl ?_
    refine awp_seqP rfl ?_
    refine awp_regP (Γ := noEnv) [0, 1, 7] (noEnv_ok _ _) rfl rfl rfl (fun K hK => ?_)
    simp only [Tryd.f75, bodyOf, Option.getD_some, cl, cr, rOps, lights, light, rN, List.size_toArray, List.length_cons, List.length_nil, Nat.reduceAdd, Nat.zero_add, List.map_cons, List.map_nil, Option.map_none]
    simp (maxSteps := 300000) (disch := omega) only [go_sem, Nat.reduceAdd, ↓reduceIte]
    with_reducible refine hK _ ?_
    clear hK K
    refine nx_then ?_
    refine awp_own 0 1 rfl ?_
    refine awp_keep [0, 1, 7] ?_
    simp only [kf_nil, kf_cons, look_cons, ↓reduceIte, Nat.reduceEqDiff]
    refine awp_blockN 0 rfl rfl ?_
    refine awp_loopP (fun p : KIC => { fr := [(0, .os p.id 0 p.k 1 true), (1, .w32 n), (7, .i ((k : Int) - 1 - (p.k : Int)))], hp := upd (fun _ => none) p.id (.cells (c8 (beL n k p.k)) true), nx := 0, cx := p.c }) (fun p => p.k ≤ k ∧ p.id < p.c) (fun p => k - p.k) rfl ⟨⟨0, _, _⟩, ⟨Nat.zero_le _, by simp only; omega⟩, sub_same (by simp only [Int.natCast_zero, Int.sub_zero]) rfl (Nat.le_refl _)⟩ ?_
    rintro ⟨j, id, c⟩ ⟨hj, hid⟩ n0
    simp only at hj hid ⊢
    refine awp_seqP rfl ?_
    refine awp_seqP rfl ?_
    refine awp_regP (Γ := noEnv) [11, 0, 1, 7] (noEnv_ok _ _) rfl rfl rfl (fun K hK => ?_)
    simp only [Tryd.f75, bodyOf, Option.getD_some, cl, cr, rOps, lights, light, rN, List.size_toArray, List.length_cons, List.length_nil, Nat.reduceAdd, Nat.zero_add, List.map_cons, List.map_nil, Option.map_none]
    simp (maxSteps := 300000) (disch := omega) only [go_sem, Nat.reduceAdd, ↓reduceIte]
    with_reducible refine hK _ ?_
    clear hK K
    refine nx_then ?_
    refine awp_ifD (.tmp 11) rfl rfl rfl (fun h => ?_) (fun h => ?_)
    · skip
      refine awp_drop rfl ?_
      have e1 : (8 * ((k : Int) - 1 - (j : Int))).toNat = 8 * (k - 1 - j) := by omega
      have hl := beL_len n k j
      refine awp_skipP rfl ?_
      refine nx_then ?_
      refine awp_seqP rfl ?_
      refine awp_blockN 1 rfl rfl ?_
      refine awp_regP (Γ := noEnv) [0, 1, 7] (noEnv_ok _ _) rfl rfl rfl (fun K hK => ?_)
      simp only [Tryd.f75, bodyOf, Option.getD_some, cl, cr, rOps, lights, light, rN, List.size_toArray, List.length_cons, List.length_nil, Nat.reduceAdd, Nat.zero_add, List.map_cons, List.map_nil, Option.map_none]
      simp (maxSteps := 300000) (disch := omega) only [go_sem, Nat.reduceAdd, Nat.reduceLeDiff, Nat.reduceLT, ↓reduceIte, e1, hl]
      with_reducible refine hK _ ?_
      clear hK K
      refine nx_blk (nx_then ?_)
      refine awp_regP (Γ := noEnv) [0, 1, 7] (noEnv_ok _ _) rfl rfl rfl (fun K hK => ?_)
      simp only [Tryd.f75, bodyOf, Option.getD_some, cl, cr, rOps, lights, light, rN, List.size_toArray, List.length_cons, List.length_nil, Nat.reduceAdd, Nat.zero_add, List.map_cons, List.map_nil, Option.map_none]
      simp (maxSteps := 300000) (disch := omega) only [go_sem, Nat.reduceAdd, ↓reduceIte]
      with_reducible refine hK _ ?_
      clear hK K
      refine nx_loop ?_
      have e2 : (k : Int) - 1 - ((j : Int) + 1) = (k : Int) - 1 - (j : Int) - 1 := by omega
      have e4 : beL n k (j + 1) = beL n k j ++ [(n >>> (8 * (k - 1 - j))).setWidth 8] := rfl
      refine ⟨⟨j + 1, c + 2 + 7, _⟩, ⟨by simp only; omega, by simp only; omega⟩, by simp only; omega, ⟨fun _ => .inr ?_, fun j o h => ?_, Nat.le_refl _⟩⟩
      · simp only [Int.natCast_add, Int.natCast_one, e2]
      · simp only at h
        exact hsub_cons (by simp (disch := omega) only [up_app, ↓reduceIte, eq_self, e4]) (hsub_nil) j o h
    · skip
      refine awp_drop rfl ?_
      refine awp_exitN 0 rfl rfl ?_
      refine nx_ex_then (nx_ex_loop (nx_ex_blk ?_))
      refine nx_then ?_
      refine awp_seqP rfl ?_
      obtain rfl : j = k := by omega
      have hl := beL_len n j j
      refine awp_regP (Γ := noEnv) [6] (noEnv_ok _ _) rfl rfl rfl (fun K hK => ?_)
      simp only [Tryd.f75, bodyOf, Option.getD_some, cl, cr, rOps, lights, light, rN, List.size_toArray, List.length_cons, List.length_nil, Nat.reduceAdd, Nat.zero_add, List.map_cons, List.map_nil, Option.map_none]
      simp (maxSteps := 300000) (disch := omega) only [go_sem, Nat.reduceAdd, ↓reduceIte]
      with_reducible refine hK _ ?_
      clear hK K
      refine nx_then ?_
      refine awp_retP rfl ?_
      simp (disch := omega) only [freshQ, freshR, resA, resAL, resA1, Tryd.f75, go_sem, ↓reduceIte, c8_noOwn, hl]
  · cases hg
end Go.AX

namespace Go.AX
open Go Go.Proofs

theorem callS_g2 (f : FuncId) (args : List AV) (nx n : Nat) (hp : H) (id cx : Nat) (g : List AV → Option (Nat × Nat × List AV)) : callS f args 2 nx n hp id cx (some (.fresh false g)) = obind (borrowL (fun _ => none) args) fun as_ => obind (g as_) fun r => some (.os id 0 r.1 r.2.1 true, upd hp id (.cells r.2.2 true), cx) := (rfl)
attribute [go_sem] callS_g2
theorem ds4c (a b c e : B8) (l : List B8) : c8 (a :: b :: c :: e :: l) = c8 ([a, b, c, e] ++ l) := rfl
namespace Fr
theorem ok75 : EntOK Tryd.prog GLh 75 (.fresh false putF) := ⟨⟨_, Tryd.func75, rfl, rfl⟩, put_okF⟩

set_option maxHeartbeats 1000000 in
theorem rds_ok : FreshOK Tryd.prog GLh 43 dsG := by
  refine fresh_of_awp Tryd.func43 (bodyOf_some rfl) ?_
  intro args r hg
  unfold dsG at hg
  split at hg
  · rename_i n xs m ys
    replace hg := obind_inv hg; obtain ⟨ps, hb, hg⟩ := hg
    replace hg := obind_inv hg; obtain ⟨d, hb2, hg⟩ := hg
    replace hg := guardO_inv hg; obtain ⟨⟨hn, hbig, hm, hbig2⟩, hg⟩ := hg
    obtain rfl := Option.some.inj hg
    have := unS_inv hb; subst this
    have := un8_inv _ hb2; subst this
    subst hn; subst hm
    clear hg hb hb2
    refine ⟨Nat.le_of_ble_eq_true rfl, fun nx => ?_⟩
    have hpn := wirB_ge ps
    have hll := lowS_len ps
    have hwl := wireL_len ps
    have hwb := wirB_low ps
    obtain ⟨tx, htx⟩ : ∃ tx, wireL (lowS ps) ++ d = tx := ⟨_, rfl⟩
    have htl : tx.length = (wirB ps).length + 1 + d.length := by rw [← htx, List.length_append, hwl]
    have htk : tx.take ((wirB ps).length + 1 + d.length) = tx := List.take_of_length_le (by omega)
    have hs := sumL_len tx
    have hds : dsL ps d = [(tagL d >>> 8).setWidth 8, (tagL d).setWidth 8, d.getD 3 0#8, 2#8] ++ sumL tx := by rw [← htx]; rfl
    have ht2 := tag2 (tagL d)
    have hdl := dsL_len ps d
    refine awp_seqP rfl ?_
    refine awp_regP (Γ := noEnv) [0, 1] (noEnv_ok _ _) rfl rfl rfl (fun K hK => ?_)
    simp only [Tryd.f43, bodyOf, Option.getD_some, cl, rOps, lights, light, rN, List.size_toArray, List.length_cons, List.length_nil, Nat.zero_add, List.map_cons, List.map_nil, Option.map_none]
    simp (maxSteps := 300000) (disch := omega) only [go_sem, ↓reduceIte]
    with_reducible refine hK _ ?_
    clear hK K
    refine nx_then ?_
    refine awp_seqP rfl ?_
    refine awp_regP (Γ := noEnv) [0, 1, 5] (noEnv_ok _ _) rfl rfl rfl (fun K hK => ?_)
    simp only [Tryd.f43, bodyOf, Option.getD_some, cl, cr, rOps, lights, light, rN, List.size_toArray, List.length_cons, List.length_nil, Nat.zero_add, List.map_cons, List.map_nil, Option.map_none]
    simp (maxSteps := 300000) (disch := omega) only [go_sem, Int.reduceLE, Int.reduceLT, BitVec.reduceOfInt, ↓reduceIte]
    with_reducible refine hK _ ?_
    clear hK K
    refine nx_then ?_
    refine awp_seqP rfl ?_
    refine awp_seqP rfl ?_
    refine awp_regP (Γ := noEnv) [9, 0, 1, 5] (noEnv_ok _ _) rfl rfl rfl (fun K hK => ?_)
    simp only [Tryd.f43, bodyOf, Option.getD_some, cl, cr, rOps, lights, light, rN, List.size_toArray, List.length_cons, List.length_nil, Nat.reduceAdd, Nat.zero_add, List.map_cons, List.map_nil, Option.map_none]
    simp (maxSteps := 300000) (disch := omega) only [go_sem, Nat.reduceAdd, ↓reduceIte]
    with_reducible refine hK _ ?_
    clear hK K
    refine nx_then ?_
    have hds4 : c8 ((tagL d >>> 8).setWidth 8 :: (tagL d).setWidth 8 :: d.getD 3 0#8 :: 2#8 :: sumL tx) = c8 (dsL ps d) := by rw [hds]; exact ds4c _ _ _ _ _
    by_cases h3 : 4 ≤ d.length
    · skip
      refine awp_ifD (.tmp 9) rfl rfl rfl (fun h => ?_) (fun h => ?_)
      · skip
        refine awp_drop rfl ?_
        refine awp_regP (Γ := noEnv) [0, 1, 5] (noEnv_ok _ _) rfl rfl rfl (fun K hK => ?_)
        simp only [Tryd.f43, bodyOf, Option.getD_some, cl, cr, rOps, lights, light, rN, List.size_toArray, List.length_cons, List.length_nil, Nat.reduceAdd, Nat.zero_add, List.map_cons, List.map_nil, Option.map_none]
        simp (maxSteps := 300000) (disch := omega) only [go_sem, Nat.reduceAdd, Int.reduceLE, Int.reduceToNat, ↓reduceIte]
        with_reducible refine hK _ ?_
        clear hK K
        refine nx_then ?_
        refine awp_seqP rfl ?_
        refine awp_regP (Γ := envL [(74, .fresh true lowerG), (73, .fresh true wireG), (23, .pure true ref2G)]) [1, 5, 6] (envOK_cons ok74 (envOK_cons ok73 (envOK_cons ok23 envOK_nil))) rfl rfl rfl (fun K hK => ?_)
        simp only [Tryd.f43, bodyOf, Option.getD_some, cl, cr, rOps, lights, light, rN, List.size_toArray, List.length_cons, List.length_nil, Nat.reduceAdd, Nat.zero_add, List.map_cons, List.map_nil, Option.map_none]
        simp (maxSteps := 300000) (disch := omega) only [go_sem, Nat.reduceAdd, Nat.reduceLeDiff, Nat.reduceLT, ↓reduceIte, hwl, htx, htl, htk]
        with_reducible refine hK _ ?_
        clear hK K
        refine nx_then ?_
        refine awp_seqP rfl ?_
        refine awp_drwP (Γ := envL [(41, .pure true tagG), (75, .fresh false putF)]) (fun k => if k = 6 then 82 else if k = 8 then 210 else 2) [4] mixed (envOK_cons ok41 (envOK_cons ok75 envOK_nil)) rfl rfl rfl (by kernel_rfl) (fun K hK => ?_)
        simp only [Tryd.f43, bodyOf, Option.getD_some, cl, cr, rOps, lights, light, rN, List.size_toArray, List.length_cons, List.length_nil, Nat.reduceAdd, Nat.zero_add, List.map_cons, List.map_nil, Option.map_none]
        simp (maxSteps := 300000) (disch := omega) only [go_sem, Nat.reduceAdd, Nat.reduceSub, Nat.reduceLeDiff, Nat.reduceLT, Int.reduceLE, Int.reduceLT, Int.reduceToNat, BitVec.reduceOfInt, ↓reduceIte, hs, ht2]
        with_reducible refine hK _ ?_
        clear hK K
        refine nx_then ?_
        trace_state
        refine awp_retP rfl ?_
        simp (disch := omega) only [freshQ, freshR, resA, resAL, resA1, Tryd.f43, go_sem, ↓reduceIte, c8_noOwn, hds4, hdl]
      · skip
        refine awp_drop rfl ?_
        omega
    · skip
      refine awp_ifD (.tmp 9) rfl rfl rfl (fun h => ?_) (fun h => ?_)
      · skip
        refine awp_drop rfl ?_
        omega
      · skip
        refine awp_drop rfl ?_
        refine awp_skipP rfl ?_
        refine nx_then ?_
        refine awp_seqP rfl ?_
        have hz : d.getD 3 0#8 = 0#8 := by rw [List.getD_eq_getElem?_getD, List.getElem?_eq_none (by omega)]; rfl
        rw [hz] at hds4
        refine awp_regP (Γ := envL [(74, .fresh true lowerG), (73, .fresh true wireG), (23, .pure true ref2G)]) [1, 5, 6] (envOK_cons ok74 (envOK_cons ok73 (envOK_cons ok23 envOK_nil))) rfl rfl rfl (fun K hK => ?_)
        simp only [Tryd.f43, bodyOf, Option.getD_some, cl, cr, rOps, lights, light, rN, List.size_toArray, List.length_cons, List.length_nil, Nat.reduceAdd, Nat.zero_add, List.map_cons, List.map_nil, Option.map_none]
        simp (maxSteps := 300000) (disch := omega) only [go_sem, Nat.reduceAdd, Nat.reduceLeDiff, Nat.reduceLT, ↓reduceIte, hwl, htx, htl, htk]
        with_reducible refine hK _ ?_
        clear hK K
        refine nx_then ?_
        refine awp_seqP rfl ?_
        refine awp_drwP (Γ := envL [(41, .pure true tagG), (75, .fresh false putF)]) (fun k => if k = 6 then 82 else if k = 8 then 210 else 2) [4] mixed (envOK_cons ok41 (envOK_cons ok75 envOK_nil)) rfl rfl rfl (by kernel_rfl) (fun K hK => ?_)
        simp only [Tryd.f43, bodyOf, Option.getD_some, cl, cr, rOps, lights, light, rN, List.size_toArray, List.length_cons, List.length_nil, Nat.reduceAdd, Nat.zero_add, List.map_cons, List.map_nil, Option.map_none]
        simp (maxSteps := 300000) (disch := omega) only [go_sem, Nat.reduceAdd, Nat.reduceSub, Nat.reduceLeDiff, Nat.reduceLT, Int.reduceLE, Int.reduceLT, Int.reduceToNat, BitVec.reduceOfInt, ↓reduceIte, hs, ht2]
        with_reducible refine hK _ ?_
        clear hK K
        refine nx_then ?_
        refine awp_retP rfl ?_
        simp (disch := omega) only [freshQ, freshR, resA, resAL, resA1, Tryd.f43, go_sem, ↓reduceIte, c8_noOwn, hds4, hdl]
  · cases hg
end Fr
theorem ok43 : EntOK Tryd.prog GLh 43 (.fresh true dsG) := ⟨⟨_, Tryd.func43, rfl, rfl⟩, Fr.rds_ok⟩
end Go.AX
