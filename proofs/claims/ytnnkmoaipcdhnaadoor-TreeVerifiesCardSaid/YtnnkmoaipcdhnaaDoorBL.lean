/-
  Once, part G: opening signatures. Once, part H: the reference's opening. Once, part I: a signature opens to its public key; what the statements of layer 7 ask ahead of all.
-/
import Derived.Test.YtnnkmoaipcdhnaaDoorBH
namespace Go.AX
open Go Go.Proofs

theorem noOwn_agg (x r : List AV) : noOwn (.agg x :: r) = false := (rfl)
theorem tkr8 : List.take 8 (List.replicate 8 0#8) = List.replicate 8 0#8 := (rfl)
attribute [go_sem] noOwn_agg tkr8
theorem bitL_01 (d : W32) (i : Nat) : bitL d i = 0#8 ∨ bitL d i = 1#8 := by
  unfold bitL
  have h : ((d >>> (31 - i)) &&& 1#32).toNat = (d >>> (31 - i)).toNat % 2 := by rw [BitVec.toNat_and]; exact Nat.and_one_is_mod _
  generalize (d >>> (31 - i)) &&& 1#32 = z at h
  have h2 := Nat.mod_two_eq_zero_or_one (d >>> (31 - i)).toNat
  rcases h2 with h2 | h2
  · left; apply BitVec.eq_of_toNat_eq; rw [BitVec.toNat_setWidth, h, h2]; rfl
  · right; apply BitVec.eq_of_toNat_eq; rw [BitVec.toNat_setWidth, h, h2]; rfl
theorem bit_eq0 (d : W32) (i : Nat) : decide ((d >>> (31 - i)) &&& 1#32 = 0#32) = decide (bitL d i = 0#8) := by
  rw [decide_eq_decide]
  unfold bitL
  have h : ((d >>> (31 - i)) &&& 1#32).toNat = (d >>> (31 - i)).toNat % 2 := by rw [BitVec.toNat_and]; exact Nat.and_one_is_mod _
  generalize (d >>> (31 - i)) &&& 1#32 = z at h
  constructor
  · intro e; rw [e]; rfl
  · intro e
    have := congrArg BitVec.toNat e
    rw [BitVec.toNat_setWidth] at this
    apply BitVec.eq_of_toNat_eq
    have h3 : z.toNat < 2 := by rw [h]; omega
    have e0 : (0#8).toNat = 0 := rfl
    have e1 : (0#32).toNat = 0 := rfl
    rw [e0] at this; rw [e1]; omega
def sx (sig : List B8) (i : Nat) : List B8 := (sig.drop (16 * i)).take 8
def sy (sig : List B8) (i : Nat) : List B8 := (sig.drop (16 * i + 8)).take 8
def ob1 (d : W32) (sig : List B8) (i : Nat) : List B8 := if bitL d i = 0#8 then lockL (sx sig i) ++ sy sig i else sy sig i ++ lockL (sx sig i)
def openL (d : W32) (sig : List B8) : List B8 := shortL 3#8 [fl (ob1 d sig) 32]
theorem sx_len (sig : List B8) (h : sig.length = 512) (i : Nat) (hi : i < 32) : (sx sig i).length = 8 := by rw [sx, List.length_take, List.length_drop]; omega
theorem sy_len (sig : List B8) (h : sig.length = 512) (i : Nat) (hi : i < 32) : (sy sig i).length = 8 := by rw [sy, List.length_take, List.length_drop]; omega
theorem ob1_len (d : W32) (sig : List B8) (h : sig.length = 512) (i : Nat) (hi : i < 32) : (ob1 d sig i).length = 16 := by
  unfold ob1; split <;> simp [lockL_len, sy_len sig h i hi]
theorem fob_len (d : W32) (sig : List B8) (h : sig.length = 512) (k : Nat) (hk : k ≤ 32) : (fl (ob1 d sig) k).length = 16 * k := by
  induction k with
  | zero => rfl
  | succ k ih => rw [fl, List.length_append, ih (by omega), ob1_len d sig h k (by omega)]; omega
theorem openL_len (d : W32) (sig : List B8) : (openL d sig).length = 8 := shortL_len _ _
/-- What an opening comes to. -/
def openR (msg sig : List B8) : AV := if sig.length = 512 then .tup [.agg (c8 (openL (digL msg) sig)), .b true] else .tup [.agg (c8 (List.replicate 8 0#8)), .b false]
theorem openR_y (msg sig : List B8) (h : sig.length = 512) : openR msg sig = .tup [.agg (c8 (openL (digL msg) sig)), .b true] := if_pos h
theorem openR_n (msg sig : List B8) (h : sig.length ≠ 512) : openR msg sig = .tup [.agg (c8 (List.replicate 8 0#8)), .b false] := if_neg h
def openG : List AV → Option AV
  | [.sl n xs, .sl m ys] => obind (un8 xs) fun a => obind (un8 ys) fun b => guardO (a.length = n ∧ b.length = m ∧ n ≤ 900000000 ∧ m ≤ 900000000) (some (openR a b))
  | _ => none
theorem openG_eq (n m : Nat) (xs ys : List AV) : openG [.sl n xs, .sl m ys] = obind (un8 xs) fun a => obind (un8 ys) fun b => guardO (a.length = n ∧ b.length = m ∧ n ≤ 900000000 ∧ m ≤ 900000000) (some (openR a b)) := (rfl)
theorem openR_nm (a b : List B8) : (openR a b).noMem = true := by
  unfold openR; split <;> simp only [AV.noMem, AV.noMem.noMemL, nmL_c8, Bool.and_self]
attribute [go_sem] openG_eq openL_len openR_nm

theorem splice_mid (a b c y : List B8) (h : b.length = y.length) : splice8 (a ++ b ++ c) a.length y = a ++ y ++ c := by
  unfold splice8
  rw [show List.take a.length (a ++ b ++ c) = a from by rw [List.append_assoc, List.take_left' rfl], show List.drop (a.length + y.length) (a ++ b ++ c) = c from List.drop_left' (by rw [List.length_append, h])]
def orow (d : W32) (sig : List B8) (k : Nat) : List B8 := fl (ob1 d sig) k ++ List.replicate (512 - 16 * k) 0#8
theorem orow_len (d : W32) (sig : List B8) (h : sig.length = 512) (k : Nat) (hk : k ≤ 32) : (orow d sig k).length = 512 := by
  rw [orow, List.length_append, fob_len d sig h k hk, List.length_replicate]; omega
theorem splice8_len (l : List B8) (k : Nat) (m : List B8) (h : k + m.length ≤ l.length) : (splice8 l k m).length = l.length := by
  simp only [splice8, List.length_append, List.length_take, List.length_drop]; omega
theorem orow_0 (d : W32) (sig : List B8) (h : sig.length = 512) (k : Nat) (hk : k < 32) (hv : bitL d k = 0#8) :
    splice8 (splice8 (orow d sig k) (16 * k) (lockL (sx sig k))) (16 * k + 8) (sy sig k) = orow d sig (k + 1) := by
  have hl := fob_len d sig h k (by omega)
  have e1 : orow d sig k = fl (ob1 d sig) k ++ List.replicate 8 0#8 ++ (List.replicate 8 0#8 ++ List.replicate (512 - 16 * (k + 1)) 0#8) := by
    rw [orow, List.append_assoc, ← List.append_assoc (List.replicate 8 0#8), List.replicate_append_replicate, List.replicate_append_replicate]; congr 2; omega
  rw [e1]
  have s1 := splice_mid (fl (ob1 d sig) k) (List.replicate 8 0#8) (List.replicate 8 0#8 ++ List.replicate (512 - 16 * (k + 1)) 0#8) (lockL (sx sig k)) (by rw [lockL_len, List.length_replicate])
  rw [hl] at s1
  rw [s1]
  have s2 := splice_mid (fl (ob1 d sig) k ++ lockL (sx sig k)) (List.replicate 8 0#8) (List.replicate (512 - 16 * (k + 1)) 0#8) (sy sig k) (by rw [sy_len sig h k hk, List.length_replicate])
  rw [List.length_append, hl, lockL_len] at s2
  rw [← List.append_assoc]
  rw [s2, orow, fl, ob1, if_pos hv]
  simp only [List.append_assoc]
theorem orow_1 (d : W32) (sig : List B8) (h : sig.length = 512) (k : Nat) (hk : k < 32) (hv : bitL d k = 1#8) :
    splice8 (splice8 (orow d sig k) (16 * k + 8) (lockL (sx sig k))) (16 * k) (sy sig k) = orow d sig (k + 1) := by
  have hl := fob_len d sig h k (by omega)
  have e1 : orow d sig k = (fl (ob1 d sig) k ++ List.replicate 8 0#8) ++ List.replicate 8 0#8 ++ List.replicate (512 - 16 * (k + 1)) 0#8 := by
    rw [orow, List.append_assoc, List.append_assoc, List.replicate_append_replicate, List.replicate_append_replicate]; congr 2; omega
  rw [e1]
  have s1 := splice_mid (fl (ob1 d sig) k ++ List.replicate 8 0#8) (List.replicate 8 0#8) (List.replicate (512 - 16 * (k + 1)) 0#8) (lockL (sx sig k)) (by rw [lockL_len, List.length_replicate])
  rw [List.length_append, hl, List.length_replicate] at s1
  rw [s1]
  have s2 := splice_mid (fl (ob1 d sig) k) (List.replicate 8 0#8) (lockL (sx sig k) ++ List.replicate (512 - 16 * (k + 1)) 0#8) (sy sig k) (by rw [sy_len sig h k hk, List.length_replicate])
  rw [hl, ← List.append_assoc] at s2
  rw [s2, orow, fl, ob1, if_neg (by rw [hv]; decide)]
  simp only [List.append_assoc]

set_option maxHeartbeats 1000000 in
theorem open_ok : PureOK Tryd.prog GLh 30 openG := by
  refine pure_of_awp Tryd.func30 (bodyOf_some rfl) ?_
  intro args r hg
  unfold openG at hg
  split at hg
  · rename_i n m xs ys
    replace hg := obind_inv hg; obtain ⟨msg, ha, hg⟩ := hg
    replace hg := obind_inv hg; obtain ⟨sig, hb, hg⟩ := hg
    replace hg := guardO_inv hg; obtain ⟨⟨hn, hm, hb1, hb2⟩, hg⟩ := hg
    obtain rfl := Option.some.inj hg
    have := un8_inv _ ha; subst this
    have := un8_inv _ hb; subst this
    subst hn; subst hm
    clear hg ha hb
    refine ⟨Nat.le_of_ble_eq_true rfl, fun nx => ?_⟩
    refine awp_seqP rfl ?_
    refine awp_regP (Γ := noEnv) [0, 1, 4] (noEnv_ok _ _) rfl rfl rfl (fun K hK => ?_)
    simp only [Tryd.f30, bodyOf, Option.getD_some, cl, rOps, lights, light, rN, List.size_toArray, List.length_cons, List.length_nil, Nat.reduceAdd, Nat.zero_add, List.map_cons, List.map_nil, Option.map_none]
    simp (maxSteps := 300000) (disch := omega) only [go_sem, Nat.reduceAdd, ↓reduceIte]
    with_reducible refine hK _ ?_
    clear hK K
    refine nx_then ?_
    refine awp_seqP rfl ?_
    refine awp_seqP rfl ?_
    refine awp_regP (Γ := noEnv) [13, 0, 1, 4] (noEnv_ok _ _) rfl rfl rfl (fun K hK => ?_)
    simp only [Tryd.f30, bodyOf, Option.getD_some, cl, cr, rOps, lights, light, rN, List.size_toArray, List.length_cons, List.length_nil, Nat.reduceAdd, Nat.zero_add, List.map_cons, List.map_nil, Option.map_none]
    simp (maxSteps := 300000) (disch := omega) only [go_sem, Nat.reduceAdd, ↓reduceIte]
    with_reducible refine hK _ ?_
    clear hK K
    refine nx_then ?_
    refine awp_ifE (.tmp 13) rfl rfl rfl (fun h => ?_) (fun h => ?_)
    · skip
      refine awp_drop rfl ?_
      rw [openR_n _ _ (by omega)]
      have hst : storeL (c8 (List.replicate 8 0#8)) 0 (c8 (List.replicate 8 0#8)) = c8 (List.replicate 8 0#8) := storeL_rep8 8 _ _ (by simp)
      refine awp_seqP rfl ?_
      refine awp_regP (Γ := noEnv) [4, 5] (noEnv_ok _ _) rfl rfl rfl (fun K hK => ?_)
      simp only [Tryd.f30, bodyOf, Option.getD_some, cl, cr, rOps, lights, light, rN, List.size_toArray, List.length_cons, List.length_nil, Nat.reduceAdd, Nat.zero_add, List.map_cons, List.map_nil, Option.map_none]
      simp (maxSteps := 300000) (disch := omega) only [go_sem, Nat.reduceAdd, Nat.reduceLeDiff, ↓reduceIte, hst]
      with_reducible refine hK _ ?_
      clear hK K
      refine nx_then ?_
      refine awp_retP rfl ?_
      refine nx_ret_then ?_
      simp (disch := omega) only [pureQ, resA, resAL, resA1, Tryd.f30, go_sem, Nat.reduceLeDiff, ↓reduceIte, ldV, c8_noOwn]
    · skip
      refine awp_drop rfl ?_
      have hl : sig.length = 512 := by omega
      rw [openR_y _ _ hl]
      have hs := openL_len (digL msg) sig
      refine awp_skipP rfl ?_
      refine nx_then ?_
      refine awp_seqP rfl ?_
      refine awp_regP (Γ := noEnv) [0, 1, 4, 6] (noEnv_ok _ _) rfl rfl rfl (fun K hK => ?_)
      simp only [Tryd.f30, bodyOf, Option.getD_some, cl, cr, rOps, lights, light, rN, List.size_toArray, List.length_cons, List.length_nil, Nat.zero_add, List.map_cons, List.map_nil, Option.map_none]
      simp (maxSteps := 300000) (disch := omega) only [go_sem, ↓reduceIte]
      with_reducible refine hK _ ?_
      clear hK K
      refine nx_then ?_
      refine awp_seqP rfl ?_
      refine awp_regP (Γ := envL [(35, .pure true digG)]) [1, 4, 6, 7] (envOK_cons ok35 envOK_nil) rfl rfl rfl (fun K hK => ?_)
      simp only [Tryd.f30, bodyOf, Option.getD_some, cl, cr, rOps, lights, light, rN, List.size_toArray, List.length_cons, List.length_nil, Nat.reduceAdd, Nat.zero_add, List.map_cons, List.map_nil, Option.map_none]
      simp (maxSteps := 300000) (disch := omega) only [go_sem, Nat.reduceAdd, ↓reduceIte]
      with_reducible refine hK _ ?_
      clear hK K
      refine nx_then ?_
      generalize digL msg = d at hs ⊢
      refine awp_seqP rfl ?_
      refine awp_seqP rfl ?_
      refine awp_regP (Γ := noEnv) [1, 4, 6, 7, 17] (noEnv_ok _ _) rfl rfl rfl (fun K hK => ?_)
      simp only [Tryd.f30, bodyOf, Option.getD_some, cl, cr, rOps, lights, light, rN, List.size_toArray, List.length_cons, List.length_nil, Nat.zero_add, List.map_cons, List.map_nil, Option.map_none]
      simp (maxSteps := 300000) (disch := omega) only [go_sem, ↓reduceIte]
      with_reducible refine hK _ ?_
      clear hK K
      refine nx_then ?_
      have h0 : c8 (List.replicate 512 0#8) = c8 (orow d sig 0) := rfl
      refine awp_blockN 0 rfl rfl ?_
      refine awp_loopP (fun p : KC => { fr := [(1, .sl sig.length (c8 sig)), (4, .op nx 0), (6, .op (nx + 2 + 3) 0), (7, .w32 d), (17, .i p.k)], hp := upd (upd (fun _ => none) nx (.cells (c8 (List.replicate 8 0#8)) true)) (nx + 2 + 3) (.cells (c8 (orow d sig p.k)) true), nx := 0, cx := p.c }) (fun p => p.k ≤ 32 ∧ nx + 2 + 3 < p.c) (fun p => 32 - p.k) rfl ⟨⟨0, _⟩, ⟨Nat.zero_le _, by simp only; omega⟩, sub_same rfl rfl (Nat.le_refl _)⟩ ?_
      rintro ⟨k, c⟩ ⟨hk, hc⟩ n0
      simp only at hk hc ⊢
      have hol := orow_len d sig hl k hk
      refine awp_seqP rfl ?_
      refine awp_regP (Γ := noEnv) [18, 1, 4, 6, 7, 17] (noEnv_ok _ _) rfl rfl rfl (fun K hK => ?_)
      simp only [Tryd.f30, bodyOf, Option.getD_some, cl, cr, rOps, lights, light, rN, List.size_toArray, List.length_cons, List.length_nil, Nat.zero_add, List.map_cons, List.map_nil, Option.map_none]
      simp (maxSteps := 300000) (disch := omega) only [go_sem, ↓reduceIte]
      with_reducible refine hK _ ?_
      clear hK K
      refine nx_then ?_
      refine awp_seqP rfl ?_
      refine awp_ifD (.tmp 18) rfl rfl rfl (fun h => ?_) (fun h => ?_)
      · skip
        refine awp_drop rfl ?_
        have hsx := sx_len sig hl k (by omega)
        have hsy := sy_len sig hl k (by omega)
        have hll := lockL_len (sx sig k)
        refine awp_skipP rfl ?_
        refine nx_then ?_
        refine awp_seqP rfl ?_
        refine awp_blockN 1 rfl rfl ?_
        refine awp_seqP rfl ?_
        refine awp_regP (Γ := noEnv) [1, 4, 6, 7, 8, 17] (noEnv_ok _ _) rfl rfl rfl (fun K hK => ?_)
        simp only [Tryd.f30, bodyOf, Option.getD_some, cl, cr, rOps, lights, light, rN, List.size_toArray, List.length_cons, List.length_nil, Nat.reduceAdd, Nat.zero_add, List.map_cons, List.map_nil, Option.map_none]
        simp (maxSteps := 300000) (disch := omega) only [go_sem, Nat.reduceAdd, ↓reduceIte]
        with_reducible refine hK _ ?_
        clear hK K
        refine nx_then ?_
        refine awp_seqP rfl ?_
        refine awp_regP (Γ := envL [(64, .pure true bitG)]) [1, 4, 6, 7, 8, 9, 17] (envOK_cons ok64 envOK_nil) rfl rfl rfl (fun K hK => ?_)
        simp only [Tryd.f30, bodyOf, Option.getD_some, cl, cr, rOps, lights, light, rN, List.size_toArray, List.length_cons, List.length_nil, Nat.reduceAdd, Nat.zero_add, List.map_cons, List.map_nil, Option.map_none]
        simp (maxSteps := 300000) (disch := omega) only [go_sem, Nat.reduceAdd, ↓reduceIte]
        with_reducible refine hK _ ?_
        clear hK K
        refine nx_then ?_
        have e1 : ((k : Int) * 16).toNat = 16 * k := by omega
        have e2 : (((k : Int) + 1) * 16).toNat = 16 * k + 16 := by omega
        have e3 : 16 * k + 16 - 16 * k = 16 := by omega
        have ht : (List.take 16 (List.drop (16 * k) sig)).length = 16 := by rw [List.length_take, List.length_drop]; omega
        have hx : List.take 8 (List.take 16 (List.drop (16 * k) sig)) = sx sig k := by rw [List.take_take]; rfl
        have hy : List.take 8 (List.drop 8 (List.take 16 (List.drop (16 * k) sig))) = sy sig k := by rw [List.drop_take, List.take_take, List.drop_drop]; rfl
        refine awp_seqP rfl ?_
        refine awp_regP (Γ := noEnv) [1, 4, 6, 7, 8, 9, 10, 17] (noEnv_ok _ _) rfl rfl rfl (fun K hK => ?_)
        simp only [Tryd.f30, bodyOf, Option.getD_some, cl, cr, rOps, lights, light, rN, List.size_toArray, List.length_cons, List.length_nil, Nat.reduceAdd, Nat.zero_add, List.map_cons, List.map_nil, Option.map_none]
        simp (maxSteps := 300000) (disch := omega) only [go_sem, Nat.reduceAdd, ↓reduceIte, e1, e2, e3]
        with_reducible refine hK _ ?_
        clear hK K
        refine nx_then ?_
        rcases bitL_01 d k with hv | hv
        · skip
          have hnx := orow_0 d sig hl k (by omega) hv
          have e9 : k * 16 = 16 * k := by omega
          have hl2 : (splice8 (orow d sig k) (16 * k) (lockL (sx sig k))).length = 512 := by rw [splice8_len _ _ _ (by omega), hol]
          rw [hv]
          refine awp_seqP rfl ?_
          refine awp_drwP (Γ := envL [(66, .pure true lockG)]) (fun k => if k = 4 then 0 else 2) [1, 4, 6, 7, 8, 9, 10, 17] mixed (envOK_cons ok66 envOK_nil) rfl rfl rfl (by kernel_rfl) (fun K hK => ?_)
          simp only [Tryd.f30, bodyOf, Option.getD_some, cl, cr, rOps, lights, light, rN, List.size_toArray, List.length_cons, List.length_nil, Nat.reduceAdd, Nat.zero_add, List.map_cons, List.map_nil, Option.map_none]
          simp (maxSteps := 300000) (disch := omega) only [go_sem, Nat.reduceAdd, Nat.reduceSub, Nat.reduceLeDiff, Int.reduceLE, Int.reduceToNat, BitVec.reduceToNat, ↓reduceIte, hx, hll, hol, e9, storeL_c8]
          with_reducible refine hK _ ?_
          clear hK K
          refine nx_then ?_
          refine awp_drwP (Γ := noEnv) (fun k => if k = 6 then 0 else 2) [1, 4, 6, 7, 17] mixed (noEnv_ok _ _) rfl rfl rfl (by kernel_rfl) (fun K hK => ?_)
          simp only [Tryd.f30, bodyOf, Option.getD_some, cl, cr, rOps, lights, light, rN, List.size_toArray, List.length_cons, List.length_nil, Nat.reduceAdd, Nat.zero_add, List.map_cons, List.map_nil, Option.map_none]
          simp (maxSteps := 300000) (disch := omega) only [go_sem, Nat.reduceAdd, Nat.reduceSub, Nat.reduceLeDiff, Int.reduceLE, Int.reduceLT, Int.reduceToNat, BitVec.reduceOfInt, BitVec.reduceToNat, BitVec.reduceSub, ↓reduceIte, hy, hl2, e9, storeL_c8, hsy, hnx]
          with_reducible refine hK _ ?_
          clear hK K
          refine nx_blk (nx_then ?_)
          refine awp_regP (Γ := noEnv) [1, 4, 6, 7, 17] (noEnv_ok _ _) rfl rfl rfl (fun K hK => ?_)
          simp only [Tryd.f30, bodyOf, Option.getD_some, cl, cr, rOps, lights, light, rN, List.size_toArray, List.length_cons, List.length_nil, Nat.reduceAdd, Nat.zero_add, List.map_cons, List.map_nil, Option.map_none]
          simp (maxSteps := 300000) (disch := omega) only [go_sem, Nat.reduceAdd, ↓reduceIte]
          with_reducible refine hK _ ?_
          clear hK K
          refine nx_loop ?_
          refine ⟨⟨k + 1, _⟩, ⟨by simp only; omega, by simp only; omega⟩, by simp only; omega, ⟨fun _ => .inr ?_, fun j o h => ?_, Nat.le_refl _⟩⟩
          · simp only [Int.natCast_add, Int.natCast_one]
          · simp only at h
            exact hsub_cons (by simp (disch := omega) only [up_app, ↓reduceIte, eq_self]) (hsub_cons (by simp (disch := omega) only [up_app, nat_ne, ↓reduceIte, eq_self]) (hsub_nil)) j o h
        · skip
          have hnx := orow_1 d sig hl k (by omega) hv
          have e9 : k * 16 = 16 * k := by omega
          have hl2 : (splice8 (orow d sig k) (16 * k + 8) (lockL (sx sig k))).length = 512 := by rw [splice8_len _ _ _ (by omega), hol]
          rw [hv]
          refine awp_seqP rfl ?_
          refine awp_drwP (Γ := envL [(66, .pure true lockG)]) (fun k => if k = 4 then 0 else 2) [1, 4, 6, 7, 8, 9, 10, 17] mixed (envOK_cons ok66 envOK_nil) rfl rfl rfl (by kernel_rfl) (fun K hK => ?_)
          simp only [Tryd.f30, bodyOf, Option.getD_some, cl, cr, rOps, lights, light, rN, List.size_toArray, List.length_cons, List.length_nil, Nat.reduceAdd, Nat.zero_add, List.map_cons, List.map_nil, Option.map_none]
          simp (maxSteps := 300000) (disch := omega) only [go_sem, Nat.reduceAdd, Nat.reduceSub, Nat.reduceLeDiff, Int.reduceLE, Int.reduceToNat, BitVec.reduceToNat, ↓reduceIte, hx, hll, hol, e9, storeL_c8]
          with_reducible refine hK _ ?_
          clear hK K
          refine nx_then ?_
          refine awp_drwP (Γ := noEnv) (fun k => if k = 6 then 0 else 2) [1, 4, 6, 7, 17] mixed (noEnv_ok _ _) rfl rfl rfl (by kernel_rfl) (fun K hK => ?_)
          simp only [Tryd.f30, bodyOf, Option.getD_some, cl, cr, rOps, lights, light, rN, List.size_toArray, List.length_cons, List.length_nil, Nat.reduceAdd, Nat.zero_add, List.map_cons, List.map_nil, Option.map_none]
          simp (maxSteps := 300000) (disch := omega) only [go_sem, Nat.reduceAdd, Nat.reduceSub, Nat.reduceLeDiff, Int.reduceLE, Int.reduceLT, Int.reduceToNat, BitVec.reduceOfInt, BitVec.reduceToNat, BitVec.reduceSub, ↓reduceIte, hy, hl2, e9, storeL_c8, hsy, hnx]
          with_reducible refine hK _ ?_
          clear hK K
          refine nx_blk (nx_then ?_)
          refine awp_regP (Γ := noEnv) [1, 4, 6, 7, 17] (noEnv_ok _ _) rfl rfl rfl (fun K hK => ?_)
          simp only [Tryd.f30, bodyOf, Option.getD_some, cl, cr, rOps, lights, light, rN, List.size_toArray, List.length_cons, List.length_nil, Nat.reduceAdd, Nat.zero_add, List.map_cons, List.map_nil, Option.map_none]
          simp (maxSteps := 300000) (disch := omega) only [go_sem, Nat.reduceAdd, ↓reduceIte]
          with_reducible refine hK _ ?_
          clear hK K
          refine nx_loop ?_
          refine ⟨⟨k + 1, _⟩, ⟨by simp only; omega, by simp only; omega⟩, by simp only; omega, ⟨fun _ => .inr ?_, fun j o h => ?_, Nat.le_refl _⟩⟩
          · simp only [Int.natCast_add, Int.natCast_one]
          · simp only at h
            exact hsub_cons (by simp (disch := omega) only [up_app, ↓reduceIte, eq_self]) (hsub_cons (by simp (disch := omega) only [up_app, nat_ne, ↓reduceIte, eq_self]) (hsub_nil)) j o h
      · skip
        refine awp_drop rfl ?_
        refine awp_exitN 0 rfl rfl ?_
        refine nx_ex_then (nx_ex_loop (nx_ex_blk ?_))
        refine nx_then ?_
        refine awp_seqP rfl ?_
        obtain rfl : k = 32 := by omega
        have hq : orow d sig 32 = fl (ob1 d sig) 32 := by simp [orow]
        have hq2 := fob_len d sig hl 32 (by omega)
        have hf : shortL 3#8 [fl (ob1 d sig) 32] = openL d sig := rfl
        rw [hq]
        refine awp_regP (Γ := envL [(67, .pure true publG)]) [4, 5] (envOK_cons ok67 envOK_nil) rfl rfl rfl (fun K hK => ?_)
        simp only [Tryd.f30, bodyOf, Option.getD_some, cl, cr, rOps, lights, light, rN, List.size_toArray, List.length_cons, List.length_nil, Nat.reduceAdd, Nat.zero_add, List.map_cons, List.map_nil, Option.map_none]
        simp (maxSteps := 300000) (disch := omega) only [go_sem, Nat.reduceAdd, Nat.reduceMul, Nat.reduceLeDiff, ↓reduceIte, hf, hq2]
        with_reducible refine hK _ ?_
        clear hK K
        refine nx_then ?_
        refine awp_retP rfl ?_
        simp (disch := omega) only [pureQ, resA, resAL, resA1, Tryd.f30, go_sem, Nat.reduceLeDiff, ↓reduceIte, ldV, c8_noOwn, hs]
  · cases hg
end Go.AX

namespace Go.AX
open Go Go.Proofs
theorem ok30 : EntOK Tryd.prog GLh 30 (.pure true openG) := ⟨⟨_, Tryd.func30, rfl, rfl⟩, open_ok⟩

theorem fob_0 (d : W32) (sig : List B8) (k : Nat) (hv : bitL d k = 0#8) : fl (ob1 d sig) (k + 1) = fl (ob1 d sig) k ++ lockL (sx sig k) ++ sy sig k := by rw [fl, ob1, if_pos hv, List.append_assoc]
theorem fob_1 (d : W32) (sig : List B8) (k : Nat) (hv : ¬ bitL d k = 0#8) : fl (ob1 d sig) (k + 1) = fl (ob1 d sig) k ++ sy sig k ++ lockL (sx sig k) := by rw [fl, ob1, if_neg hv, List.append_assoc]

set_option maxHeartbeats 1000000 in
theorem ropen_ok : PureOK Tryd.prog GLh 37 openG := by
  refine pure_of_awp Tryd.func37 (bodyOf_some rfl) ?_
  intro args r hg
  unfold openG at hg
  split at hg
  · rename_i n m xs ys
    replace hg := obind_inv hg; obtain ⟨msg, ha, hg⟩ := hg
    replace hg := obind_inv hg; obtain ⟨sig, hb, hg⟩ := hg
    replace hg := guardO_inv hg; obtain ⟨⟨hn, hm, hb1, hb2⟩, hg⟩ := hg
    obtain rfl := Option.some.inj hg
    have := un8_inv _ ha; subst this
    have := un8_inv _ hb; subst this
    subst hn; subst hm
    clear hg ha hb
    refine ⟨Nat.le_of_ble_eq_true rfl, fun nx => ?_⟩
    refine awp_seqP rfl ?_
    refine awp_regP (Γ := noEnv) [0, 1, 4] (noEnv_ok _ _) rfl rfl rfl (fun K hK => ?_)
    simp only [Tryd.f37, bodyOf, Option.getD_some, cl, rOps, lights, light, rN, List.size_toArray, List.length_cons, List.length_nil, Nat.reduceAdd, Nat.zero_add, List.map_cons, List.map_nil, Option.map_none]
    simp (maxSteps := 300000) (disch := omega) only [go_sem, Nat.reduceAdd, ↓reduceIte]
    with_reducible refine hK _ ?_
    clear hK K
    refine nx_then ?_
    refine awp_seqP rfl ?_
    refine awp_seqP rfl ?_
    refine awp_regP (Γ := noEnv) [13, 0, 1, 4] (noEnv_ok _ _) rfl rfl rfl (fun K hK => ?_)
    simp only [Tryd.f37, bodyOf, Option.getD_some, cl, cr, rOps, lights, light, rN, List.size_toArray, List.length_cons, List.length_nil, Nat.reduceAdd, Nat.zero_add, List.map_cons, List.map_nil, Option.map_none]
    simp (maxSteps := 300000) (disch := omega) only [go_sem, Nat.reduceAdd, ↓reduceIte]
    with_reducible refine hK _ ?_
    clear hK K
    refine nx_then ?_
    refine awp_ifE (.tmp 13) rfl rfl rfl (fun h => ?_) (fun h => ?_)
    · skip
      refine awp_drop rfl ?_
      rw [openR_n _ _ (by omega)]
      have hst : storeL (c8 (List.replicate 8 0#8)) 0 (c8 (List.replicate 8 0#8)) = c8 (List.replicate 8 0#8) := storeL_rep8 8 _ _ (by simp)
      refine awp_seqP rfl ?_
      refine awp_regP (Γ := noEnv) [4, 5] (noEnv_ok _ _) rfl rfl rfl (fun K hK => ?_)
      simp only [Tryd.f37, bodyOf, Option.getD_some, cl, cr, rOps, lights, light, rN, List.size_toArray, List.length_cons, List.length_nil, Nat.reduceAdd, Nat.zero_add, List.map_cons, List.map_nil, Option.map_none]
      simp (maxSteps := 300000) (disch := omega) only [go_sem, Nat.reduceAdd, Nat.reduceLeDiff, ↓reduceIte, hst]
      with_reducible refine hK _ ?_
      clear hK K
      refine nx_then ?_
      refine awp_retP rfl ?_
      refine nx_ret_then ?_
      simp (disch := omega) only [pureQ, resA, resAL, resA1, Tryd.f37, go_sem, Nat.reduceLeDiff, ↓reduceIte, ldV, c8_noOwn]
    · skip
      refine awp_drop rfl ?_
      have hl : sig.length = 512 := by omega
      rw [openR_y _ _ hl]
      have hs := openL_len (digL msg) sig
      refine awp_skipP rfl ?_
      refine nx_then ?_
      refine awp_seqP rfl ?_
      refine awp_regP (Γ := envL [(36, .pure true digG)]) [1, 4, 6] (envOK_cons ok36 envOK_nil) rfl rfl rfl (fun K hK => ?_)
      simp only [Tryd.f37, bodyOf, Option.getD_some, cl, cr, rOps, lights, light, rN, List.size_toArray, List.length_cons, List.length_nil, Nat.reduceAdd, Nat.zero_add, List.map_cons, List.map_nil, Option.map_none]
      simp (maxSteps := 300000) (disch := omega) only [go_sem, Nat.reduceAdd, ↓reduceIte]
      with_reducible refine hK _ ?_
      clear hK K
      refine nx_then ?_
      generalize digL msg = d at hs ⊢
      refine awp_seqP rfl ?_
      refine awp_regP (Γ := noEnv) [1, 4, 6, 7] (noEnv_ok _ _) rfl rfl rfl (fun K hK => ?_)
      simp only [Tryd.f37, bodyOf, Option.getD_some, cl, cr, rOps, lights, light, rN, List.size_toArray, List.length_cons, List.length_nil, Nat.zero_add, List.map_cons, List.map_nil, Option.map_none]
      simp (maxSteps := 300000) (disch := omega) only [go_sem, ↓reduceIte]
      with_reducible refine hK _ ?_
      clear hK K
      refine nx_then ?_
      refine awp_seqP rfl ?_
      refine awp_seqP rfl ?_
      refine awp_regP (Γ := noEnv) [1, 4, 6, 7, 8] (noEnv_ok _ _) rfl rfl rfl (fun K hK => ?_)
      simp only [Tryd.f37, bodyOf, Option.getD_some, cl, cr, rOps, lights, light, rN, List.size_toArray, List.length_cons, List.length_nil, Nat.zero_add, List.map_cons, List.map_nil, Option.map_none]
      simp (maxSteps := 300000) (disch := omega) only [go_sem, ↓reduceIte]
      with_reducible refine hK _ ?_
      clear hK K
      refine nx_then ?_
      refine awp_blockN 0 rfl rfl ?_
      refine awp_own 7 1 rfl ?_
      refine awp_keep [1, 4, 6, 7, 8] ?_
      simp only [kf_nil, kf_cons, look_cons, ↓reduceIte, Nat.reduceEqDiff]
      refine awp_loopP (fun p : KIC => { fr := [(1, .sl sig.length (c8 sig)), (4, .op nx 0), (6, .w32 d), (7, .os p.id 0 (16 * p.k) 1 true), (8, .i p.k)], hp := upd (upd (fun _ => none) nx (.cells (c8 (List.replicate 8 0#8)) true)) p.id (.cells (c8 (fl (ob1 d sig) p.k)) true), nx := 0, cx := p.c }) (fun p => p.k ≤ 32 ∧ nx < p.id ∧ p.id < p.c) (fun p => 32 - p.k) rfl ⟨⟨0, _, _⟩, ⟨Nat.zero_le _, by simp only; omega, by simp only; omega⟩, sub_same rfl rfl (Nat.le_refl _)⟩ ?_
      rintro ⟨k, id, c⟩ ⟨hk, hid, hc⟩ n0
      simp only at hk hid hc ⊢
      have hol := fob_len d sig hl k hk
      refine awp_seqP rfl ?_
      refine awp_seqP rfl ?_
      refine awp_regP (Γ := noEnv) [18, 1, 4, 6, 7, 8] (noEnv_ok _ _) rfl rfl rfl (fun K hK => ?_)
      simp only [Tryd.f37, bodyOf, Option.getD_some, cl, cr, rOps, lights, light, rN, List.size_toArray, List.length_cons, List.length_nil, Nat.reduceAdd, Nat.zero_add, List.map_cons, List.map_nil, Option.map_none]
      simp (maxSteps := 300000) (disch := omega) only [go_sem, Nat.reduceAdd, ↓reduceIte]
      with_reducible refine hK _ ?_
      clear hK K
      refine nx_then ?_
      refine awp_ifD (.tmp 18) rfl rfl rfl (fun h => ?_) (fun h => ?_)
      · skip
        refine awp_drop rfl ?_
        have hsx := sx_len sig hl k (by omega)
        have hsy := sy_len sig hl k (by omega)
        have hll := lockL_len (sx sig k)
        have e1 : (16 * (k : Int)).toNat = 16 * k := by omega
        have e2 : (16 * (k : Int) + 8).toNat = 16 * k + 8 := by omega
        have e3 : (16 * (k : Int) + 16).toNat = 16 * k + 16 := by omega
        have e4 : 16 * k + 8 - 16 * k = 8 := by omega
        have e5 : 16 * k + 16 - (16 * k + 8) = 8 := by omega
        have hx : List.take 8 (List.drop (16 * k) sig) = sx sig k := rfl
        have hy : List.take 8 (List.drop (16 * k + 8) sig) = sy sig k := rfl
        refine awp_skipP rfl ?_
        refine nx_then ?_
        refine awp_seqP rfl ?_
        refine awp_blockN 1 rfl rfl ?_
        refine awp_seqP rfl ?_
        refine awp_drwP (Γ := envL [(69, .pure true lockG)]) (fun _ => 2) [1, 4, 6, 7, 8, 9, 10] mixed (envOK_cons ok69 envOK_nil) rfl rfl rfl (by kernel_rfl) (fun K hK => ?_)
        simp only [Tryd.f37, bodyOf, Option.getD_some, cl, cr, rOps, lights, light, rN, List.size_toArray, List.length_cons, List.length_nil, Nat.reduceAdd, Nat.zero_add, List.map_cons, List.map_nil, Option.map_none]
        simp (maxSteps := 300000) (disch := omega) only [go_sem, Nat.reduceAdd, Nat.reduceLeDiff, ↓reduceIte, e1, e2, e3, e4, e5, hx, hy, hsx]
        with_reducible refine hK _ ?_
        clear hK K
        refine nx_then ?_
        have e31 : ((31 : Int) - (k : Int)).toNat = 31 - k := by omega
        have hbe := bit_eq0 d k
        refine awp_seqP rfl ?_
        refine awp_regP (Γ := noEnv) [42, 1, 4, 6, 7, 8, 9, 10] (noEnv_ok _ _) rfl rfl rfl (fun K hK => ?_)
        simp only [Tryd.f37, bodyOf, Option.getD_some, cl, cr, rOps, lights, light, rN, List.size_toArray, List.length_cons, List.length_nil, Nat.reduceAdd, Nat.zero_add, List.map_cons, List.map_nil, Option.map_none]
        simp (maxSteps := 300000) (disch := omega) only [go_sem, Nat.reduceAdd, Int.reduceLE, Int.reduceLT, BitVec.reduceOfInt, ↓reduceIte, e31, hbe]
        with_reducible refine hK _ ?_
        clear hK K
        refine nx_then ?_
        have e5 : 16 * (k + 1) = 16 * k + 8 + 8 := by omega
        refine awp_ifD (.tmp 42) rfl rfl rfl (fun h => ?_) (fun h => ?_)
        · skip
          refine awp_drop rfl ?_
          refine awp_regP (Γ := noEnv) [1, 4, 6, 7, 8] (noEnv_ok _ _) rfl rfl rfl (fun K hK => ?_)
          simp only [Tryd.f37, bodyOf, Option.getD_some, cl, cr, rOps, lights, light, rN, List.size_toArray, List.length_cons, List.length_nil, Nat.reduceAdd, Nat.zero_add, List.map_cons, List.map_nil, Option.map_none]
          simp (maxSteps := 300000) (disch := omega) only [go_sem, Nat.reduceAdd, Nat.reduceSub, Nat.reduceLeDiff, Nat.reduceLT, Int.reduceLE, Int.reduceToNat, ↓reduceIte, hol, hsy]
          with_reducible refine hK _ ?_
          clear hK K
          refine nx_blk (nx_then ?_)
          refine awp_regP (Γ := noEnv) [1, 4, 6, 7, 8] (noEnv_ok _ _) rfl rfl rfl (fun K hK => ?_)
          simp only [Tryd.f37, bodyOf, Option.getD_some, cl, cr, rOps, lights, light, rN, List.size_toArray, List.length_cons, List.length_nil, Nat.reduceAdd, Nat.zero_add, List.map_cons, List.map_nil, Option.map_none]
          simp (maxSteps := 300000) (disch := omega) only [go_sem, Nat.reduceAdd, ↓reduceIte]
          with_reducible refine hK _ ?_
          clear hK K
          refine nx_loop ?_
          refine ⟨⟨k + 1, c + 2 + 19 + 6 + 4, _⟩, ⟨by simp only; omega, by simp only; omega, by simp only; omega⟩, by simp only; omega, ⟨fun _ => .inr ?_, fun j o h => ?_, Nat.le_refl _⟩⟩
          · simp only [e5, Int.natCast_add, Int.natCast_one]
          · simp only [fob_0 d sig k (by assumption)] at h
            exact hsub_cons (by simp (disch := omega) only [up_app, ↓reduceIte, eq_self]) (hsub_cons (by simp (disch := omega) only [up_app, de_app, nat_ne, ↓reduceIte, eq_self]) (hsub_nil)) j o h
        · skip
          refine awp_drop rfl ?_
          refine awp_drwP (Γ := noEnv) (fun k => if k = 4 then 10 else 2) [1, 4, 6, 7, 8] mixed (noEnv_ok _ _) rfl rfl rfl (by kernel_rfl) (fun K hK => ?_)
          simp only [Tryd.f37, bodyOf, Option.getD_some, cl, cr, rOps, lights, light, rN, List.size_toArray, List.length_cons, List.length_nil, Nat.reduceAdd, Nat.zero_add, List.map_cons, List.map_nil, Option.map_none]
          simp (maxSteps := 300000) (disch := first | omega | decide) only [go_sem, Nat.reduceAdd, Nat.reduceSub, Nat.reduceLeDiff, Nat.reduceLT, Int.reduceLE, Int.reduceToNat, ↓reduceIte, hol, hsy]
          with_reducible refine hK _ ?_
          clear hK K
          refine nx_blk (nx_then ?_)
          refine awp_regP (Γ := noEnv) [1, 4, 6, 7, 8] (noEnv_ok _ _) rfl rfl rfl (fun K hK => ?_)
          simp only [Tryd.f37, bodyOf, Option.getD_some, cl, cr, rOps, lights, light, rN, List.size_toArray, List.length_cons, List.length_nil, Nat.reduceAdd, Nat.zero_add, List.map_cons, List.map_nil, Option.map_none]
          simp (maxSteps := 300000) (disch := omega) only [go_sem, Nat.reduceAdd, ↓reduceIte]
          with_reducible refine hK _ ?_
          clear hK K
          refine nx_loop ?_
          refine ⟨⟨k + 1, c + 2 + 19 + 6 + 4, _⟩, ⟨by simp only; omega, by simp only; omega, by simp only; omega⟩, by simp only; omega, ⟨fun _ => .inr ?_, fun j o h => ?_, Nat.le_refl _⟩⟩
          · simp only [e5, Int.natCast_add, Int.natCast_one]
          · simp only [fob_1 d sig k (by assumption)] at h
            exact hsub_cons (by simp (disch := omega) only [up_app, ↓reduceIte, eq_self]) (hsub_cons (by simp (disch := omega) only [up_app, de_app, nat_ne, ↓reduceIte, eq_self]) (hsub_nil)) j o h
      · skip
        refine awp_drop rfl ?_
        refine awp_exitN 0 rfl rfl ?_
        refine nx_ex_then (nx_ex_loop (nx_ex_blk ?_))
        refine nx_then ?_
        refine awp_seqP rfl ?_
        obtain rfl : k = 32 := by omega
        have hf : shortL 3#8 [fl (ob1 d sig) 32] = openL d sig := rfl
        refine awp_regP (Γ := envL [(25, .pure true shortG)]) [4, 5] (envOK_cons ok25 envOK_nil) rfl rfl rfl (fun K hK => ?_)
        simp only [Tryd.f37, bodyOf, Option.getD_some, cl, cr, rOps, lights, light, rN, List.size_toArray, List.length_cons, List.length_nil, Nat.reduceAdd, Nat.zero_add, List.map_cons, List.map_nil, Option.map_none]
        simp (maxSteps := 300000) (disch := omega) only [go_sem, Nat.reduceAdd, Nat.reduceMul, Nat.reduceLeDiff, Nat.reduceLT, Int.reduceLE, Int.reduceLT, BitVec.reduceOfInt, ↓reduceIte, hf, hol]
        with_reducible refine hK _ ?_
        clear hK K
        refine nx_then ?_
        refine awp_retP rfl ?_
        simp (disch := omega) only [pureQ, resA, resAL, resA1, Tryd.f37, go_sem, Nat.reduceLeDiff, ↓reduceIte, ldV, c8_noOwn, hs]
  · cases hg
theorem ok37 : EntOK Tryd.prog GLh 37 (.pure true openG) := ⟨⟨_, Tryd.func37, rfl, rfl⟩, ropen_ok⟩
end Go.AX

namespace Go.AX
open Go Go.Proofs

theorem fl_piece (f : Nat → List B8) (n : Nat) (hf : ∀ i, (f i).length = n) (k : Nat) : ∀ i, i < k → ((fl f k).drop (n * i)).take n = f i := by
  induction k with
  | zero => intro i hi; omega
  | succ k ih =>
    intro i hi
    have hl := fl_len f n hf k
    rw [fl]
    by_cases e : i = k
    · subst e
      rw [List.drop_append, List.drop_of_length_le (by omega), List.nil_append, hl, Nat.sub_self, List.drop_zero, List.take_of_length_le (by rw [hf]; exact Nat.le_refl _)]
    · have hm : n * i + n ≤ n * k := by
        have : n * (i + 1) ≤ n * k := Nat.mul_le_mul_left _ (by omega)
        rwa [Nat.mul_succ] at this
      rw [List.drop_append_of_le_length (by omega), List.take_append_of_le_length (by rw [List.length_drop]; omega)]
      exact ih i (by omega)
theorem sub_bit (d : W32) (i : Nat) : (bitL d i = 0#8 ∧ 1#8 - bitL d i = 1#8) ∨ (bitL d i = 1#8 ∧ 1#8 - bitL d i = 0#8) := by
  rcases bitL_01 d i with h | h
  · left; rw [h]; exact ⟨rfl, rfl⟩
  · right; rw [h]; exact ⟨rfl, rfl⟩
theorem fl_congr (f g : Nat → List B8) (k : Nat) (h : ∀ i, i < k → f i = g i) : fl f k = fl g k := by
  induction k with
  | zero => rfl
  | succ k ih => rw [fl, fl, ih (fun i hi => h i (by omega)), h k (by omega)]
theorem ob_sign (seed : List B8) (leaf d : W32) (i : Nat) (hi : i < 32) : ob1 d (signL seed leaf d) i = lk2 seed leaf i := by
  have hp := fl_piece (sg1 seed leaf d) 16 (sg1_len seed leaf d) 32 i hi
  have hx : sx (signL seed leaf d) i = secretL seed leaf (BitVec.ofInt 8 (i : Int)) (bitL d i) := by
    have : sx (signL seed leaf d) i = (sg1 seed leaf d i).take 8 := by rw [← hp, List.take_take]; rfl
    rw [this, sg1, List.take_append_of_le_length (by rw [secretL_len]; exact Nat.le_refl _), List.take_of_length_le (by rw [secretL_len]; exact Nat.le_refl _)]
  have hy : sy (signL seed leaf d) i = lkv seed leaf i (1#8 - bitL d i) := by
    have : sy (signL seed leaf d) i = (sg1 seed leaf d i).drop 8 := by
      rw [← hp, List.drop_take, List.drop_drop]; rfl
    rw [this, sg1, List.drop_append, List.drop_of_length_le (by rw [secretL_len]; exact Nat.le_refl _), secretL_len, Nat.sub_self, List.drop_zero, List.nil_append]
  unfold ob1
  rw [hx, hy]
  rcases sub_bit d i with ⟨h1, h2⟩ | ⟨h1, h2⟩
  · rw [h2, h1, if_pos rfl]; rfl
  · rw [h2, h1, if_neg (by decide)]; rfl
theorem open_sign (seed : List B8) (leaf d : W32) : openL d (signL seed leaf d) = publicL seed leaf := by
  unfold openL publicL lks
  rw [fl_congr _ _ 32 (fun i hi => ob_sign seed leaf d i hi)]
theorem openR_sign (seed msg m2 : List B8) (leaf : W32) (h : digL m2 = digL msg) : openR m2 (signL seed leaf (digL msg)) = .tup [.agg (c8 (publicL seed leaf)), .b true] := by
  rw [openR_y _ _ (signL_len _ _ _), h, open_sign]
theorem openR_cases (msg sig : List B8) : ∃ (p : List B8) (ok : Bool), openR msg sig = .tup [.agg (c8 p), .b ok] ∧ p.length = 8 := by
  by_cases h : sig.length = 512
  · exact ⟨_, _, openR_y msg sig h, openL_len _ _⟩
  · exact ⟨_, _, openR_n msg sig h, List.length_replicate⟩

def seed7 : List B8 := [1#8, 0#8, 0#8, 0#8, 0#8, 0#8, 0#8, 0#8]
theorem k7b : digL [97#8, 98#8, 99#8] = 0xba7816bf#32 := by kernel_rfl
end Go.AX
