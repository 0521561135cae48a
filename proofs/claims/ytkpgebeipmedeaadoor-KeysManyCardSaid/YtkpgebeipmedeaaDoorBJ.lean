/-
  Tree, part F: a tree signs; which leaf signed. Tree, part G: which leaf signed; signatures verified, as the program and the reference do it. Tree, part H: a signature verifies; what the statements of layer 8 ask ahead of all, in plain numbers.
-/
import Derived.Test.YtkpgebeipmedeaaDoorBI
namespace Go.AX
open Go Go.Proofs

/-- The sister of the node on a leaf's way up. -/
def sib (l j : Nat) : Nat := (l >>> j) ^^^ 1
def sisL (seed : List B8) (l j : Nat) : List B8 := nodeL seed j (sib l j)
def tsignL (seed : List B8) (h : Nat) (leaf : W32) (m : List B8) : List B8 := w4 leaf ++ signL seed leaf (digL m) ++ fl (sisL seed leaf.toNat) h
theorem tsignL_len (seed : List B8) (h : Nat) (leaf : W32) (m : List B8) : (tsignL seed h leaf m).length = 516 + 8 * h := by
  rw [tsignL, List.length_append, List.length_append, signL_len, fl_len (sisL seed leaf.toNat) 8 (fun j => nodeL_len seed j _) h]; rfl
theorem sib_lt (l h j : Nat) (hl : l < 2 ^ h) (hj : j < h) : sib l j < 2 ^ (h - j) := by
  unfold sib
  apply Nat.xor_lt_two_pow
  · rw [Nat.shiftRight_eq_div_pow]
    rw [Nat.div_lt_iff_lt_mul (Nat.pow_pos (by omega)), ← Nat.pow_add, Nat.sub_add_cancel (by omega)]
    exact hl
  · exact Nat.one_lt_two_pow (by omega)
theorem sib_w (leaf : W32) (j : Nat) : (leaf >>> j ^^^ 1#32).toNat = sib leaf.toNat j := by
  rw [BitVec.toNat_xor, BitVec.toNat_ushiftRight]; rfl
theorem shr_suc (leaf : W32) (j : Nat) : leaf >>> j >>> 1 = leaf >>> (j + 1) := by rw [← BitVec.shiftRight_add]
theorem leaf_ge (leaf : W32) (h : Nat) (hh : h ≤ 10) : (BitVec.ofNat 32 (2 ^ h) ≤ leaf) = ¬ (leaf.toNat < 2 ^ h) := by
  have := pow_le h hh
  rw [BitVec.le_def, BitVec.toNat_ofNat, Nat.mod_eq_of_lt (by omega), Nat.not_lt]
def tsignR (seed : List B8) (h : Nat) (leaf : W32) (m : List B8) : AV := if leaf.toNat < 2 ^ h then .tup [.sl (516 + 8 * h) (c8 (tsignL seed h leaf m)), .i 0] else .tup [.sl 0 [], .i 70]
theorem tsignR_y (seed : List B8) (h : Nat) (leaf : W32) (m : List B8) (hl : leaf.toNat < 2 ^ h) : tsignR seed h leaf m = .tup [.sl (516 + 8 * h) (c8 (tsignL seed h leaf m)), .i 0] := if_pos hl
theorem tsignR_n (seed : List B8) (h : Nat) (leaf : W32) (m : List B8) (hl : ¬ leaf.toNat < 2 ^ h) : tsignR seed h leaf m = .tup [.sl 0 [], .i 70] := if_neg hl
noncomputable def tsignG : List AV → Option AV
  | [.rp ts, .w32 leaf, .sl n ys] => obind (unT ts) fun p => obind (un8 ys) fun m => guardO (m.length = n ∧ n ≤ 900000000) (some (tsignR p.1 p.2 leaf m))
  | _ => none
theorem tsignG_eq (ts ys : List AV) (leaf : W32) (n : Nat) : tsignG [.rp ts, .w32 leaf, .sl n ys] = obind (unT ts) fun p => obind (un8 ys) fun m => guardO (m.length = n ∧ n ≤ 900000000) (some (tsignR p.1 p.2 leaf m)) := (rfl)
attribute [go_sem] tsignG_eq
theorem lvS_take (seed : List B8) (h n : Nat) : (lvS seed h (n + 1)).take n = lvS seed h n := by
  rw [lvS, List.take_append_of_le_length (by rw [lvS_len]; exact Nat.le_refl _), List.take_of_length_le (by rw [lvS_len]; exact Nat.le_refl _)]
theorem w4_sign (leaf : W32) (l : List B8) : AV.w8 ((leaf >>> 24).setWidth 8) :: .w8 ((leaf >>> 16).setWidth 8) :: .w8 ((leaf >>> 8).setWidth 8) :: .w8 (leaf.setWidth 8) :: c8 l = c8 (w4 leaf ++ l) := rfl
set_option maxHeartbeats 4000000 in
theorem tsign_ok : PureOK Tryd.prog GLh 31 tsignG := by
  refine pure_of_awp Tryd.func31 (bodyOf_some rfl) ?_
  intro args r hg
  unfold tsignG at hg
  split at hg
  · rename_i ts leaf n ys
    replace hg := obind_inv hg; obtain ⟨⟨seed, ht⟩, hb, hg⟩ := hg
    replace hg := obind_inv hg; obtain ⟨m, hb2, hg⟩ := hg
    replace hg := guardO_inv hg; obtain ⟨⟨hm, hbig⟩, hg⟩ := hg
    obtain rfl := Option.some.inj hg
    obtain ⟨hs, hh, rfl⟩ := unT_inv hb
    simp only at hs hh
    have := un8_inv _ hb2; subst this
    subst hm
    clear hg hb hb2
    refine ⟨Nat.le_of_ble_eq_true rfl, fun nx => ?_⟩
    have hp := pow_le ht hh
    have hge := leaf_ge leaf ht hh
    refine awp_seqP rfl ?_
    refine awp_regP (Γ := noEnv) [0, 1, 2] (noEnv_ok _ _) rfl rfl rfl (fun K hK => ?_)
    simp (failIfUnchanged := false) (disch := omega) only [Tryd.f31, go_sem, Nat.reduceAdd, ↓reduceIte]
    refine hK _ ?_
    refine nx_then ?_
    refine awp_seqP rfl ?_
    refine awp_seqP rfl ?_
    refine awp_regP (Γ := envL [(49, .pure true leavesG)]) [14, 0, 1, 2] (envOK_cons ok54 envOK_nil) rfl rfl rfl (fun K hK => ?_)
    simp (failIfUnchanged := false) (disch := omega) only [Tryd.f31, go_sem, Nat.reduceAdd, ↓reduceIte, hge]
    refine hK _ ?_
    refine nx_then ?_
    by_cases hl : leaf.toNat < 2 ^ ht
    · skip
      have hr := tsignR_y seed ht leaf m hl
      refine awp_ifD (.tmp 14) rfl rfl rfl (fun h => ?_) (fun h => ?_)
      · skip
        refine awp_drop rfl ?_
        exact absurd hl h
      · skip
        refine awp_drop rfl ?_
        refine awp_skipP rfl ?_
        refine nx_then ?_
        refine awp_seqP rfl ?_
        have htt := trC_take seed ht hs
        have htl := trC_len seed ht hs
        have hsg := signL_len seed leaf (digL m)
        have hww := w4_sign leaf (signL seed leaf (digL m))
        have hwl : (w4 leaf ++ signL seed leaf (digL m)).length = 516 := by rw [List.length_append, hsg]; rfl
        refine awp_regP (Γ := envL [(50, .fresh true signG)]) [0, 1, 8] (envOK_cons ok29 envOK_nil) rfl rfl rfl (fun K hK => ?_)
        simp (failIfUnchanged := false) (disch := omega) only [Tryd.f31, go_sem, Nat.reduceAdd, Nat.reduceLeDiff, Nat.reduceLT, Int.reduceLE, Int.reduceLT, BitVec.reduceOfInt, BitVec.reduceToNat, ↓reduceIte, htt, htl, hs, hww]
        refine hK _ ?_
        refine nx_then ?_
        have e1 : (((ht + 1 : Nat) : Int) - 1).toNat = ht := by omega
        have hlt := lvS_take seed ht ht
        refine awp_seqP rfl ?_
        refine awp_seqP rfl ?_
        refine awp_drwP (Γ := noEnv) (fun _ => 2) [1, 8, 45, 46, 47] mixed (noEnv_ok _ _) rfl rfl rfl (by kernel_rfl) (fun K hK => ?_)
        simp (failIfUnchanged := false) (disch := omega) only [Tryd.f31, go_sem, Nat.reduceAdd, Nat.reduceLT, Int.reduceLE, Int.reduceToNat, ↓reduceIte, e1, List.head?_cons, Nat.sub_zero, hlt]
        refine hK _ ?_
        refine nx_then ?_
        obtain ⟨A, hA⟩ : ∃ A, w4 leaf ++ signL seed leaf (digL m) = A := ⟨_, rfl⟩
        rw [hA] at hwl ⊢
        have hvl := lvS_len seed ht ht
        refine awp_blockN 0 rfl rfl ?_
        refine awp_loopP (fun p : KIC => { fr := [(1, .w32 (leaf >>> p.k)), (8, .os p.id 0 (516 + 8 * p.k) 1 true), (45, .sl ht (lvS seed ht ht)), (46, .i ht), (47, .i p.k)], hp := upd (fun _ => none) p.id (.cells (c8 (A ++ fl (sisL seed leaf.toNat) p.k)) true), nx := 0, cx := p.c }) (fun p => p.k ≤ ht ∧ p.id < p.c) (fun p => ht - p.k) rfl ⟨⟨0, nx + 2 + 4 + 19, _⟩, ⟨Nat.zero_le _, by simp only; omega⟩, ⟨fun _ => .inr (by simp only [BitVec.ushiftRight_zero]; rfl), hsub_cons (by simp (failIfUnchanged := false) (disch := omega) only [up_app, ↓reduceIte, eq_self, fl, List.append_nil]) hsub_nil, Nat.le_refl _⟩⟩ ?_
        rintro ⟨k, id, c⟩ ⟨hk, hc⟩ n0
        simp only at hk hc ⊢
        refine awp_seqP rfl ?_
        refine awp_regP (Γ := noEnv) [48, 1, 8, 45, 46, 47] (noEnv_ok _ _) rfl rfl rfl (fun K hK => ?_)
        simp (failIfUnchanged := false) (disch := omega) only [Tryd.f31, go_sem, ↓reduceIte]
        refine hK _ ?_
        refine nx_then ?_
        refine awp_seqP rfl ?_
        refine awp_ifD (.tmp 48) rfl rfl rfl (fun h => ?_) (fun h => ?_)
        · skip
          refine awp_drop rfl ?_
          have hkh : k < ht := by omega
          have hsb := sib_lt leaf.toNat ht k hl hkh
          have hsw := sib_w leaf k
          have hat := lev_at seed ht k (sib leaf.toNat k) hsb
          have hll := levL_len seed ht k
          have hfl := fl_len (sisL seed leaf.toNat) 8 (fun j => nodeL_len seed j _) k
          have hsu := shr_suc leaf k
          have hfs : fl (sisL seed leaf.toNat) (k + 1) = fl (sisL seed leaf.toNat) k ++ nodeL seed k (sib leaf.toNat k) := rfl
          have hnl := nodeL_len seed k (sib leaf.toNat k)
          obtain ⟨N, hN⟩ : ∃ N, 2 ^ (ht - k) = N := ⟨_, rfl⟩
          obtain ⟨I, hI⟩ : ∃ I, sib leaf.toNat k = I := ⟨_, rfl⟩
          rw [hN] at hsb hll
          rw [hI] at hsw hat hnl hsb hfs
          refine awp_skipP rfl ?_
          refine nx_then ?_
          refine awp_seqP rfl ?_
          refine awp_blockN 1 rfl rfl ?_
          refine awp_seqP rfl ?_
          refine awp_regP (Γ := noEnv) [1, 8, 10, 45, 46, 47] (noEnv_ok _ _) rfl rfl rfl (fun K hK => ?_)
          simp (failIfUnchanged := false) (disch := omega) only [Tryd.f31, go_sem, Nat.reduceAdd, ↓reduceIte, hN]
          refine hK _ ?_
          refine nx_then ?_
          refine awp_seqP rfl ?_
          refine awp_regP (Γ := noEnv) [1, 8, 45, 46, 47] (noEnv_ok _ _) rfl rfl rfl (fun K hK => ?_)
          simp (failIfUnchanged := false) (disch := omega) only [Tryd.f31, go_sem, Nat.reduceAdd, Nat.reduceSub, Nat.reduceLeDiff, Nat.reduceLT, Int.reduceLE, Int.reduceLT, Int.reduceToNat, BitVec.reduceOfInt, ↓reduceIte, hsw, hat, hnl, List.length_append, hwl, hfl]
          refine hK _ ?_
          refine nx_then ?_
          refine awp_regP (Γ := noEnv) [1, 8, 45, 46, 47] (noEnv_ok _ _) rfl rfl rfl (fun K hK => ?_)
          simp (failIfUnchanged := false) (disch := omega) only [Tryd.f31, go_sem, Nat.reduceAdd, Int.reduceLE, Int.reduceLT, BitVec.reduceOfInt, BitVec.reduceToNat, ↓reduceIte, hsu]
          refine hK _ ?_
          refine nx_blk (nx_then ?_)
          refine awp_regP (Γ := noEnv) [1, 8, 45, 46, 47] (noEnv_ok _ _) rfl rfl rfl (fun K hK => ?_)
          simp (failIfUnchanged := false) (disch := omega) only [Tryd.f31, go_sem, Nat.reduceAdd, ↓reduceIte]
          refine hK _ ?_
          refine nx_loop ?_
          refine ⟨⟨k + 1, c + 1 + 3 + 6, _⟩, ⟨by simp only; omega, by simp only; omega⟩, by simp only; omega, ⟨fun _ => .inr ?_, fun j o h => ?_, Nat.le_refl _⟩⟩
          · simp only [Int.natCast_add, Int.natCast_one, show 516 + 8 * (k + 1) = 516 + 8 * k + 8 by omega]
          · simp only at h
            exact hsub_cons (by simp (failIfUnchanged := false) (disch := omega) only [up_app, ↓reduceIte, eq_self, hfs, List.append_assoc]) (hsub_nil) j o h
        · skip
          refine awp_drop rfl ?_
          refine awp_exitN 0 rfl rfl ?_
          refine nx_ex_then (nx_ex_loop (nx_ex_blk ?_))
          refine nx_then ?_
          refine awp_seqP rfl ?_
          obtain rfl : k = ht := by omega
          have htl : A ++ fl (sisL seed leaf.toNat) k = tsignL seed k leaf m := by rw [← hA]; rfl
          have htn := tsignL_len seed k leaf m
          have htk : List.take (516 + 8 * k) (tsignL seed k leaf m) = tsignL seed k leaf m := List.take_of_length_le (by omega)
          rw [htl]
          refine awp_regP (Γ := noEnv) [6, 7] (noEnv_ok _ _) rfl rfl rfl (fun K hK => ?_)
          simp (failIfUnchanged := false) (disch := omega) only [Tryd.f31, go_sem, Nat.reduceAdd, ↓reduceIte]
          refine hK _ ?_
          refine nx_then ?_
          refine awp_retP rfl ?_
          simp (failIfUnchanged := false) (disch := omega) only [pureQ, resA, resAL, resA1, Tryd.f31, go_sem, ↓reduceIte, hr, htk, htn]
    · skip
      have hr := tsignR_n seed ht leaf m hl
      refine awp_ifD (.tmp 14) rfl rfl rfl (fun h => ?_) (fun h => ?_)
      · skip
        refine awp_drop rfl ?_
        refine awp_seqP rfl ?_
        refine awp_regP (Γ := noEnv) [6, 7] (noEnv_ok _ _) rfl rfl rfl (fun K hK => ?_)
        simp (failIfUnchanged := false) (disch := omega) only [Tryd.f31, go_sem, Nat.reduceAdd, ↓reduceIte]
        refine hK _ ?_
        refine nx_then ?_
        refine awp_retP rfl ?_
        refine nx_ret_then ?_
        simp (failIfUnchanged := false) (disch := omega) only [pureQ, resA, resAL, resA1, Tryd.f31, go_sem, ↓reduceIte, hr]
      · skip
        refine awp_drop rfl ?_
        exact absurd hl h
  · cases hg
theorem ok55 : EntOK Tryd.prog GLh 31 (.pure false tsignG) := ⟨⟨_, Tryd.func31, rfl, rfl⟩, tsign_ok⟩
end Go.AX

namespace Go.AX
open Go Go.Proofs

def leafL (l : List B8) : W32 := (l.getD 0 0#8).setWidth 32 <<< 24 ||| (l.getD 1 0#8).setWidth 32 <<< 16 ||| (l.getD 2 0#8).setWidth 32 <<< 8 ||| (l.getD 3 0#8).setWidth 32
def leafR (l : List B8) : AV := if 4 ≤ l.length then .tup [.w32 (leafL l), .b true] else .tup [.w32 0#32, .b false]
theorem leafR_y (l : List B8) (h : 4 ≤ l.length) : leafR l = .tup [.w32 (leafL l), .b true] := if_pos h
def leafG : List AV → Option AV
  | [.sl n xs] => obind (un8 xs) fun b => guardO (b.length = n) (some (leafR b))
  | _ => none
theorem leafG_eq (n : Nat) (xs : List AV) : leafG [.sl n xs] = obind (un8 xs) fun b => guardO (b.length = n) (some (leafR b)) := (rfl)
attribute [go_sem] leafG_eq
/-- Up to the root. -/
def sisV (sig : List B8) (j : Nat) : List B8 := (sig.drop (516 + 8 * j)).take 8
def upV (sig n : List B8) (l : W32) : Nat → List B8
  | 0 => n
  | j + 1 => if l >>> j &&& 1#32 = 0#32 then upL (upV sig n l j) (sisV sig j) else upL (sisV sig j) (upV sig n l j)
theorem upV_len (sig n : List B8) (l : W32) (hn : n.length = 8) (j : Nat) : (upV sig n l j).length = 8 := by
  cases j with
  | zero => exact hn
  | succ j => rw [upV]; split <;> exact upL_len _ _
theorem upV_e (sig n : List B8) (l : W32) (j : Nat) (h : l >>> j &&& 1#32 = 0#32) : upL (upV sig n l j) (sisV sig j) = upV sig n l (j + 1) := by rw [upV, if_pos h]
theorem upV_o (sig n : List B8) (l : W32) (j : Nat) (h : ¬ l >>> j &&& 1#32 = 0#32) : upL (sisV sig j) (upV sig n l j) = upV sig n l (j + 1) := by rw [upV, if_neg h]
theorem sisV_len (sig : List B8) (j h : Nat) (hs : sig.length = 516 + 8 * h) (hj : j < h) : (sisV sig j).length = 8 := by rw [sisV, List.length_take, List.length_drop]; omega
def okV (root : List B8) (h : Int) (sig : List B8) : Prop := root.length = 8 ∧ 0 ≤ h ∧ h ≤ 10 ∧ sig.length = 516 + 8 * h.toNat
def openV (msg sig : List B8) : List B8 := openL (digL msg) ((sig.drop 4).take 512)
open Classical in
noncomputable def verB (root : List B8) (h : Int) (msg sig : List B8) : Bool :=
  if okV root h sig ∧ (leafL sig).toNat < 2 ^ h.toNat then decide (upV sig (openV msg sig) (leafL sig) h.toNat = root) else false
theorem verB_n (root : List B8) (h : Int) (msg sig : List B8) (hn : ¬ (okV root h sig ∧ (leafL sig).toNat < 2 ^ h.toNat)) : verB root h msg sig = false := if_neg hn
theorem verB_y (root : List B8) (h : Int) (msg sig : List B8) (hn : okV root h sig ∧ (leafL sig).toNat < 2 ^ h.toNat) : decide (upV sig (openV msg sig) (leafL sig) h.toNat = root) = verB root h msg sig := by
  unfold verB; rw [if_pos hn]
noncomputable def verG : List AV → Option AV
  | [.sl n xs, .i h, .sl m ys, .sl q zs] => obind (un8 xs) fun root => obind (un8 ys) fun msg => obind (un8 zs) fun sig => guardO (root.length = n ∧ msg.length = m ∧ sig.length = q ∧ m ≤ 900000000 ∧ n ≤ 900000000 ∧ q ≤ 900000000) (some (.b (verB root h msg sig)))
  | _ => none
theorem verG_eq (n m q : Nat) (xs ys zs : List AV) (h : Int) : verG [.sl n xs, .i h, .sl m ys, .sl q zs] = obind (un8 xs) fun root => obind (un8 ys) fun msg => obind (un8 zs) fun sig => guardO (root.length = n ∧ msg.length = m ∧ sig.length = q ∧ m ≤ 900000000 ∧ n ≤ 900000000 ∧ q ≤ 900000000) (some (.b (verB root h msg sig))) := (rfl)
attribute [go_sem] List.getElem?_cons_zero List.getElem?_cons_succ verG_eq Bool.and_true Bool.true_and Bool.and_self
theorem one_shl2 (h : Nat) : 1#32 <<< h = BitVec.ofNat 32 (2 ^ h) := by
  apply BitVec.eq_of_toNat_eq
  simp [BitVec.toNat_shiftLeft, Nat.shiftLeft_eq]

set_option maxHeartbeats 4000000 in
theorem rver_ok : PureOK Tryd.prog GLh 13 verG := by
  refine pure_of_awp Tryd.func13 (bodyOf_some rfl) ?_
  intro args r hg
  unfold verG at hg
  split at hg
  · rename_i n xs h0 m ys q zs
    replace hg := obind_inv hg; obtain ⟨root, hb, hg⟩ := hg
    replace hg := obind_inv hg; obtain ⟨msg, hb2, hg⟩ := hg
    replace hg := obind_inv hg; obtain ⟨sig, hb3, hg⟩ := hg
    replace hg := guardO_inv hg; obtain ⟨⟨hn, hm, hq, hbig, hbig1, hbig2⟩, hg⟩ := hg
    obtain rfl := Option.some.inj hg
    have := un8_inv _ hb; subst this
    have := un8_inv _ hb2; subst this
    have := un8_inv _ hb3; subst this
    subst hn; subst hm; subst hq
    clear hg hb hb2 hb3
    refine ⟨Nat.le_of_ble_eq_true rfl, fun nx => ?_⟩
    refine awp_seqP rfl ?_
    refine awp_regP (Γ := noEnv) [0, 1, 2, 3] (noEnv_ok _ _) rfl rfl rfl (fun K hK => ?_)
    simp (failIfUnchanged := false) (disch := omega) only [Tryd.f13, go_sem, Nat.reduceAdd, ↓reduceIte]
    refine hK _ ?_
    refine nx_then ?_
    by_cases hr8 : root.length = 8
    · skip
      have hd1 : decide ((root.length : Int) = 8) = true := decide_eq_true (by omega)
      by_cases hneg : h0 < 0
      · skip
        have hd2 : decide (h0 < 0) = true := decide_eq_true hneg
        have hv := verB_n root h0 msg sig (fun ⟨⟨_, h2, _, _⟩, _⟩ => by omega)
        refine awp_seqP rfl ?_
        refine awp_seqP rfl ?_
        refine awp_regP (Γ := noEnv) [33, 0, 1, 2, 3] (noEnv_ok _ _) rfl rfl rfl (fun K hK => ?_)
        simp (failIfUnchanged := false) (disch := omega) only [Tryd.f13, go_sem, Nat.reduceAdd, reduceCtorEq, ↓reduceIte, hd1, hd2, Bool.not_true]
        refine hK _ ?_
        refine nx_then ?_
        refine awp_ifB (.tmp 33) rfl rfl rfl (fun h => ?_) (fun h => ?_)
        · skip
          refine awp_drop rfl ?_
          refine awp_seqP rfl ?_
          refine awp_regP (Γ := noEnv) [8] (noEnv_ok _ _) rfl rfl rfl (fun K hK => ?_)
          simp (failIfUnchanged := false) (disch := omega) only [Tryd.f13, go_sem, ↓reduceIte]
          refine hK _ ?_
          refine nx_then ?_
          refine awp_retP rfl ?_
          refine nx_ret_then ?_
          simp (failIfUnchanged := false) (disch := omega) only [pureQ, resA, resAL, resA1, Tryd.f13, go_sem, ↓reduceIte, hv]
        · skip
          refine awp_drop rfl ?_
          cases h
      · skip
        have hd2 : decide (h0 < 0) = false := decide_eq_false hneg
        by_cases hbh : 10 < h0
        · skip
          have hd3 : decide (10 < h0) = true := decide_eq_true hbh
          have hv := verB_n root h0 msg sig (fun ⟨⟨_, _, h3, _⟩, _⟩ => by omega)
          refine awp_seqP rfl ?_
          refine awp_seqP rfl ?_
          refine awp_regP (Γ := noEnv) [33, 0, 1, 2, 3] (noEnv_ok _ _) rfl rfl rfl (fun K hK => ?_)
          simp (failIfUnchanged := false) (disch := omega) only [Tryd.f13, go_sem, Nat.reduceAdd, reduceCtorEq, ↓reduceIte, hd1, hd2, hd3, Bool.not_true]
          refine hK _ ?_
          refine nx_then ?_
          refine awp_ifB (.tmp 33) rfl rfl rfl (fun h => ?_) (fun h => ?_)
          · skip
            refine awp_drop rfl ?_
            refine awp_seqP rfl ?_
            refine awp_regP (Γ := noEnv) [8] (noEnv_ok _ _) rfl rfl rfl (fun K hK => ?_)
            simp (failIfUnchanged := false) (disch := omega) only [Tryd.f13, go_sem, ↓reduceIte]
            refine hK _ ?_
            refine nx_then ?_
            refine awp_retP rfl ?_
            refine nx_ret_then ?_
            simp (failIfUnchanged := false) (disch := omega) only [pureQ, resA, resAL, resA1, Tryd.f13, go_sem, ↓reduceIte, hv]
          · skip
            refine awp_drop rfl ?_
            cases h
        · skip
          have hd3 : decide (10 < h0) = false := decide_eq_false hbh
          obtain ⟨ht, rfl⟩ : ∃ h : Nat, h0 = (h : Int) := ⟨h0.toNat, by omega⟩
          have hh : ht ≤ 10 := by omega
          have hp := pow_le ht hh
          by_cases hsl : sig.length = 516 + 8 * ht
          · skip
            have hd4 : decide ((sig.length : Int) = 516 + 8 * (ht : Int)) = true := decide_eq_true (by omega)
            have hok : okV root (ht : Int) sig := ⟨hr8, by omega, by omega, by simp only [Int.toNat_natCast]; exact hsl⟩
            refine awp_seqP rfl ?_
            refine awp_seqP rfl ?_
            refine awp_regP (Γ := noEnv) [33, 0, 1, 2, 3] (noEnv_ok _ _) rfl rfl rfl (fun K hK => ?_)
            simp (failIfUnchanged := false) (disch := omega) only [Tryd.f13, go_sem, Nat.reduceAdd, reduceCtorEq, ↓reduceIte, hd1, hd2, hd3, hd4, Bool.not_true]
            refine hK _ ?_
            refine nx_then ?_
            refine awp_ifB (.tmp 33) rfl rfl rfl (fun h => ?_) (fun h => ?_)
            · skip
              refine awp_drop rfl ?_
              cases h
            · skip
              refine awp_drop rfl ?_
              clear h hneg hbh hd1 hd2 hd3 hd4
              have hly := leafR_y sig (by omega)
              have hl4 := getL4 sig (by omega)
              have hlL : getL (List.take 4 sig) = leafL sig := hl4
              have h4 : (List.take 4 sig).length = 4 := by rw [List.length_take]; omega
              refine awp_skipP rfl ?_
              refine nx_then ?_
              refine awp_seqP rfl ?_
              refine awp_regP (Γ := envL [(32, .pure true getG)]) [0, 1, 2, 3, 9] (envOK_cons ok70 envOK_nil) rfl rfl rfl (fun K hK => ?_)
              simp (failIfUnchanged := false) (disch := omega) only [Tryd.f13, go_sem, Nat.reduceAdd, Nat.reduceSub, Nat.reduceLeDiff, Int.reduceLE, Int.reduceToNat, ↓reduceIte, hlL, h4]
              refine hK _ ?_
              refine nx_then ?_
              have hsh := one_shl2 ht
              have hge := leaf_ge (leafL sig) ht hh
              refine awp_seqP rfl ?_
              refine awp_seqP rfl ?_
              refine awp_regP (Γ := noEnv) [40, 0, 1, 2, 3, 9] (noEnv_ok _ _) rfl rfl rfl (fun K hK => ?_)
              simp (failIfUnchanged := false) (disch := omega) only [Tryd.f13, go_sem, Nat.reduceAdd, Int.reduceLE, Int.reduceLT, BitVec.reduceOfInt, ↓reduceIte, Int.toNat_natCast, hsh, hge]
              refine hK _ ?_
              refine nx_then ?_
              by_cases hlt : (leafL sig).toNat < 2 ^ ht
              · skip
                refine awp_ifD (.tmp 40) rfl rfl rfl (fun h => ?_) (fun h => ?_)
                · skip
                  refine awp_drop rfl ?_
                  exact absurd hlt h
                · skip
                  refine awp_drop rfl ?_
                  clear h
                  have hv := verB_y root (ht : Int) msg sig ⟨hok, by simp only [Int.toNat_natCast]; exact hlt⟩
                  simp (failIfUnchanged := false) only [Int.toNat_natCast] at hv
                  have h512 : (List.take 512 (List.drop 4 sig)).length = 512 := by rw [List.length_take, List.length_drop]; omega
                  have hop := openR_y msg (List.take 512 (List.drop 4 sig)) h512
                  have hov : openL (digL msg) (List.take 512 (List.drop 4 sig)) = openV msg sig := rfl
                  rw [hov] at hop
                  have hol : (openV msg sig).length = 8 := openL_len _ _
                  refine awp_skipP rfl ?_
                  refine nx_then ?_
                  refine awp_seqP rfl ?_
                  refine awp_regP (Γ := envL [(33, .pure true openG)]) [0, 1, 3, 9, 10, 11] (envOK_cons ok37 envOK_nil) rfl rfl rfl (fun K hK => ?_)
                  simp (failIfUnchanged := false) (disch := omega) only [Tryd.f13, go_sem, Nat.reduceAdd, Nat.reduceSub, Nat.reduceLeDiff, Int.reduceLE, Int.reduceToNat, ↓reduceIte, hop, h512]
                  refine hK _ ?_
                  refine nx_then ?_
                  refine awp_seqP rfl ?_
                  refine awp_seqP rfl ?_
                  refine awp_regP (Γ := noEnv) [0, 1, 3, 9, 10, 11, 12] (noEnv_ok _ _) rfl rfl rfl (fun K hK => ?_)
                  simp (failIfUnchanged := false) (disch := omega) only [Tryd.f13, go_sem, ↓reduceIte]
                  refine hK _ ?_
                  refine nx_then ?_
                  generalize openV msg sig = nd at *
                  refine awp_blockN 0 rfl rfl ?_
                  refine awp_loopP (fun p : KIC => { fr := [(0, .sl root.length (c8 root)), (1, .i ht), (3, .sl sig.length (c8 sig)), (9, .w32 (leafL sig)), (10, .op p.id 0), (11, .b true), (12, .i p.k)], hp := upd (fun _ => none) p.id (.cells (c8 (upV sig nd (leafL sig) p.k)) true), nx := 0, cx := p.c }) (fun p => p.k ≤ ht ∧ p.id < p.c) (fun p => ht - p.k) rfl ⟨⟨0, _, _⟩, ⟨Nat.zero_le _, by simp only; omega⟩, sub_same rfl rfl (Nat.le_refl _)⟩ ?_
                  rintro ⟨k, id, c⟩ ⟨hk, hc⟩ n0
                  simp only at hk hc ⊢
                  refine awp_seqP rfl ?_
                  refine awp_seqP rfl ?_
                  refine awp_regP (Γ := noEnv) [50, 0, 1, 3, 9, 10, 11, 12] (noEnv_ok _ _) rfl rfl rfl (fun K hK => ?_)
                  simp (failIfUnchanged := false) (disch := omega) only [Tryd.f13, go_sem, Nat.reduceAdd, ↓reduceIte]
                  refine hK _ ?_
                  refine nx_then ?_
                  refine awp_ifD (.tmp 50) rfl rfl rfl (fun h => ?_) (fun h => ?_)
                  · skip
                    refine awp_drop rfl ?_
                    have hkh : k < ht := by omega
                    have hsi : List.take 8 (List.drop (516 + 8 * k) sig) = sisV sig k := rfl
                    have hsil := sisV_len sig k ht hsl hkh
                    have hul := upV_len sig nd (leafL sig) hol k
                    have hul2 := upV_len sig nd (leafL sig) hol (k + 1)
                    have e1 : (516 + 8 * (k : Int)).toNat = 516 + 8 * k := by omega
                    have e2 : (516 + 8 * (k : Int) + 8).toNat = 516 + 8 * k + 8 := by omega
                    have e3 : 516 + 8 * k + 8 - (516 + 8 * k) = 8 := by omega
                    refine awp_skipP rfl ?_
                    refine nx_then ?_
                    refine awp_seqP rfl ?_
                    refine awp_blockN 1 rfl rfl ?_
                    refine awp_seqP rfl ?_
                    refine awp_regP (Γ := noEnv) [0, 1, 3, 9, 10, 11, 12, 13] (noEnv_ok _ _) rfl rfl rfl (fun K hK => ?_)
                    simp (failIfUnchanged := false) (disch := omega) only [Tryd.f13, go_sem, Nat.reduceAdd, ↓reduceIte]
                    refine hK _ ?_
                    refine nx_then ?_
                    refine awp_seqP rfl ?_
                    refine awp_regP (Γ := noEnv) [0, 1, 3, 9, 10, 11, 12, 14] (noEnv_ok _ _) rfl rfl rfl (fun K hK => ?_)
                    simp (failIfUnchanged := false) (disch := omega) only [Tryd.f13, go_sem, Nat.reduceAdd, Nat.reduceLeDiff, ↓reduceIte, e1, e2, e3, hsi, hsil]
                    refine hK _ ?_
                    refine nx_then ?_
                    refine awp_seqP rfl ?_
                    refine awp_regP (Γ := noEnv) [67, 0, 1, 3, 9, 10, 11, 12, 14] (noEnv_ok _ _) rfl rfl rfl (fun K hK => ?_)
                    simp (failIfUnchanged := false) (disch := omega) only [Tryd.f13, go_sem, Nat.reduceAdd, Int.reduceLE, Int.reduceLT, BitVec.reduceOfInt, ↓reduceIte, Int.toNat_natCast]
                    refine hK _ ?_
                    refine nx_then ?_
                    refine awp_ifD (.tmp 67) rfl rfl rfl (fun h => ?_) (fun h => ?_)
                    · skip
                      refine awp_drop rfl ?_
                      have hu := upV_e sig nd (leafL sig) k h
                      refine awp_regP (Γ := envL [(34, .pure true aboveG)]) [0, 1, 3, 9, 10, 11, 12] (envOK_cons ok80 envOK_nil) rfl rfl rfl (fun K hK => ?_)
                      simp (failIfUnchanged := false) (disch := omega) only [Tryd.f13, go_sem, Nat.reduceAdd, Nat.reduceLeDiff, ↓reduceIte, hul, hsil, hu]
                      refine hK _ ?_
                      refine nx_blk (nx_then ?_)
                      refine awp_regP (Γ := noEnv) [0, 1, 3, 9, 10, 11, 12] (noEnv_ok _ _) rfl rfl rfl (fun K hK => ?_)
                      simp (failIfUnchanged := false) (disch := omega) only [Tryd.f13, go_sem, Nat.reduceAdd, ↓reduceIte]
                      refine hK _ ?_
                      refine nx_loop ?_
                      refine ⟨⟨k + 1, id, _⟩, ⟨by simp only; omega, by simp only; omega⟩, by simp only; omega, ⟨fun _ => .inr (by simp only [Int.natCast_add, Int.natCast_one]), fun j o h => ?_, Nat.le_refl _⟩⟩
                      simp only at h
                      exact hsub_cons (by simp (failIfUnchanged := false) (disch := omega) only [up_app, ↓reduceIte, eq_self]) (hsub_nil) j o h
                    · skip
                      refine awp_drop rfl ?_
                      have hu := upV_o sig nd (leafL sig) k h
                      refine awp_regP (Γ := envL [(34, .pure true aboveG)]) [0, 1, 3, 9, 10, 11, 12] (envOK_cons ok80 envOK_nil) rfl rfl rfl (fun K hK => ?_)
                      simp (failIfUnchanged := false) (disch := omega) only [Tryd.f13, go_sem, Nat.reduceAdd, Nat.reduceLeDiff, ↓reduceIte, hul, hsil, hu]
                      refine hK _ ?_
                      refine nx_blk (nx_then ?_)
                      refine awp_regP (Γ := noEnv) [0, 1, 3, 9, 10, 11, 12] (noEnv_ok _ _) rfl rfl rfl (fun K hK => ?_)
                      simp (failIfUnchanged := false) (disch := omega) only [Tryd.f13, go_sem, Nat.reduceAdd, ↓reduceIte]
                      refine hK _ ?_
                      refine nx_loop ?_
                      refine ⟨⟨k + 1, id, _⟩, ⟨by simp only; omega, by simp only; omega⟩, by simp only; omega, ⟨fun _ => .inr (by simp only [Int.natCast_add, Int.natCast_one]), fun j o h => ?_, Nat.le_refl _⟩⟩
                      simp only at h
                      exact hsub_cons (by simp (failIfUnchanged := false) (disch := omega) only [up_app, ↓reduceIte, eq_self]) (hsub_nil) j o h
                  · skip
                    refine awp_drop rfl ?_
                    refine awp_exitN 0 rfl rfl ?_
                    refine nx_ex_then (nx_ex_loop (nx_ex_blk ?_))
                    refine nx_then ?_
                    refine awp_seqP rfl ?_
                    obtain rfl : k = ht := by omega
                    have hul := upV_len sig nd (leafL sig) hol k
                    refine awp_drwP (Γ := noEnv) (fun _ => 2) [8] mixed (noEnv_ok _ _) rfl rfl rfl (by kernel_rfl) (fun K hK => ?_)
                    simp (failIfUnchanged := false) (disch := omega) only [Tryd.f13, go_sem, Nat.reduceAdd, Nat.reduceLeDiff, ↓reduceIte, hul, hr8, hv]
                    refine hK _ ?_
                    refine nx_then ?_
                    refine awp_retP rfl ?_
                    simp (failIfUnchanged := false) (disch := omega) only [pureQ, resA, resAL, resA1, Tryd.f13, go_sem, ↓reduceIte]
              · skip
                have hv := verB_n root (ht : Int) msg sig (fun ⟨_, h5⟩ => hlt (by simp only [Int.toNat_natCast] at h5; exact h5))
                refine awp_ifD (.tmp 40) rfl rfl rfl (fun h => ?_) (fun h => ?_)
                · skip
                  refine awp_drop rfl ?_
                  refine awp_seqP rfl ?_
                  refine awp_regP (Γ := noEnv) [8] (noEnv_ok _ _) rfl rfl rfl (fun K hK => ?_)
                  simp (failIfUnchanged := false) (disch := omega) only [Tryd.f13, go_sem, ↓reduceIte]
                  refine hK _ ?_
                  refine nx_then ?_
                  refine awp_retP rfl ?_
                  refine nx_ret_then ?_
                  simp (failIfUnchanged := false) (disch := omega) only [pureQ, resA, resAL, resA1, Tryd.f13, go_sem, ↓reduceIte, hv]
                · skip
                  refine awp_drop rfl ?_
                  exact absurd hlt h

          · skip
            have hd4 : decide ((sig.length : Int) = 516 + 8 * (ht : Int)) = false := decide_eq_false (by omega)
            have hv := verB_n root (ht : Int) msg sig (fun ⟨⟨_, _, _, h4⟩, _⟩ => hsl (by simp only [Int.toNat_natCast] at h4; exact h4))
            refine awp_seqP rfl ?_
            refine awp_seqP rfl ?_
            refine awp_regP (Γ := noEnv) [33, 0, 1, 2, 3] (noEnv_ok _ _) rfl rfl rfl (fun K hK => ?_)
            simp (failIfUnchanged := false) (disch := omega) only [Tryd.f13, go_sem, Nat.reduceAdd, reduceCtorEq, ↓reduceIte, hd1, hd2, hd3, hd4, Bool.not_true, Bool.not_false]
            refine hK _ ?_
            refine nx_then ?_
            refine awp_ifB (.tmp 33) rfl rfl rfl (fun h => ?_) (fun h => ?_)
            · skip
              refine awp_drop rfl ?_
              refine awp_seqP rfl ?_
              refine awp_regP (Γ := noEnv) [8] (noEnv_ok _ _) rfl rfl rfl (fun K hK => ?_)
              simp (failIfUnchanged := false) (disch := omega) only [Tryd.f13, go_sem, ↓reduceIte]
              refine hK _ ?_
              refine nx_then ?_
              refine awp_retP rfl ?_
              refine nx_ret_then ?_
              simp (failIfUnchanged := false) (disch := omega) only [pureQ, resA, resAL, resA1, Tryd.f13, go_sem, ↓reduceIte, hv]
            · skip
              refine awp_drop rfl ?_
              cases h
    · skip
      have hd1 : decide ((root.length : Int) = 8) = false := decide_eq_false (by omega)
      have hv := verB_n root h0 msg sig (fun ⟨⟨h1, _, _, _⟩, _⟩ => hr8 h1)
      refine awp_seqP rfl ?_
      refine awp_seqP rfl ?_
      refine awp_regP (Γ := noEnv) [33, 0, 1, 2, 3] (noEnv_ok _ _) rfl rfl rfl (fun K hK => ?_)
      simp (failIfUnchanged := false) (disch := omega) only [Tryd.f13, go_sem, Nat.reduceAdd, ↓reduceIte, hd1, Bool.not_false]
      refine hK _ ?_
      refine nx_then ?_
      refine awp_ifB (.tmp 33) rfl rfl rfl (fun h => ?_) (fun h => ?_)
      · skip
        refine awp_drop rfl ?_
        refine awp_seqP rfl ?_
        refine awp_regP (Γ := noEnv) [8] (noEnv_ok _ _) rfl rfl rfl (fun K hK => ?_)
        simp (failIfUnchanged := false) (disch := omega) only [Tryd.f13, go_sem, ↓reduceIte]
        refine hK _ ?_
        refine nx_then ?_
        refine awp_retP rfl ?_
        refine nx_ret_then ?_
        simp (failIfUnchanged := false) (disch := omega) only [pureQ, resA, resAL, resA1, Tryd.f13, go_sem, ↓reduceIte, hv]
      · skip
        refine awp_drop rfl ?_
        cases h
  · cases hg
theorem ok58 : EntOK Tryd.prog GLh 13 (.pure true verG) := ⟨⟨_, Tryd.func13, rfl, rfl⟩, rver_ok⟩
end Go.AX

namespace Go.AX
open Go Go.Proofs
set_option maxRecDepth 100000

theorem leafL_sign (leaf : W32) (l : List B8) : leafL (w4 leaf ++ l) = leaf := by
  apply BitVec.eq_of_toNat_eq
  have h : leafL (w4 leaf ++ l) = (((w4 leaf).getD 0 0#8).setWidth 32 <<< 24 ||| ((w4 leaf).getD 1 0#8).setWidth 32 <<< 16 ||| ((w4 leaf).getD 2 0#8).setWidth 32 <<< 8 ||| ((w4 leaf).getD 3 0#8).setWidth 32 : W32) := rfl
  rw [h, ← big4]
  exact big_w4 leaf
theorem leafL_tsign (seed : List B8) (h : Nat) (leaf : W32) (m : List B8) : leafL (tsignL seed h leaf m) = leaf := by rw [tsignL, List.append_assoc]; exact leafL_sign _ _
theorem sign_part (seed : List B8) (h : Nat) (leaf : W32) (m : List B8) : ((tsignL seed h leaf m).drop 4).take 512 = signL seed leaf (digL m) := by
  have h4 : (w4 leaf).length = 4 := rfl
  rw [tsignL, List.append_assoc, List.drop_append, List.drop_of_length_le (by rw [h4]; exact Nat.le_refl _), h4, Nat.sub_self, List.drop_zero, List.nil_append, List.take_append_of_le_length (by rw [signL_len]; exact Nat.le_refl _), List.take_of_length_le (by rw [signL_len]; exact Nat.le_refl _)]
theorem openV_tsign (seed : List B8) (h : Nat) (leaf : W32) (m m2 : List B8) : openV m2 (tsignL seed h leaf m) = openL (digL m2) (signL seed leaf (digL m)) := by rw [openV, sign_part]
theorem sisV_tsign (seed : List B8) (h : Nat) (leaf : W32) (m : List B8) (j : Nat) (hj : j < h) : sisV (tsignL seed h leaf m) j = sisL seed leaf.toNat j := by
  have hA : (w4 leaf ++ signL seed leaf (digL m)).length = 516 := by rw [List.length_append, signL_len]; rfl
  rw [sisV, tsignL, List.drop_append, List.drop_of_length_le (by omega), List.nil_append, hA, show 516 + 8 * j - 516 = 8 * j by omega]
  exact fl_piece (sisL seed leaf.toNat) 8 (fun j => nodeL_len seed j _) h j hj
theorem bit_w (leaf : W32) (j : Nat) : (leaf >>> j &&& 1#32 = 0#32) ↔ (leaf.toNat >>> j) % 2 = 0 := by
  rw [← BitVec.toNat_inj, BitVec.toNat_and, BitVec.toNat_ushiftRight]
  show leaf.toNat >>> j &&& 1 = 0 ↔ _
  rw [Nat.and_one_is_mod]
theorem xor_even (x : Nat) (h : x % 2 = 0) : x ^^^ 1 = x + 1 := by
  apply Nat.eq_of_testBit_eq
  intro i
  rw [Nat.testBit_xor]
  cases i with
  | zero => simp [h, show (x + 1) % 2 = 1 by omega]
  | succ i => rw [Nat.testBit_succ, Nat.testBit_succ 1, Nat.testBit_succ (x + 1), show (x + 1) / 2 = x / 2 by omega]; simp
theorem xor_odd (x : Nat) (h : ¬ x % 2 = 0) : x ^^^ 1 = x - 1 := by
  have := xor_even (x - 1) (by omega)
  have e : x = (x - 1) ^^^ 1 := by rw [this]; omega
  conv => lhs; rw [e]
  rw [Nat.xor_assoc, Nat.xor_self, Nat.xor_zero]
theorem odd_half (x : Nat) (h : ¬ x % 2 = 0) : 2 * (x / 2) = x - 1 ∧ x - 1 + 1 = x := by omega
theorem upV_tsign (seed : List B8) (h : Nat) (leaf : W32) (m : List B8) : ∀ j, j ≤ h → upV (tsignL seed h leaf m) (publicL seed leaf) leaf j = nodeL seed j (leaf.toNat >>> j)
  | 0, _ => by
    rw [upV, Nat.shiftRight_zero, nodeL]
    congr 1
    rw [BitVec.ofNat_toNat, BitVec.setWidth_eq]
  | j + 1, hj => by
    have ih := upV_tsign seed h leaf m j (by omega)
    have hs := sisV_tsign seed h leaf m j (by omega)
    rw [upV, ih, hs, nodeL, sisL, sib, Nat.shiftRight_succ]
    by_cases hb : leaf >>> j &&& 1#32 = 0#32
    · rw [if_pos hb]
      have h2 := (bit_w leaf j).1 hb
      rw [xor_even _ h2, show 2 * ((leaf.toNat >>> j) / 2) = leaf.toNat >>> j by omega]
    · rw [if_neg hb]
      have h2 : ¬ (leaf.toNat >>> j) % 2 = 0 := fun e => hb ((bit_w leaf j).2 e)
      obtain ⟨e1, e2⟩ := odd_half _ h2
      rw [xor_odd _ h2, e1, e2]
theorem ok_tsign (root seed : List B8) (h : Nat) (leaf : W32) (m : List B8) (hr : root.length = 8) (hh : h ≤ 10) (hl : leaf.toNat < 2 ^ h) : okV root (h : Int) (tsignL seed h leaf m) ∧ (leafL (tsignL seed h leaf m)).toNat < 2 ^ (h : Int).toNat := by
  refine ⟨⟨hr, by omega, by omega, ?_⟩, ?_⟩
  · rw [tsignL_len, Int.toNat_natCast]
  · rw [leafL_tsign, Int.toNat_natCast]; exact hl
/-- A tree's signature verifies. -/
theorem ver_sign (seed : List B8) (h : Nat) (leaf : W32) (m : List B8) (hh : h ≤ 10) (hl : leaf.toNat < 2 ^ h) : verB (nodeL seed h 0) (h : Int) m (tsignL seed h leaf m) = true := by
  rw [← verB_y _ _ _ _ (ok_tsign (nodeL seed h 0) seed h leaf m (nodeL_len _ _ _) hh hl)]
  rw [Int.toNat_natCast, leafL_tsign, openV_tsign, open_sign, upV_tsign seed h leaf m h (Nat.le_refl _)]
  apply decide_eq_true
  congr 1
  rw [Nat.shiftRight_eq_div_pow]
  exact Nat.div_eq_of_lt hl
def seed5 : List B8 := [5#8, 0#8, 0#8, 0#8, 0#8, 0#8, 0#8, 0#8]
theorem seed5_len : seed5.length = 8 := rfl
theorem seed5_big : big seed5 = 360287970189639680 := by decide
theorem k8p0 : pubN 360287970189639680 0 (fun _ => 0) = 13613509030940369981 := by kernel_rfl
theorem k8p1 : pubN 360287970189639680 1 (fun _ => 0) = 879223787661787384 := by kernel_rfl
theorem k8p2 : pubN 360287970189639680 2 (fun _ => 0) = 5694164919684500121 := by kernel_rfl
theorem k8p3 : pubN 360287970189639680 3 (fun _ => 0) = 217742532806062200 := by kernel_rfl
theorem nb (i : Nat) (hi : i < 4294967296) : big (nodeL seed5 0 i) = pubN 360287970189639680 i (fun _ => 0) := by
  rw [nodeL, pubN_ok seed5 seed5_len, seed5_big, BitVec.toNat_ofNat, Nat.mod_eq_of_lt hi]
theorem n0 : big (nodeL seed5 0 0) = 13613509030940369981 := by rw [nb 0 (by omega), k8p0]
theorem n1 : big (nodeL seed5 0 1) = 879223787661787384 := by rw [nb 1 (by omega), k8p1]
theorem n2 : big (nodeL seed5 0 2) = 5694164919684500121 := by rw [nb 2 (by omega), k8p2]
theorem n3 : big (nodeL seed5 0 3) = 217742532806062200 := by rw [nb 3 (by omega), k8p3]
end Go.AX
