/-
  Once, part D: public keys.
-/
import Derived.Test.YtnnkmoaipcdhnaaDoorHoC
namespace Go.AX
open Go Go.Proofs

/-- What a number of steps lays one behind the other. -/
def fl (f : Nat → List B8) : Nat → List B8
  | 0 => []
  | k + 1 => fl f k ++ f k
theorem fl_len (f : Nat → List B8) (n : Nat) (h : ∀ i, (f i).length = n) (k : Nat) : (fl f k).length = n * k := by
  induction k with
  | zero => rfl
  | succ k ih => rw [fl, List.length_append, ih, h, Nat.mul_succ]
def lkv (seed : List B8) (leaf : W32) (i : Nat) (v : B8) : List B8 := lockL (secretL seed leaf (BitVec.ofInt 8 (i : Int)) v)
def lk2 (seed : List B8) (leaf : W32) (i : Nat) : List B8 := lkv seed leaf i 0#8 ++ lkv seed leaf i 1#8
def lks (seed : List B8) (leaf : W32) : List B8 := fl (lk2 seed leaf) 32
def publicL (seed : List B8) (leaf : W32) : List B8 := shortL 3#8 [lks seed leaf]
theorem lkv_len (seed : List B8) (leaf : W32) (i : Nat) (v : B8) : (lkv seed leaf i v).length = 8 := lockL_len _
theorem lk2_len (seed : List B8) (leaf : W32) (i : Nat) : (lk2 seed leaf i).length = 16 := by simp [lk2, lkv_len]
theorem lks_len (seed : List B8) (leaf : W32) : (lks seed leaf).length = 512 := fl_len _ 16 (lk2_len seed leaf) 32
theorem publicL_len (seed : List B8) (leaf : W32) : (publicL seed leaf).length = 8 := shortL_len _ _

def publG : List AV → Option AV
  | [.rp xs] => obind (un8 xs) fun b => guardO (b.length = 512) (some (.agg (c8 (shortL 3#8 [b]))))
  | _ => none
theorem publG_eq (xs : List AV) : publG [.rp xs] = obind (un8 xs) fun b => guardO (b.length = 512) (some (.agg (c8 (shortL 3#8 [b])))) := (rfl)
attribute [go_sem] publG_eq publicL_len lkv_len

theorem take_16 (b : List B8) (k : Nat) : b.take (16 * k) ++ (b.drop (16 * k)).take 8 ++ (b.drop (16 * k + 8)).take 8 = b.take (16 * (k + 1)) := by
  rw [List.append_assoc, show 16 * (k + 1) = 16 * k + (8 + 8) by omega, List.take_add, List.take_add, List.drop_drop]

set_option maxHeartbeats 4000000 in
theorem publ_ok : PureOK Tryd.prog GLh 67 publG := by
  refine pure_of_awp Tryd.func67 (bodyOf_some rfl) ?_
  intro args r hg
  unfold publG at hg
  split at hg
  · rename_i xs
    replace hg := obind_inv hg; obtain ⟨b, hb, hg⟩ := hg
    replace hg := guardO_inv hg; obtain ⟨hn, hg⟩ := hg
    obtain rfl := Option.some.inj hg
    have := un8_inv _ hb; subst this
    clear hg hb
    refine ⟨Nat.le_of_ble_eq_true rfl, fun nx => ?_⟩
    have hs := shortL_len 3#8 [b]
    refine awp_seqP rfl ?_
    refine awp_regP (Γ := noEnv) [0, 2] (noEnv_ok _ _) rfl rfl rfl (fun K hK => ?_)
    simp only [Tryd.f67, bodyOf, Option.getD_some, cl, rOps, lights, light, rN, List.size_toArray, List.length_cons, List.length_nil, Nat.zero_add, List.map_cons, List.map_nil, Option.map_none]
    simp (maxSteps := 300000) (disch := omega) only [go_sem, ↓reduceIte]
    with_reducible refine hK _ ?_
    clear hK K
    refine nx_then ?_
    refine awp_seqP rfl ?_
    refine awp_regP (Γ := noEnv) [0, 2, 3] (noEnv_ok _ _) rfl rfl rfl (fun K hK => ?_)
    simp only [Tryd.f67, bodyOf, Option.getD_some, cl, cr, rOps, lights, light, rN, List.size_toArray, List.length_cons, List.length_nil, Nat.zero_add, List.map_cons, List.map_nil, Option.map_none]
    simp (maxSteps := 300000) (disch := omega) only [go_sem, ↓reduceIte]
    with_reducible refine hK _ ?_
    clear hK K
    refine nx_then ?_
    refine awp_seqP rfl ?_
    refine awp_seqP rfl ?_
    refine awp_regP (Γ := noEnv) [0, 2, 3, 5] (noEnv_ok _ _) rfl rfl rfl (fun K hK => ?_)
    simp only [Tryd.f67, bodyOf, Option.getD_some, cl, cr, rOps, lights, light, rN, List.size_toArray, List.length_cons, List.length_nil, Nat.zero_add, List.map_cons, List.map_nil, Option.map_none]
    simp (maxSteps := 300000) (disch := omega) only [go_sem, ↓reduceIte]
    with_reducible refine hK _ ?_
    clear hK K
    refine nx_then ?_
    refine awp_blockN 0 rfl rfl ?_
    refine awp_own 3 1 rfl ?_
    refine awp_keep [0, 2, 3, 5] ?_
    simp only [kf_nil, kf_cons, look_cons, ↓reduceIte, Nat.reduceEqDiff]
    refine awp_loopP (fun p : KIC => { fr := [(0, .rp (c8 b)), (2, .op nx 0), (3, .os p.id 0 (16 * p.k) 1 true), (5, .i p.k)], hp := upd (upd (fun _ => none) nx (.cells (c8 (List.replicate 8 0#8)) true)) p.id (.cells (c8 (b.take (16 * p.k))) true), nx := 0, cx := p.c }) (fun p => p.k ≤ 32 ∧ nx < p.id ∧ p.id < p.c) (fun p => 32 - p.k) rfl ⟨⟨0, _, _⟩, ⟨Nat.zero_le _, by simp only; omega, by simp only; omega⟩, sub_same rfl rfl (Nat.le_refl _)⟩ ?_
    rintro ⟨k, id, c⟩ ⟨hk, hid, hc⟩ n0
    simp only at hk hid hc ⊢
    have hl : (b.take (16 * k)).length = 16 * k := by rw [List.length_take]; omega
    have e0 : ((k : Int) * 16).toNat = 16 * k := by omega
    refine awp_seqP rfl ?_
    refine awp_regP (Γ := noEnv) [6, 0, 2, 3, 5] (noEnv_ok _ _) rfl rfl rfl (fun K hK => ?_)
    simp only [Tryd.f67, bodyOf, Option.getD_some, cl, cr, rOps, lights, light, rN, List.size_toArray, List.length_cons, List.length_nil, Nat.zero_add, List.map_cons, List.map_nil, Option.map_none]
    simp (maxSteps := 300000) (disch := omega) only [go_sem, ↓reduceIte]
    with_reducible refine hK _ ?_
    clear hK K
    refine nx_then ?_
    refine awp_seqP rfl ?_
    refine awp_ifD (.tmp 6) rfl rfl rfl (fun h => ?_) (fun h => ?_)
    · skip
      refine awp_drop rfl ?_
      refine awp_skipP rfl ?_
      refine nx_then ?_
      refine awp_seqP rfl ?_
      refine awp_blockN 1 rfl rfl ?_
      refine awp_seqP rfl ?_
      refine awp_regP (Γ := noEnv) [0, 2, 3, 4, 5] (noEnv_ok _ _) rfl rfl rfl (fun K hK => ?_)
      simp only [Tryd.f67, bodyOf, Option.getD_some, cl, cr, rOps, lights, light, rN, List.size_toArray, List.length_cons, List.length_nil, Nat.reduceAdd, Nat.zero_add, List.map_cons, List.map_nil, Option.map_none]
      simp (maxSteps := 300000) (disch := omega) only [go_sem, Nat.reduceAdd, ↓reduceIte]
      with_reducible refine hK _ ?_
      clear hK K
      refine nx_then ?_
      have e9 : k * 16 = 16 * k := by omega
      have hA : (List.take 8 (List.drop (16 * k) b)).length = 8 := by rw [List.length_take, List.length_drop]; omega
      have hB : (List.take 8 (List.drop (16 * k + 8) b)).length = 8 := by rw [List.length_take, List.length_drop]; omega
      refine awp_drwP (Γ := noEnv) (fun k => if k = 14 then 258 else 2) [0, 2, 3, 5] mixed (noEnv_ok _ _) rfl rfl rfl (by kernel_rfl) (fun K hK => ?_)
      simp only [Tryd.f67, bodyOf, Option.getD_some, cl, cr, rOps, lights, light, rN, List.size_toArray, List.length_cons, List.length_nil, Nat.reduceAdd, Nat.zero_add, List.map_cons, List.map_nil, Option.map_none]
      simp (maxSteps := 300000) (disch := first | omega | decide) only [go_sem, Nat.reduceAdd, Nat.reduceSub, Nat.reduceLeDiff, Nat.reduceLT, Int.reduceLE, Int.reduceToNat, ↓reduceIte, hl, e9, hA, hB, List.drop_drop]
      with_reducible refine hK _ ?_
      clear hK K
      refine nx_blk (nx_then ?_)
      refine awp_regP (Γ := noEnv) [0, 2, 3, 5] (noEnv_ok _ _) rfl rfl rfl (fun K hK => ?_)
      simp only [Tryd.f67, bodyOf, Option.getD_some, cl, cr, rOps, lights, light, rN, List.size_toArray, List.length_cons, List.length_nil, Nat.reduceAdd, Nat.zero_add, List.map_cons, List.map_nil, Option.map_none]
      simp (maxSteps := 300000) (disch := omega) only [go_sem, Nat.reduceAdd, ↓reduceIte]
      with_reducible refine hK _ ?_
      clear hK K
      refine nx_loop ?_
      have e5 : 16 * (k + 1) = 16 * k + 8 + 8 := by omega
      refine ⟨⟨k + 1, c + 1 + 2 + 14, _⟩, ⟨by simp only; omega, by simp only; omega, by simp only; omega⟩, by simp only; omega, ⟨fun _ => .inr ?_, fun j o h => ?_, Nat.le_refl _⟩⟩
      · simp only [e5, Int.natCast_add, Int.natCast_one]
      · simp only [← take_16] at h
        grind [upd_apply, del_apply]
    · skip
      refine awp_drop rfl ?_
      refine awp_exitN 0 rfl rfl ?_
      refine nx_ex_then (nx_ex_loop (nx_ex_blk ?_))
      refine nx_then ?_
      refine awp_seqP rfl ?_
      obtain rfl : k = 32 := by omega
      rw [List.take_of_length_le (by omega)]
      refine awp_regP (Γ := envL [(24, .pure true shortG)]) [2] (envOK_cons ok24 envOK_nil) rfl rfl rfl (fun K hK => ?_)
      simp only [Tryd.f67, bodyOf, Option.getD_some, cl, cr, rOps, lights, light, rN, List.size_toArray, List.length_cons, List.length_nil, Nat.reduceAdd, Nat.zero_add, List.map_cons, List.map_nil, Option.map_none]
      simp (maxSteps := 300000) (disch := omega) only [go_sem, Nat.reduceAdd, Nat.reduceMul, Nat.reduceLeDiff, Nat.reduceLT, Int.reduceLE, Int.reduceLT, BitVec.reduceOfInt, ↓reduceIte, hn]
      with_reducible refine hK _ ?_
      clear hK K
      refine nx_then ?_
      refine awp_retP rfl ?_
      simp (disch := omega) only [pureQ, resA, resAL, resA1, Tryd.f67, go_sem, Nat.reduceLeDiff, ↓reduceIte, ldV, imm_c8, hs]
  · cases hg
theorem ok67 : EntOK Tryd.prog GLh 67 (.pure true publG) := ⟨⟨_, Tryd.func67, rfl, rfl⟩, publ_ok⟩

def pubG : List AV → Option AV
  | [.agg xs, .w32 leaf] => obind (un8 xs) fun b => guardO (b.length = 8) (some (.agg (c8 (publicL b leaf))))
  | _ => none
theorem pubG_eq (xs : List AV) (leaf : W32) : pubG [.agg xs, .w32 leaf] = obind (un8 xs) fun b => guardO (b.length = 8) (some (.agg (c8 (publicL b leaf)))) := (rfl)
theorem zc95 : zcells Tryd.prog 95 = some (List.replicate 512 (.w8 0#8)) := by kernel_rfl
attribute [go_sem] pubG_eq zc95
theorem storeL_c8 (l m : List B8) (k : Nat) (h : k + m.length ≤ l.length) : storeL (c8 l) k (c8 m) = c8 (splice8 l k m) := by
  unfold storeL
  split
  · rename_i x hx
    cases m with
    | nil => cases hx
    | cons y m =>
      obtain ⟨rfl, hm⟩ := List.cons.inj hx
      obtain rfl : m = [] := by cases m with | nil => rfl | cons _ _ => cases hm
      rw [c8_set]
      congr 1
      simp only [List.length_cons, List.length_nil] at h
      rw [List.set_eq_take_append_cons_drop, if_pos (by omega)]
      simp [splice8]
  · exact c8_splice _ _ _
/-- The next piece of a row that is filled from its beginning on. -/
theorem splice_next (x y : List B8) (n : Nat) (z : B8) (_ : y.length ≤ n) : splice8 (x ++ List.replicate n z) x.length y = x ++ y ++ List.replicate (n - y.length) z := by
  unfold splice8
  rw [List.take_left' rfl, List.drop_append, List.drop_of_length_le (by omega), List.nil_append, show x.length + y.length - x.length = y.length by omega, List.drop_replicate]
/-- The row of locks, as far as it is filled. -/
def lrow (seed : List B8) (leaf : W32) (k v : Nat) : List B8 := fl (lk2 seed leaf) k ++ (if 1 ≤ v then lkv seed leaf k 0#8 else []) ++ (if 2 ≤ v then lkv seed leaf k 1#8 else [])
theorem lrow_len (seed : List B8) (leaf : W32) (k v : Nat) (hv : v ≤ 2) : (lrow seed leaf k v).length = 16 * k + 8 * v := by
  unfold lrow
  rw [List.length_append, List.length_append, fl_len _ 16 (lk2_len seed leaf)]
  match v, hv with
  | 0, _ => simp
  | 1, _ => simp [lkv_len]
  | 2, _ => simp [lkv_len]
theorem lrow_next (seed : List B8) (leaf : W32) (k v : Nat) (hv : v < 2) : lrow seed leaf k (v + 1) = lrow seed leaf k v ++ lkv seed leaf k (BitVec.ofInt 8 (v : Int)) := by
  match v, hv with
  | 0, _ => simp [lrow]
  | 1, _ => simp [lrow]
theorem lrow_two (seed : List B8) (leaf : W32) (k : Nat) : lrow seed leaf k 2 = fl (lk2 seed leaf) (k + 1) := by simp [lrow, fl, lk2]
theorem lrow_zero (seed : List B8) (leaf : W32) (k : Nat) : lrow seed leaf k 0 = fl (lk2 seed leaf) k := by simp [lrow]
def lful (seed : List B8) (leaf : W32) (k v : Nat) : List B8 := lrow seed leaf k v ++ List.replicate (512 - (16 * k + 8 * v)) 0#8
theorem lful_len (seed : List B8) (leaf : W32) (k v : Nat) (hv : v ≤ 2) (hk : 16 * k + 8 * v ≤ 512) : (lful seed leaf k v).length = 512 := by
  rw [lful, List.length_append, lrow_len _ _ _ _ hv, List.length_replicate]; omega
theorem lful_next (seed : List B8) (leaf : W32) (k v : Nat) (hv : v < 2) (hk : k < 32) : splice8 (lful seed leaf k v) (16 * k + 8 * v) (lkv seed leaf k (BitVec.ofInt 8 (v : Int))) = lful seed leaf k (v + 1) := by
  have hl := lrow_len seed leaf k v (by omega)
  have := splice_next (lrow seed leaf k v) (lkv seed leaf k (BitVec.ofInt 8 (v : Int))) (512 - (16 * k + 8 * v)) 0#8 (by rw [lkv_len]; omega)
  rw [hl, lkv_len] at this
  unfold lful
  rw [this, lrow_next _ _ _ _ hv]
  congr 2
theorem lful_two (seed : List B8) (leaf : W32) (k : Nat) : lful seed leaf k 2 = lful seed leaf (k + 1) 0 := by
  unfold lful; rw [lrow_two, lrow_zero]
  congr 2
theorem lful_all (seed : List B8) (leaf : W32) : lful seed leaf 32 0 = lks seed leaf := by
  unfold lful; rw [lrow_zero]; simp [lks]

structure KVC where
  v : Nat
  c : Nat

set_option maxHeartbeats 4000000 in
theorem pub_ok : PureOK Tryd.prog GLh 33 pubG := by
  refine pure_of_awp Tryd.func33 (bodyOf_some rfl) ?_
  intro args r hg
  unfold pubG at hg
  split at hg
  · rename_i xs leaf
    replace hg := obind_inv hg; obtain ⟨seed, hb, hg⟩ := hg
    replace hg := guardO_inv hg; obtain ⟨hn, hg⟩ := hg
    obtain rfl := Option.some.inj hg
    have := un8_inv _ hb; subst this
    clear hg hb
    refine ⟨Nat.le_of_ble_eq_true rfl, fun nx => ?_⟩
    have hs := publicL_len seed leaf
    refine awp_seqP rfl ?_
    refine awp_regP (Γ := noEnv) [1, 2, 4] (noEnv_ok _ _) rfl rfl rfl (fun K hK => ?_)
    simp only [Tryd.f33, bodyOf, Option.getD_some, cl, rOps, lights, light, rN, List.size_toArray, List.length_cons, List.length_nil, Nat.reduceAdd, Nat.zero_add, List.map_cons, List.map_nil, Option.map_none]
    simp (maxSteps := 300000) (disch := omega) only [go_sem, Nat.reduceAdd, ↓reduceIte]
    with_reducible refine hK _ ?_
    clear hK K
    refine nx_then ?_
    refine awp_seqP rfl ?_
    refine awp_regP (Γ := noEnv) [1, 2, 4, 5] (noEnv_ok _ _) rfl rfl rfl (fun K hK => ?_)
    simp only [Tryd.f33, bodyOf, Option.getD_some, cl, cr, rOps, lights, light, rN, List.size_toArray, List.length_cons, List.length_nil, Nat.zero_add, List.map_cons, List.map_nil, Option.map_none]
    simp (maxSteps := 300000) (disch := omega) only [go_sem, ↓reduceIte]
    with_reducible refine hK _ ?_
    clear hK K
    refine nx_then ?_
    refine awp_seqP rfl ?_
    refine awp_seqP rfl ?_
    refine awp_regP (Γ := noEnv) [1, 2, 4, 5, 9] (noEnv_ok _ _) rfl rfl rfl (fun K hK => ?_)
    simp only [Tryd.f33, bodyOf, Option.getD_some, cl, cr, rOps, lights, light, rN, List.size_toArray, List.length_cons, List.length_nil, Nat.zero_add, List.map_cons, List.map_nil, Option.map_none]
    simp (maxSteps := 300000) (disch := omega) only [go_sem, ↓reduceIte]
    with_reducible refine hK _ ?_
    clear hK K
    refine nx_then ?_
    have h0 : c8 (List.replicate 512 0#8) = c8 (lful seed leaf 0 0) := by unfold lful; rw [lrow_zero]; rfl
    refine awp_blockN 0 rfl rfl ?_
    refine awp_loopP (fun p : KC => { fr := [(1, .w32 leaf), (2, .op nx 0), (4, .op (nx + 1) 0), (5, .op (nx + 2) 0), (9, .i p.k)], hp := upd (upd (upd (fun _ => none) nx (.cells (c8 seed) true)) (nx + 1) (.cells (c8 (List.replicate 8 0#8)) true)) (nx + 2) (.cells (c8 (lful seed leaf p.k 0)) true), nx := 0, cx := p.c }) (fun p => p.k ≤ 32 ∧ nx + 3 ≤ p.c) (fun p => 32 - p.k) rfl ⟨⟨0, _⟩, ⟨Nat.zero_le _, by simp only; omega⟩, sub_same rfl (by rw [← h0]) (Nat.le_refl _)⟩ ?_
    rintro ⟨k, c⟩ ⟨hk, hc⟩ n0
    simp only at hk hc ⊢
    refine awp_seqP rfl ?_
    refine awp_regP (Γ := noEnv) [10, 1, 2, 4, 5, 9] (noEnv_ok _ _) rfl rfl rfl (fun K hK => ?_)
    simp only [Tryd.f33, bodyOf, Option.getD_some, cl, cr, rOps, lights, light, rN, List.size_toArray, List.length_cons, List.length_nil, Nat.zero_add, List.map_cons, List.map_nil, Option.map_none]
    simp (maxSteps := 300000) (disch := omega) only [go_sem, ↓reduceIte]
    with_reducible refine hK _ ?_
    clear hK K
    refine nx_then ?_
    refine awp_seqP rfl ?_
    refine awp_ifD (.tmp 10) rfl rfl rfl (fun h => ?_) (fun h => ?_)
    · skip
      refine awp_drop rfl ?_
      refine awp_skipP rfl ?_
      refine nx_then ?_
      refine awp_seqP rfl ?_
      refine awp_blockN 1 rfl rfl ?_
      refine awp_seqP rfl ?_
      refine awp_regP (Γ := noEnv) [1, 2, 4, 5, 6, 9] (noEnv_ok _ _) rfl rfl rfl (fun K hK => ?_)
      simp only [Tryd.f33, bodyOf, Option.getD_some, cl, cr, rOps, lights, light, rN, List.size_toArray, List.length_cons, List.length_nil, Nat.reduceAdd, Nat.zero_add, List.map_cons, List.map_nil, Option.map_none]
      simp (maxSteps := 300000) (disch := omega) only [go_sem, Nat.reduceAdd, ↓reduceIte]
      with_reducible refine hK _ ?_
      clear hK K
      refine nx_then ?_
      refine awp_seqP rfl ?_
      refine awp_regP (Γ := noEnv) [1, 2, 4, 5, 6, 9, 12] (noEnv_ok _ _) rfl rfl rfl (fun K hK => ?_)
      simp only [Tryd.f33, bodyOf, Option.getD_some, cl, cr, rOps, lights, light, rN, List.size_toArray, List.length_cons, List.length_nil, Nat.zero_add, List.map_cons, List.map_nil, Option.map_none]
      simp (maxSteps := 300000) (disch := omega) only [go_sem, ↓reduceIte]
      with_reducible refine hK _ ?_
      clear hK K
      refine nx_then ?_
      refine awp_blockN 2 rfl rfl ?_
      refine awp_loopP (fun p : KVC => { fr := [(1, .w32 leaf), (2, .op nx 0), (4, .op (nx + 1) 0), (5, .op (nx + 2) 0), (6, .i k), (9, .i k), (12, .i p.v)], hp := upd (upd (upd (fun _ => none) nx (.cells (c8 seed) true)) (nx + 1) (.cells (c8 (List.replicate 8 0#8)) true)) (nx + 2) (.cells (c8 (lful seed leaf k p.v)) true), nx := 0, cx := p.c }) (fun p => p.v ≤ 2 ∧ nx + 3 ≤ p.c) (fun p => 2 - p.v) rfl ⟨⟨0, _⟩, ⟨Nat.zero_le _, by simp only; omega⟩, sub_same rfl rfl (Nat.le_refl _)⟩ ?_
      rintro ⟨v, c⟩ ⟨hv, hc⟩ n0
      simp only at hv hc ⊢
      have hl := lful_len seed leaf k v hv (by omega)
      refine awp_seqP rfl ?_
      refine awp_regP (Γ := noEnv) [13, 1, 2, 4, 5, 6, 9, 12] (noEnv_ok _ _) rfl rfl rfl (fun K hK => ?_)
      simp only [Tryd.f33, bodyOf, Option.getD_some, cl, cr, rOps, lights, light, rN, List.size_toArray, List.length_cons, List.length_nil, Nat.zero_add, List.map_cons, List.map_nil, Option.map_none]
      simp (maxSteps := 300000) (disch := omega) only [go_sem, ↓reduceIte]
      with_reducible refine hK _ ?_
      clear hK K
      refine nx_then ?_
      refine awp_seqP rfl ?_
      refine awp_ifD (.tmp 13) rfl rfl rfl (fun h => ?_) (fun h => ?_)
      · skip
        refine awp_drop rfl ?_
        refine awp_skipP rfl ?_
        refine nx_then ?_
        refine awp_seqP rfl ?_
        refine awp_blockN 3 rfl rfl ?_
        refine awp_seqP rfl ?_
        refine awp_regP (Γ := noEnv) [1, 2, 4, 5, 6, 7, 9, 12] (noEnv_ok _ _) rfl rfl rfl (fun K hK => ?_)
        simp only [Tryd.f33, bodyOf, Option.getD_some, cl, cr, rOps, lights, light, rN, List.size_toArray, List.length_cons, List.length_nil, Nat.reduceAdd, Nat.zero_add, List.map_cons, List.map_nil, Option.map_none]
        simp (maxSteps := 300000) (disch := omega) only [go_sem, Nat.reduceAdd, ↓reduceIte]
        with_reducible refine hK _ ?_
        clear hK K
        refine nx_then ?_
        have hsl := secretL_len seed leaf (BitVec.ofInt 8 (k : Int)) (BitVec.ofInt 8 (v : Int))
        have hll : lockL (secretL seed leaf (BitVec.ofInt 8 (k : Int)) (BitVec.ofInt 8 (v : Int))) = lkv seed leaf k (BitVec.ofInt 8 (v : Int)) := rfl
        refine awp_seqP rfl ?_
        refine awp_regP (Γ := envL [(65, .pure true secretG)]) [1, 2, 4, 5, 6, 7, 8, 9, 12] (envOK_cons ok65 envOK_nil) rfl rfl rfl (fun K hK => ?_)
        simp only [Tryd.f33, bodyOf, Option.getD_some, cl, cr, rOps, lights, light, rN, List.size_toArray, List.length_cons, List.length_nil, Nat.reduceAdd, Nat.zero_add, List.map_cons, List.map_nil, Option.map_none]
        simp (maxSteps := 300000) (disch := omega) only [go_sem, Nat.reduceAdd, Nat.reduceLeDiff, ↓reduceIte, hn]
        with_reducible refine hK _ ?_
        clear hK K
        refine nx_then ?_
        have hkl := lkv_len seed leaf k (BitVec.ofInt 8 (v : Int))
        have e9 : k * 16 + v * 8 = 16 * k + 8 * v := by omega
        have hnx := lful_next seed leaf k v (by omega) (by omega)
        refine awp_drwP (Γ := envL [(66, .pure true lockG)]) (fun k => if k = 3 then 0 else 2) [1, 2, 4, 5, 6, 9, 12] mixed (envOK_cons ok66 envOK_nil) rfl rfl rfl (by kernel_rfl) (fun K hK => ?_)
        simp only [Tryd.f33, bodyOf, Option.getD_some, cl, cr, rOps, lights, light, rN, List.size_toArray, List.length_cons, List.length_nil, Nat.reduceAdd, Nat.zero_add, List.map_cons, List.map_nil, Option.map_none]
        simp (maxSteps := 300000) (disch := omega) only [go_sem, Nat.reduceAdd, Nat.reduceSub, Nat.reduceLeDiff, Int.reduceLE, Int.reduceToNat, ↓reduceIte, hl, hll, storeL_c8, hkl, e9, hnx]
        with_reducible refine hK _ ?_
        clear hK K
        refine nx_blk (nx_then ?_)
        refine awp_regP (Γ := noEnv) [1, 2, 4, 5, 6, 9, 12] (noEnv_ok _ _) rfl rfl rfl (fun K hK => ?_)
        simp only [Tryd.f33, bodyOf, Option.getD_some, cl, cr, rOps, lights, light, rN, List.size_toArray, List.length_cons, List.length_nil, Nat.reduceAdd, Nat.zero_add, List.map_cons, List.map_nil, Option.map_none]
        simp (maxSteps := 300000) (disch := omega) only [go_sem, Nat.reduceAdd, ↓reduceIte]
        with_reducible refine hK _ ?_
        clear hK K
        refine nx_loop ?_
        refine ⟨⟨v + 1, _⟩, ⟨by simp only; omega, ?_⟩, by simp only; omega, ⟨fun _ => .inr ?_, fun j o h => ?_, Nat.le_refl _⟩⟩
        · simp only; omega
        · simp only [Int.natCast_add, Int.natCast_one]
        · simp only at h
          grind [upd_apply, del_apply]
      · skip
        refine awp_drop rfl ?_
        refine awp_exitN 2 rfl rfl ?_
        refine nx_ex_then (nx_ex_loop (nx_ex_blk ?_))
        refine nx_blk (nx_then ?_)
        obtain rfl : v = 2 := by omega
        rw [lful_two]
        refine awp_regP (Γ := noEnv) [1, 2, 4, 5, 9] (noEnv_ok _ _) rfl rfl rfl (fun K hK => ?_)
        simp only [Tryd.f33, bodyOf, Option.getD_some, cl, cr, rOps, lights, light, rN, List.size_toArray, List.length_cons, List.length_nil, Nat.reduceAdd, Nat.zero_add, List.map_cons, List.map_nil, Option.map_none]
        simp (maxSteps := 300000) (disch := omega) only [go_sem, Nat.reduceAdd, ↓reduceIte]
        with_reducible refine hK _ ?_
        clear hK K
        refine nx_loop ?_
        refine ⟨⟨k + 1, _⟩, ⟨by simp only; omega, by simp only; omega⟩, by simp only; omega, sub_same ?_ rfl (Nat.le_refl _)⟩
        simp only [Int.natCast_add, Int.natCast_one]
    · skip
      refine awp_drop rfl ?_
      refine awp_exitN 0 rfl rfl ?_
      refine nx_ex_then (nx_ex_loop (nx_ex_blk ?_))
      refine nx_then ?_
      refine awp_seqP rfl ?_
      obtain rfl : k = 32 := by omega
      rw [lful_all]
      have hl := lks_len seed leaf
      have hf : shortL 3#8 [lks seed leaf] = publicL seed leaf := rfl
      refine awp_regP (Γ := envL [(67, .pure true publG)]) [4] (envOK_cons ok67 envOK_nil) rfl rfl rfl (fun K hK => ?_)
      simp only [Tryd.f33, bodyOf, Option.getD_some, cl, cr, rOps, lights, light, rN, List.size_toArray, List.length_cons, List.length_nil, Nat.reduceAdd, Nat.zero_add, List.map_cons, List.map_nil, Option.map_none]
      simp (maxSteps := 300000) (disch := omega) only [go_sem, Nat.reduceAdd, Nat.reduceLeDiff, ↓reduceIte, hf]
      with_reducible refine hK _ ?_
      clear hK K
      refine nx_then ?_
      refine awp_retP rfl ?_
      simp (disch := omega) only [pureQ, resA, resAL, resA1, Tryd.f33, go_sem, Nat.reduceLeDiff, ↓reduceIte, ldV, imm_c8, hs]
  · cases hg
theorem ok33 : EntOK Tryd.prog GLh 33 (.pure true pubG) := ⟨⟨_, Tryd.func33, rfl, rfl⟩, pub_ok⟩
end Go.AX
