/-
  Disk, part M: what was synced outlasts a crash. Disk, part N: the statement DiskSure, walked.
-/
import Derived.Test.YtkpgebeipmedeaaQD
namespace Go.AX
open Go Go.Proofs

def dl (f : Nat → List B8) (n : Nat) : List (Int × List B8) := (List.range n).map fun i : Nat => ((i : Int), f i)
theorem dl_succ (f : Nat → List B8) (n : Nat) : dl f (n + 1) = dl f n ++ [((n : Int), f n)] := by simp [dl, List.range_succ]
theorem dl_len (f : Nat → List B8) (n : Nat) : (dl f n).length = n := by simp [dl]
theorem getK_app {i : Int} {l r : List (Int × List B8)} : getK i (l ++ r) = match getK i l with | some b => some b | none => getK i r := by
  induction l with
  | nil => rfl
  | cons p t ih => simp only [List.cons_append, getK]; split <;> first | rfl | exact ih
theorem getK_dl (f : Nat → List B8) (k : Nat) : ∀ n, getK (k : Int) (dl f n) = if k < n then some (f k) else none
  | 0 => rfl
  | n + 1 => by
    rw [dl_succ, getK_app, getK_dl f k n]
    by_cases h : k < n
    · rw [if_pos h, if_pos (by omega)]
    · rw [if_neg h]
      simp only [getK]
      by_cases e : k = n
      · subst e; rw [if_pos rfl, if_pos (by omega)]
      · rw [if_neg (by omega), if_neg (by omega)]
theorem putK_new {i : Int} {b : List B8} {l : List (Int × List B8)} (h : getK i l = none) : putK i b l = l ++ [(i, b)] := by
  induction l with
  | nil => rfl
  | cons p t ih =>
    simp only [getK] at h
    simp only [putK, List.cons_append]
    by_cases e : i = p.1
    · rw [if_pos e] at h; cases h
    · rw [if_neg e] at h ⊢; rw [ih h]
theorem putK_dl (f : Nat → List B8) (n : Nat) : putK (n : Int) (f n) (dl f n) = dl f (n + 1) := by
  rw [putK_new (by rw [getK_dl, if_neg (by omega)]), dl_succ]
theorem srt_dl (f : Nat → List B8) (n : Nat) : srt ((dl f n).map (·.1)) = (List.range n).map fun i : Nat => (i : Int) := by
  have e : (dl f n).map (·.1) = (List.range n).map fun i : Nat => (i : Int) := by simp [dl, Function.comp_def]
  rw [e]
  refine List.mergeSort_of_pairwise (List.pairwise_map.2 ?_)
  refine List.pairwise_lt_range.imp fun {a b} h => ?_
  simp only [decide_eq_true_eq]; omega
/-- The rows behind a settling of the first n sectors. -/
theorem rowsAt_dl (kept : Nat → Bool) (f : Nat → List B8) (n : Nat) (rows : List (List B8)) (hn : n ≤ rows.length) : ∀ k, k ≤ n →
    rowsAt kept ((List.range n).map fun i : Nat => (i : Int)) (dl f n) rows k = (List.range rows.length).map fun i => if i < k ∧ kept i = true then f i else rows.getD i []
  | 0, _ => by
    simp only [rowsAt]
    apply List.ext_getElem
    · simp
    · intro i h1 h2
      simp [h1]
  | k + 1, hk => by
    have ih := rowsAt_dl kept f n rows hn k (by omega)
    have e1 : ((List.range n).map fun i : Nat => (i : Int)).getD k 0 = (k : Int) := by
      rw [List.getD_eq_getElem?_getD, List.getElem?_map, List.getElem?_range (by omega)]; rfl
    have e2 : getK (k : Int) (dl f n) = some (f k) := by rw [getK_dl, if_pos (by omega)]
    simp only [rowsAt, ih, e1, e2, Option.getD_some, Int.toNat_natCast]
    apply List.ext_getElem
    · split <;> simp
    · intro i h1 h2
      have hi : i < rows.length := by simpa using h2
      split
      · rename_i hkept
        rw [List.getElem_set]
        by_cases e : k = i
        · subst e; simp [hkept]
        · simp only [if_neg e, List.getElem_map, List.getElem_range]
          by_cases h3 : i < k
          · simp [h3, show i < k + 1 by omega]
          · simp [h3, show ¬ i < k + 1 by omega]
      · rename_i hkept
        simp only [List.getElem_map, List.getElem_range]
        by_cases h3 : i < k
        · simp [h3, show i < k + 1 by omega]
        · by_cases e : i = k
          · subst e; simp [hkept]
          · simp [h3, show ¬ i < k + 1 by omega]
def row1 (c : B8) : List B8 := c :: List.replicate 63 0#8
def dC (rows : List (List B8)) (f : Nat → List B8) (k : Nat) : DC := ⟨rows, true, dl f k, -1, false⟩
theorem dC_wr {rows : List (List B8)} {f : Nat → List B8} {k : Nat} {b : List B8} (hk : k < rows.length) (hb : b.length = 64) (hf : f k = b) : wrV (dC rows f k) k b 64 = (0, dC rows f (k + 1)) := by
  have e1 : atV (dC rows f k) k = 0 := by unfold atV; rw [if_neg (by simp [dC]), if_neg (by simp only [dC]; omega)]
  have e2 : pwV (dC rows f k) = (0, dC rows f k) := (rfl)
  unfold wrV
  rw [if_pos e1, if_pos (by omega), e2, if_pos rfl]
  subst hf
  simp only [dC, putK_dl]
def settled (kept : Nat → Bool) (rows : List (List B8)) (f : Nat → List B8) (n : Nat) : List (List B8) := (List.range rows.length).map fun i => if i < n ∧ kept i = true then f i else rows.getD i []
theorem settled_len (kept : Nat → Bool) (rows : List (List B8)) (f : Nat → List B8) (n : Nat) : (settled kept rows f n).length = rows.length := by simp [settled]
theorem dC_stl (kept : Nat → Bool) {rows : List (List B8)} {f : Nat → List B8} {n : Nat} (hn : n ≤ rows.length) : stlC kept (dC rows f n) = dC (settled kept rows f n) f 0 := by
  unfold stlC
  simp only [dC, srt_dl, dl_len]
  rw [rowsAt_dl kept f n rows hn n (Nat.le_refl _)]
  rfl
theorem dC_syn {rows : List (List B8)} {f : Nat → List B8} {n : Nat} (hn : n ≤ rows.length) : synV (dC rows f n) = (0, dC (settled (fun _ => true) rows f n) f 0) := by
  have e2 : pwV (dC rows f n) = (0, dC rows f n) := (rfl)
  unfold synV
  rw [if_neg (by simp [dC]), e2, if_pos rfl, dC_stl _ hn]
theorem dC_cra (keep : BitVec 64) {rows : List (List B8)} {f : Nat → List B8} {n : Nat} (hn : n ≤ rows.length) : craC keep (dC rows f n) = dC (settled (bitK keep) rows f n) f 0 := by
  unfold craC
  rw [dC_stl _ hn]; rfl
theorem dC_ok {rows : List (List B8)} {f : Nat → List B8} {n : Nat} (hn : n ≤ rows.length) : DOk (dC rows f n) = true := by
  unfold DOk
  refine List.all_eq_true.2 fun i hi => decide_eq_true ?_
  simp only [dC, dl, List.map_map, List.mem_map, List.mem_range, Function.comp_def] at hi
  obtain ⟨k, hk, rfl⟩ := hi
  simp only [dC]; omega
theorem dC_0 (rows : List (List B8)) (f g : Nat → List B8) : dC rows f 0 = dC rows g 0 := (rfl)
end Go.AX

namespace Go.AX
open Go Go.Proofs

def z40 : List (List B8) := List.replicate 40 z64
structure KB where
  k : Nat
  c : B8
theorem row1_len (c : B8) : (row1 c).length = 64 := by simp [row1]
theorem row1_z : row1 0#8 = z64 := (rfl)
theorem row1_set (c x : B8) : (c8 (row1 c)).set 0 (.w8 x) = c8 (row1 x) := (rfl)
theorem row1_take (c : B8) : (row1 c).take 64 = row1 c := List.take_of_length_le (by rw [row1_len]; exact Nat.le_refl _)
def sureG : List AV → Option AV
  | [.sl n xs, .sl m ys, .w64 _] => obind (unW8 xs) fun l => obind (unW8 ys) fun l2 => guardO (l.length = n ∧ l2.length = m) (some (.b true))
  | _ => none
theorem sureG_y (a b : List B8) (keep : BitVec 64) : sureG [.sl a.length (c8 a), .sl b.length (c8 b), .w64 keep] = some (.b true) := by
  simp only [sureG, unW8_c8, obind_some]; exact guardO_true _ (by simp)
def fA (a : List B8) (i : Nat) : List B8 := row1 (a.getD i 0#8)
def rA (a : List B8) : List (List B8) := settled (fun _ => true) z40 (fA a) a.length
def rB (a b : List B8) (keep : BitVec 64) : List (List B8) := settled (bitK keep) (rA a) (fA b) b.length
theorem z40_len : z40.length = 40 := (rfl)
theorem rA_len (a : List B8) : (rA a).length = 40 := settled_len ..
theorem rB_len (a b : List B8) (keep : BitVec 64) : (rB a b keep).length = 40 := by unfold rB; rw [settled_len, rA_len]
theorem rA_siz (a : List B8) : sizR (rA a) = some 64 := by
  have e : ∃ b r, rA a = b :: r ∧ b.length = 64 := by
    refine ⟨if 0 < a.length ∧ true = true then fA a 0 else z40.getD 0 [], _, rfl, ?_⟩
    split
    · exact row1_len _
    · rfl
  obtain ⟨b, r, e1, e2⟩ := e
  rw [e1]; simp only [sizR, e2]; rfl
theorem sub_hp {fr fr' : List (Nat × AV)} {hp hp' : H} {n n' cx cx' : Nat} (h1 : fr = fr') (h2 : ∀ j o, hp j = some o → hp' j = some o) (h3 : cx' ≤ cx) : Sub { fr := fr, hp := hp, nx := n, cx := cx } { fr := fr', hp := hp', nx := n', cx := cx' } := ⟨fun _ => .inr (by rw [h1]), h2, h3⟩
theorem at_dC (rows : List (List B8)) (f : Nat → List B8) (k : Nat) (hk : k < rows.length) : atV (dC rows f 0) k = 0 := by
  unfold atV; rw [if_neg (by simp [dC]), if_neg (by simp only [dC]; omega)]
theorem row1_0 (c : B8) : (row1 c).getD 0 0#8 = c := (rfl)
theorem d64b : decide (((64 : Nat) : Int) = 64) = true := (rfl)
theorem settled_get (kept : Nat → Bool) (rows : List (List B8)) (f : Nat → List B8) (n k : Nat) (hk : k < rows.length) : (settled kept rows f n)[k]? = some (if k < n ∧ kept k = true then f k else rows.getD k []) := by
  unfold settled
  rw [List.getElem?_map, List.getElem?_range hk]; rfl
theorem rB_get (a b : List B8) (keep : BitVec 64) (k : Nat) (hk : k < 40) : (rB a b keep)[k]? = some (row1 (if k < b.length ∧ bitK keep k = true then b.getD k 0#8 else if k < a.length then a.getD k 0#8 else 0#8)) := by
  unfold rB
  rw [settled_get _ _ _ _ _ (by rw [rA_len]; exact hk)]
  congr 1
  split
  · rfl
  · rw [List.getD_eq_getElem?_getD]
    unfold rA
    rw [settled_get _ _ _ _ _ (by rw [z40_len]; exact hk), Option.getD_some]
    by_cases h : k < a.length
    · rw [if_pos ⟨h, rfl⟩, if_pos h]; rfl
    · rw [if_neg (fun q => h q.1), if_neg h, List.getD_eq_getElem?_getD]
      unfold z40
      rw [List.getElem?_replicate, if_pos hk]; rfl
set_option maxHeartbeats 4000000 in
theorem sure_ok : PureOK Try.prog GLh 4 sureG := by
  refine pure_of_awp Try.func4 (bodyOf_some rfl) ?_
  intro args r hg
  unfold sureG at hg
  split at hg
  · rename_i n xs m ys keep
    replace hg := obind_inv hg; obtain ⟨a, ha, hg⟩ := hg
    replace hg := obind_inv hg; obtain ⟨b, hb, hg⟩ := hg
    replace hg := guardO_inv hg; obtain ⟨⟨rfl, rfl⟩, hg⟩ := hg
    obtain rfl := Option.some.inj hg
    have := unW8_inv ha
    change xs = c8 a at this
    subst this
    have := unW8_inv hb
    change ys = c8 b at this
    subst this
    clear ha hb
    refine ⟨Nat.le_of_ble_eq_true rfl, fun nx => ?_⟩
    have w40 : (wit 40 1 4096).toNat = 40 := by decide
    have hn0 : nwC 40 64 = dC z40 (fA a) 0 := by
      unfold nwC zrow
      rw [w40, show (wit 64 64 4096).toNat = 64 by decide]; rfl
    refine awp_seqP rfl ?_
    refine awp_regP (Γ := noEnv) [0, 1, 2] (noEnv_ok _ _) rfl rfl rfl (fun K hK => ?_)
    simp (disch := omega) only [Try.f4, go_sem, Nat.reduceAdd, ↓reduceIte]
    refine hK _ ?_
    clear hK K
    refine nx_then ?_
    refine awp_seqP rfl ?_
    refine awp_seqP rfl ?_
    refine awp_regP (Γ := envL [(6, .pure true knG)]) [16, 0, 1, 2] (envOK_cons ok6 envOK_nil) rfl rfl rfl (fun K hK => ?_)
    simp (disch := omega) only [Try.f4, go_sem, Nat.reduceAdd, ↓reduceIte]
    refine hK _ ?_
    clear hK K
    refine nx_then ?_
    refine awp_ifB (.tmp 16) rfl rfl rfl (fun h => ?_) (fun h => ?_)
    · skip
      refine awp_drop rfl ?_
      cases h
    · skip
      refine awp_drop rfl ?_
      refine awp_skipP rfl ?_
      refine nx_then ?_
      refine awp_seqP rfl ?_
      refine awp_seqP rfl ?_
      by_cases ha : 40 < a.length
      · skip
        have hd1 : decide (40 < (a.length : Int)) = true := decide_eq_true (by omega)
        refine awp_regP (Γ := noEnv) [24, 0, 1, 2] (noEnv_ok _ _) rfl rfl rfl (fun K hK => ?_)
        simp (disch := omega) only [Try.f4, go_sem, Nat.reduceAdd, ↓reduceIte, hd1]
        refine hK _ ?_
        clear hK K
        refine nx_then ?_
        refine awp_ifB (.tmp 24) rfl rfl rfl (fun h => ?_) (fun h => ?_)
        · skip
          refine awp_drop rfl ?_
          refine awp_seqP rfl ?_
          refine awp_regP (Γ := noEnv) [6] (noEnv_ok _ _) rfl rfl rfl (fun K hK => ?_)
          simp (disch := omega) only [Try.f4, go_sem, ↓reduceIte]
          refine hK _ ?_
          clear hK K
          refine nx_then ?_
          refine awp_retP rfl ?_
          refine nx_ret_then ?_
          simp (disch := omega) only [pureQ, resA, resAL, resA1, Try.f4, go_sem, ↓reduceIte]
        · skip
          refine awp_drop rfl ?_
          cases h
      · skip
        have hd1 : decide (40 < (a.length : Int)) = false := decide_eq_false (by omega)
        refine awp_regP (Γ := noEnv) [24, 0, 1, 2] (noEnv_ok _ _) rfl rfl rfl (fun K hK => ?_)
        simp (disch := omega) only [Try.f4, go_sem, Nat.reduceAdd, reduceCtorEq, ↓reduceIte, hd1]
        refine hK _ ?_
        clear hK K
        refine nx_then ?_
        refine awp_ifD (.tmp 24) rfl rfl rfl (fun h => ?_) (fun h => ?_)
        · skip
          refine awp_drop rfl ?_
          refine awp_seqP rfl ?_
          refine awp_regP (Γ := noEnv) [6] (noEnv_ok _ _) rfl rfl rfl (fun K hK => ?_)
          simp (disch := omega) only [Try.f4, go_sem, ↓reduceIte]
          refine hK _ ?_
          clear hK K
          refine nx_then ?_
          refine awp_retP rfl ?_
          refine nx_ret_then ?_
          simp (disch := omega) only [pureQ, resA, resAL, resA1, Try.f4, go_sem, ↓reduceIte]
        · skip
          refine awp_drop rfl ?_
          have hb : b.length ≤ 40 := by omega
          have ha' : a.length ≤ 40 := by omega
          refine awp_skipP rfl ?_
          refine nx_then ?_
          refine awp_seqP rfl ?_
          refine awp_regP (Γ := envL [(7, .heap newG)]) [0, 1, 2, 7] (envOK_cons ok7 envOK_nil) rfl rfl rfl (fun K hK => ?_)
          simp (disch := omega) only [Try.f4, go_sem, Nat.reduceAdd, Nat.reduceMul, ↓reduceIte, w40, hn0]
          refine hK _ ?_
          clear hK K
          refine nx_then ?_
          refine awp_seqP rfl ?_
          refine awp_regP (Γ := noEnv) [0, 1, 2, 7, 8] (noEnv_ok _ _) rfl rfl rfl (fun K hK => ?_)
          simp (disch := omega) only [Try.f4, go_sem, Nat.reduceAdd, Nat.reduceLT, Int.reduceLE, Int.reduceToNat, ↓reduceIte, rep64]
          refine hK _ ?_
          clear hK K
          refine nx_then ?_
          refine awp_seqP rfl ?_
          refine awp_seqP rfl ?_
          refine awp_regP (Γ := noEnv) [0, 1, 2, 7, 8, 9] (noEnv_ok _ _) rfl rfl rfl (fun K hK => ?_)
          simp (disch := omega) only [Try.f4, go_sem, ↓reduceIte]
          refine hK _ ?_
          clear hK K
          refine nx_then ?_
          refine awp_blockN 0 rfl rfl ?_
          refine awp_loopP (fun p : KB => { fr := [(0, .sl a.length (c8 a)), (1, .sl b.length (c8 b)), (2, .w64 keep), (7, .op (nx + 16) 0), (8, .os (nx + 703) 0 64 1 true), (9, .i p.k)], hp := setD (nx + 16) (nx + 656) (nx + 14) (dC z40 (fA a) p.k) (upd (fun _ => none) (nx + 703) (.cells (c8 (row1 p.c)) true)), nx := 0, cx := nx + 800 + 500 * p.k }) (fun p => p.k ≤ a.length) (fun p => a.length - p.k) rfl ⟨⟨0, 0#8⟩, Nat.zero_le _, sub_same (by simp only [Nat.add_assoc, Nat.reduceAdd]; rfl) (by simp only [Nat.add_assoc, Nat.reduceAdd, row1_z]) (by simp only; omega)⟩ ?_
          rintro ⟨k, c⟩ hk n0
          simp only at hk ⊢
          refine awp_seqP rfl ?_
          refine awp_seqP rfl ?_
          refine awp_regP (Γ := noEnv) [30, 0, 1, 2, 7, 8, 9] (noEnv_ok _ _) rfl rfl rfl (fun K hK => ?_)
          simp (disch := omega) only [Try.f4, go_sem, Nat.reduceAdd, ↓reduceIte]
          refine hK _ ?_
          clear hK K
          refine nx_then ?_
          refine awp_ifD (.tmp 30) rfl rfl rfl (fun h => ?_) (fun h => ?_)
          · skip
            refine awp_drop rfl ?_
            have hk40 : k < z40.length := by rw [z40_len]; omega
            have hwr := dC_wr (rows := z40) (f := fA a) (k := k) (b := row1 (a.getD k 0#8)) hk40 (row1_len _) rfl
            have hsz : sizR (dC z40 (fA a) k).rows = some 64 := rfl
            refine awp_skipP rfl ?_
            refine nx_then ?_
            refine awp_seqP rfl ?_
            refine awp_blockN 1 rfl rfl ?_
            refine awp_seqP rfl ?_
            refine awp_regP (Γ := noEnv) [0, 1, 2, 7, 8, 9] (noEnv_ok _ _) rfl rfl rfl (fun K hK => ?_)
            simp (disch := omega) only [Try.f4, go_sem, Nat.reduceAdd, Nat.reduceLeDiff, Int.reduceLE, Int.reduceToNat, ↓reduceIte, Nat.mul_one, Nat.zero_add, Int.toNat_natCast, storeL_1, c8_len, row1_len, row1_set]
            refine hK _ ?_
            clear hK K
            refine nx_then ?_
            refine awp_regP (Γ := envL [(10, .heap wrG)]) [0, 1, 2, 7, 8, 9] (envOK_cons ok10 envOK_nil) rfl rfl rfl (fun K hK => ?_)
            simp (disch := omega) only [Try.f4, go_sem, Nat.reduceAdd, Nat.reduceLeDiff, Int.reduceLE, Int.reduceLT, ↓reduceIte, hsz, hwr, row1_len, row1_take, List.drop_zero]
            refine hK _ ?_
            clear hK K
            refine nx_blk (nx_then ?_)
            refine awp_regP (Γ := noEnv) [0, 1, 2, 7, 8, 9] (noEnv_ok _ _) rfl rfl rfl (fun K hK => ?_)
            simp (disch := omega) only [Try.f4, go_sem, Nat.reduceAdd, ↓reduceIte]
            refine hK _ ?_
            clear hK K
            refine nx_loop ?_
            refine ⟨⟨k + 1, a.getD k 0#8⟩, by simp only; omega, by simp only; omega, sub_same (by simp only [Int.natCast_add, Int.natCast_one]) rfl (by simp only; omega)⟩
          · skip
            refine awp_drop rfl ?_
            refine awp_exitN 0 rfl rfl ?_
            refine nx_ex_then (nx_ex_loop (nx_ex_blk ?_))
            refine nx_then ?_
            refine awp_seqP rfl ?_
            obtain rfl : k = a.length := by omega
            have hok := dC_ok (rows := z40) (f := fA a) (n := a.length) (by rw [z40_len]; omega)
            have hl1 : (dC z40 (fA a) a.length).rows.length = 40 := rfl
            have hl2 : (dC z40 (fA a) a.length).dirty.length = a.length := dl_len ..
            have hsy : synV (dC z40 (fA a) a.length) = (0, dC (rA a) (fA b) 0) := dC_syn (by rw [z40_len]; omega)
            refine awp_regP (Γ := envL [(11, .heap synG)]) [0, 1, 2, 7, 8] (envOK_cons ok11 envOK_nil) rfl rfl rfl (fun K hK => ?_)
            simp (disch := omega) only [Try.f4, go_sem, Nat.reduceAdd, Nat.reduceLeDiff, ↓reduceIte, hok, hl1, hl2, hsy]
            refine hK _ ?_
            clear hK K
            refine nx_then ?_
            refine awp_seqP rfl ?_
            refine awp_seqP rfl ?_
            refine awp_regP (Γ := noEnv) [0, 1, 2, 7, 8, 10] (noEnv_ok _ _) rfl rfl rfl (fun K hK => ?_)
            simp (disch := omega) only [Try.f4, go_sem, ↓reduceIte]
            refine hK _ ?_
            clear hK K
            refine nx_then ?_
            clear hk h
            refine awp_blockN 2 rfl rfl ?_
            refine awp_loopP (fun p : KB => { fr := [(0, .sl a.length (c8 a)), (1, .sl b.length (c8 b)), (2, .w64 keep), (7, .op (nx + 16) 0), (8, .os (nx + 703) 0 64 1 true), (10, .i p.k)], hp := setD (nx + 16) (nx + 656) (nx + 14) (dC (rA a) (fA b) p.k) (upd (fun _ => none) (nx + 703) (.cells (c8 (row1 p.c)) true)), nx := 0, cx := nx + 2000 + 600 * a.length + 500 * p.k }) (fun p => p.k ≤ b.length) (fun p => b.length - p.k) rfl ⟨⟨0, c⟩, Nat.zero_le _, sub_same rfl rfl (by simp only; omega)⟩ ?_
            rintro ⟨k, c⟩ hk n0
            simp only at hk ⊢
            refine awp_seqP rfl ?_
            refine awp_seqP rfl ?_
            refine awp_regP (Γ := noEnv) [48, 0, 1, 2, 7, 8, 10] (noEnv_ok _ _) rfl rfl rfl (fun K hK => ?_)
            simp (disch := omega) only [Try.f4, go_sem, Nat.reduceAdd, ↓reduceIte]
            refine hK _ ?_
            clear hK K
            refine nx_then ?_
            refine awp_ifD (.tmp 48) rfl rfl rfl (fun h => ?_) (fun h => ?_)
            · skip
              refine awp_drop rfl ?_
              have hk40 : k < (rA a).length := by rw [rA_len]; omega
              have hwr := dC_wr (rows := rA a) (f := fA b) (k := k) (b := row1 (b.getD k 0#8)) hk40 (row1_len _) rfl
              have hsz : sizR (dC (rA a) (fA b) k).rows = some 64 := rA_siz a
              refine awp_skipP rfl ?_
              refine nx_then ?_
              refine awp_seqP rfl ?_
              refine awp_blockN 3 rfl rfl ?_
              refine awp_seqP rfl ?_
              refine awp_regP (Γ := noEnv) [0, 1, 2, 7, 8, 10] (noEnv_ok _ _) rfl rfl rfl (fun K hK => ?_)
              simp (disch := omega) only [Try.f4, go_sem, Nat.reduceAdd, Nat.reduceLeDiff, Int.reduceLE, Int.reduceToNat, ↓reduceIte, Nat.mul_one, Nat.zero_add, Int.toNat_natCast, storeL_1, c8_len, row1_len, row1_set]
              refine hK _ ?_
              clear hK K
              refine nx_then ?_
              refine awp_regP (Γ := envL [(10, .heap wrG)]) [0, 1, 2, 7, 8, 10] (envOK_cons ok10 envOK_nil) rfl rfl rfl (fun K hK => ?_)
              simp (disch := omega) only [Try.f4, go_sem, Nat.reduceAdd, Nat.reduceLeDiff, Int.reduceLE, Int.reduceLT, ↓reduceIte, hsz, hwr, row1_len, row1_take, List.drop_zero]
              refine hK _ ?_
              clear hK K
              refine nx_blk (nx_then ?_)
              refine awp_regP (Γ := noEnv) [0, 1, 2, 7, 8, 10] (noEnv_ok _ _) rfl rfl rfl (fun K hK => ?_)
              simp (disch := omega) only [Try.f4, go_sem, Nat.reduceAdd, ↓reduceIte]
              refine hK _ ?_
              clear hK K
              refine nx_loop ?_
              refine ⟨⟨k + 1, b.getD k 0#8⟩, by simp only; omega, by simp only; omega, sub_same (by simp only [Int.natCast_add, Int.natCast_one]) rfl (by simp only; omega)⟩
            · skip
              refine awp_drop rfl ?_
              refine awp_exitN 2 rfl rfl ?_
              refine nx_ex_then (nx_ex_loop (nx_ex_blk ?_))
              refine nx_then ?_
              refine awp_seqP rfl ?_
              obtain rfl : k = b.length := by omega
              have hok := dC_ok (rows := rA a) (f := fA b) (n := b.length) (by rw [rA_len]; omega)
              have hl1 : (dC (rA a) (fA b) b.length).rows.length = 40 := rA_len a
              have hl2 : (dC (rA a) (fA b) b.length).dirty.length = b.length := dl_len ..
              have hcr : craC keep (dC (rA a) (fA b) b.length) = dC (rB a b keep) (fA b) 0 := dC_cra keep (by rw [rA_len]; omega)
              refine awp_regP (Γ := envL [(12, .heap craG)]) [0, 1, 2, 7] (envOK_cons ok12 envOK_nil) rfl rfl rfl (fun K hK => ?_)
              simp (disch := omega) only [Try.f4, go_sem, Nat.reduceAdd, Nat.reduceLeDiff, ↓reduceIte, hok, hl1, hl2, hcr]
              refine hK _ ?_
              clear hK K
              refine nx_then ?_
              refine awp_seqP rfl ?_
              refine awp_seqP rfl ?_
              refine awp_regP (Γ := noEnv) [0, 1, 2, 7, 11] (noEnv_ok _ _) rfl rfl rfl (fun K hK => ?_)
              simp (disch := omega) only [Try.f4, go_sem, ↓reduceIte]
              refine hK _ ?_
              clear hK K
              refine nx_then ?_
              clear hk h
              refine awp_blockN 4 rfl rfl ?_
              refine awp_loopP (fun k : Nat => { fr := [(0, .sl a.length (c8 a)), (1, .sl b.length (c8 b)), (2, .w64 keep), (7, .op (nx + 16) 0), (11, .i k)], hp := setD (nx + 16) (nx + 656) (nx + 14) (dC (rB a b keep) (fA b) 0) (fun _ => none), nx := 0, cx := nx + 4000 + 600 * a.length + 600 * b.length + 500 * k }) (fun k => k ≤ 40) (fun k => 40 - k) rfl ⟨0, Nat.zero_le _, sub_hp rfl (fun j o hj => setD_mono (fun j o h => by cases h) j o hj) (by omega)⟩ ?_
              rintro k hk n0
              simp only at hk ⊢
              refine awp_seqP rfl ?_
              refine awp_seqP rfl ?_
              refine awp_regP (Γ := noEnv) [65, 0, 1, 2, 7, 11] (noEnv_ok _ _) rfl rfl rfl (fun K hK => ?_)
              simp (disch := omega) only [Try.f4, go_sem, Nat.reduceAdd, ↓reduceIte]
              refine hK _ ?_
              clear hK K
              refine nx_then ?_
              refine awp_ifD (.tmp 65) rfl rfl rfl (fun h => ?_) (fun h => ?_)
              · skip
                refine awp_drop rfl ?_
                have hk40 : k < 40 := by omega
                have hrow := rB_get a b keep k hk40
                have at0 := at_dC (rB a b keep) (fA b) k (by rw [rB_len]; omega)
                have gk0 : getK (k : Int) (dC (rB a b keep) (fA b) 0).dirty = none := rfl
                refine awp_skipP rfl ?_
                refine nx_then ?_
                refine awp_seqP rfl ?_
                refine awp_blockN 5 rfl rfl ?_
                refine awp_seqP rfl ?_
                refine awp_regP (Γ := noEnv) [0, 1, 2, 7, 11, 12] (noEnv_ok _ _) rfl rfl rfl (fun K hK => ?_)
                simp (disch := omega) only [Try.f4, go_sem, Int.reduceLE, Int.reduceLT, BitVec.reduceOfInt, ↓reduceIte]
                refine hK _ ?_
                clear hK K
                refine nx_then ?_
                refine awp_seqP rfl ?_
                refine awp_seqP rfl ?_
                refine awp_regP (Γ := noEnv) [71, 0, 1, 2, 7, 11, 12] (noEnv_ok _ _) rfl rfl rfl (fun K hK => ?_)
                simp (disch := omega) only [Try.f4, go_sem, Nat.reduceAdd, ↓reduceIte]
                refine hK _ ?_
                clear hK K
                refine nx_then ?_
                refine awp_ifD (.tmp 71) rfl rfl rfl (fun h => ?_) (fun h => ?_)
                · skip
                  refine awp_drop rfl ?_
                  have hka : k < a.length := by omega
                  refine awp_regP (Γ := noEnv) [0, 1, 2, 7, 11, 12] (noEnv_ok _ _) rfl rfl rfl (fun K hK => ?_)
                  simp (disch := omega) only [Try.f4, go_sem, Nat.reduceAdd, ↓reduceIte, Int.toNat_natCast, Nat.zero_add, Nat.mul_one]
                  refine hK _ ?_
                  clear hK K
                  refine nx_then ?_
                  by_cases hkb : k < b.length
                  · skip
                    have hb2 : decide ((k : Int) < (b.length : Int)) = true := decide_eq_true (by omega)
                    obtain ⟨bb, hbit⟩ : ∃ bb, decide (keep >>> k &&& 1#64 = 1#64) = bb := ⟨_, rfl⟩
                    have hbk : bitK keep k = bb := by rw [← hbit]; unfold bitK; rw [Nat.mod_eq_of_lt (by omega)]
                    cases bb
                    · skip
                      refine awp_seqP rfl ?_
                      refine awp_seqP rfl ?_
                      refine awp_regP (Γ := noEnv) [86, 0, 1, 2, 7, 11, 12] (noEnv_ok _ _) rfl rfl rfl (fun K hK => ?_)
                      simp (disch := omega) only [Try.f4, go_sem, Nat.reduceAdd, Int.reduceLE, Int.reduceLT, BitVec.reduceOfInt, ↓reduceIte, hb2, hbit, Int.toNat_natCast]
                      refine hK _ ?_
                      clear hK K
                      refine nx_then ?_
                      refine awp_ifB (.tmp 86) rfl rfl rfl (fun h => ?_) (fun h => ?_)
                      · skip
                        refine awp_drop rfl ?_
                        cases h
                      · skip
                        refine awp_drop rfl ?_
                        have hr2 : (rB a b keep)[k]? = some (row1 (a.getD k 0#8)) := by rw [hrow]; simp [*]
                        have hr3 : (dC (rB a b keep) (fA b) 0).rows[k]? = some (row1 (a.getD k 0#8)) := hr2
                        refine awp_skipP rfl ?_
                        refine nx_then ?_
                        refine awp_seqP rfl ?_
                        refine awp_regP (Γ := envL [(13, .heap rdG)]) [0, 1, 2, 7, 11, 12, 13, 14] (envOK_cons ok13 envOK_nil) rfl rfl rfl (fun K hK => ?_)
                        simp (disch := omega) only [Try.f4, go_sem, Nat.reduceAdd, Nat.reduceLeDiff, ↓reduceIte, at0, gk0, hr3, row1_len]
                        refine hK _ ?_
                        clear hK K
                        refine nx_then ?_
                        refine awp_seqP rfl ?_
                        refine awp_regP (Γ := noEnv) [110, 0, 1, 2, 7, 11] (noEnv_ok _ _) rfl rfl rfl (fun K hK => ?_)
                        simp (disch := omega) only [Try.f4, go_sem, Nat.reduceAdd, Int.reduceLE, Int.reduceToNat, reduceCtorEq, ↓reduceIte, eq_self, decide_true, Bool.not_true, d64b, List.drop_zero, Nat.zero_add]
                        refine hK _ ?_
                        clear hK K
                        refine nx_then ?_
                        refine awp_ifB (.tmp 110) rfl rfl rfl (fun h => ?_) (fun h => ?_)
                        · skip
                          refine awp_drop rfl ?_
                          simp at h
                        · skip
                          refine awp_drop rfl ?_
                          refine awp_skipP rfl ?_
                          refine nx_blk (nx_then ?_)
                          refine awp_regP (Γ := noEnv) [0, 1, 2, 7, 11] (noEnv_ok _ _) rfl rfl rfl (fun K hK => ?_)
                          simp (disch := omega) only [Try.f4, go_sem, Nat.reduceAdd, reduceCtorEq, ↓reduceIte]
                          refine hK _ ?_
                          clear hK K
                          refine nx_loop ?_
                          refine ⟨k + 1, by omega, by omega, sub_hp (by simp only [Int.natCast_add, Int.natCast_one]) (fun j o hj => setD_mono (fun j o h => by cases h) j o hj) (by omega)⟩
                    · skip
                      refine awp_seqP rfl ?_
                      refine awp_seqP rfl ?_
                      refine awp_regP (Γ := noEnv) [86, 0, 1, 2, 7, 11, 12] (noEnv_ok _ _) rfl rfl rfl (fun K hK => ?_)
                      simp (disch := omega) only [Try.f4, go_sem, Nat.reduceAdd, Int.reduceLE, Int.reduceLT, BitVec.reduceOfInt, ↓reduceIte, hb2, hbit, Int.toNat_natCast]
                      refine hK _ ?_
                      clear hK K
                      refine nx_then ?_
                      refine awp_ifB (.tmp 86) rfl rfl rfl (fun h => ?_) (fun h => ?_)
                      · skip
                        refine awp_drop rfl ?_
                        refine awp_regP (Γ := noEnv) [0, 1, 2, 7, 11, 12] (noEnv_ok _ _) rfl rfl rfl (fun K hK => ?_)
                        simp (disch := omega) only [Try.f4, go_sem, Nat.reduceAdd, ↓reduceIte]
                        refine hK _ ?_
                        clear hK K
                        refine nx_then ?_
                        have hr2 : (rB a b keep)[k]? = some (row1 (b.getD k 0#8)) := by rw [hrow]; simp [*]
                        have hr3 : (dC (rB a b keep) (fA b) 0).rows[k]? = some (row1 (b.getD k 0#8)) := hr2
                        refine awp_seqP rfl ?_
                        refine awp_regP (Γ := envL [(13, .heap rdG)]) [0, 1, 2, 7, 11, 12, 13, 14] (envOK_cons ok13 envOK_nil) rfl rfl rfl (fun K hK => ?_)
                        simp (disch := omega) only [Try.f4, go_sem, Nat.reduceAdd, Nat.reduceLeDiff, ↓reduceIte, at0, gk0, hr3, row1_len]
                        refine hK _ ?_
                        clear hK K
                        refine nx_then ?_
                        refine awp_seqP rfl ?_
                        refine awp_regP (Γ := noEnv) [110, 0, 1, 2, 7, 11] (noEnv_ok _ _) rfl rfl rfl (fun K hK => ?_)
                        simp (disch := omega) only [Try.f4, go_sem, Nat.reduceAdd, Int.reduceLE, Int.reduceToNat, reduceCtorEq, ↓reduceIte, eq_self, decide_true, Bool.not_true, d64b, List.drop_zero, Nat.zero_add]
                        refine hK _ ?_
                        clear hK K
                        refine nx_then ?_
                        refine awp_ifB (.tmp 110) rfl rfl rfl (fun h => ?_) (fun h => ?_)
                        · skip
                          refine awp_drop rfl ?_
                          simp at h
                        · skip
                          refine awp_drop rfl ?_
                          refine awp_skipP rfl ?_
                          refine nx_blk (nx_then ?_)
                          refine awp_regP (Γ := noEnv) [0, 1, 2, 7, 11] (noEnv_ok _ _) rfl rfl rfl (fun K hK => ?_)
                          simp (disch := omega) only [Try.f4, go_sem, Nat.reduceAdd, reduceCtorEq, ↓reduceIte]
                          refine hK _ ?_
                          clear hK K
                          refine nx_loop ?_
                          refine ⟨k + 1, by omega, by omega, sub_hp (by simp only [Int.natCast_add, Int.natCast_one]) (fun j o hj => setD_mono (fun j o h => by cases h) j o hj) (by omega)⟩
                      · skip
                        refine awp_drop rfl ?_
                        cases h
                  · skip
                    have hb2 : decide ((k : Int) < (b.length : Int)) = false := decide_eq_false (by omega)
                    refine awp_seqP rfl ?_
                    refine awp_seqP rfl ?_
                    refine awp_regP (Γ := noEnv) [86, 0, 1, 2, 7, 11, 12] (noEnv_ok _ _) rfl rfl rfl (fun K hK => ?_)
                    simp (disch := omega) only [Try.f4, go_sem, Nat.reduceAdd, reduceCtorEq, ↓reduceIte, hb2]
                    refine hK _ ?_
                    clear hK K
                    refine nx_then ?_
                    refine awp_ifB (.tmp 86) rfl rfl rfl (fun h => ?_) (fun h => ?_)
                    · skip
                      refine awp_drop rfl ?_
                      cases h
                    · skip
                      refine awp_drop rfl ?_
                      have hr2 : (rB a b keep)[k]? = some (row1 (a.getD k 0#8)) := by rw [hrow]; simp [*]
                      have hr3 : (dC (rB a b keep) (fA b) 0).rows[k]? = some (row1 (a.getD k 0#8)) := hr2
                      refine awp_skipP rfl ?_
                      refine nx_then ?_
                      refine awp_seqP rfl ?_
                      refine awp_regP (Γ := envL [(13, .heap rdG)]) [0, 1, 2, 7, 11, 12, 13, 14] (envOK_cons ok13 envOK_nil) rfl rfl rfl (fun K hK => ?_)
                      simp (disch := omega) only [Try.f4, go_sem, Nat.reduceAdd, Nat.reduceLeDiff, ↓reduceIte, at0, gk0, hr3, row1_len]
                      refine hK _ ?_
                      clear hK K
                      refine nx_then ?_
                      refine awp_seqP rfl ?_
                      refine awp_regP (Γ := noEnv) [110, 0, 1, 2, 7, 11] (noEnv_ok _ _) rfl rfl rfl (fun K hK => ?_)
                      simp (disch := omega) only [Try.f4, go_sem, Nat.reduceAdd, Int.reduceLE, Int.reduceToNat, reduceCtorEq, ↓reduceIte, eq_self, decide_true, Bool.not_true, d64b, List.drop_zero, Nat.zero_add]
                      refine hK _ ?_
                      clear hK K
                      refine nx_then ?_
                      refine awp_ifB (.tmp 110) rfl rfl rfl (fun h => ?_) (fun h => ?_)
                      · skip
                        refine awp_drop rfl ?_
                        simp at h
                      · skip
                        refine awp_drop rfl ?_
                        refine awp_skipP rfl ?_
                        refine nx_blk (nx_then ?_)
                        refine awp_regP (Γ := noEnv) [0, 1, 2, 7, 11] (noEnv_ok _ _) rfl rfl rfl (fun K hK => ?_)
                        simp (disch := omega) only [Try.f4, go_sem, Nat.reduceAdd, reduceCtorEq, ↓reduceIte]
                        refine hK _ ?_
                        clear hK K
                        refine nx_loop ?_
                        refine ⟨k + 1, by omega, by omega, sub_hp (by simp only [Int.natCast_add, Int.natCast_one]) (fun j o hj => setD_mono (fun j o h => by cases h) j o hj) (by omega)⟩
                · skip
                  refine awp_drop rfl ?_
                  have hka : ¬ k < a.length := by omega
                  refine awp_skipP rfl ?_
                  refine nx_then ?_
                  refine awp_seqP rfl ?_
                  refine awp_seqP rfl ?_
                  by_cases hkb : k < b.length
                  · skip
                    have hb2 : decide ((k : Int) < (b.length : Int)) = true := decide_eq_true (by omega)
                    obtain ⟨bb, hbit⟩ : ∃ bb, decide (keep >>> k &&& 1#64 = 1#64) = bb := ⟨_, rfl⟩
                    have hbk : bitK keep k = bb := by rw [← hbit]; unfold bitK; rw [Nat.mod_eq_of_lt (by omega)]
                    cases bb
                    · skip
                      refine awp_regP (Γ := noEnv) [86, 0, 1, 2, 7, 11, 12] (noEnv_ok _ _) rfl rfl rfl (fun K hK => ?_)
                      simp (disch := omega) only [Try.f4, go_sem, Nat.reduceAdd, Int.reduceLE, Int.reduceLT, BitVec.reduceOfInt, ↓reduceIte, hb2, hbit, Int.toNat_natCast]
                      refine hK _ ?_
                      clear hK K
                      refine nx_then ?_
                      refine awp_ifB (.tmp 86) rfl rfl rfl (fun h => ?_) (fun h => ?_)
                      · skip
                        refine awp_drop rfl ?_
                        cases h
                      · skip
                        refine awp_drop rfl ?_
                        have hr2 : (rB a b keep)[k]? = some (row1 (0#8)) := by rw [hrow]; simp [*]
                        have hr3 : (dC (rB a b keep) (fA b) 0).rows[k]? = some (row1 (0#8)) := hr2
                        refine awp_skipP rfl ?_
                        refine nx_then ?_
                        refine awp_seqP rfl ?_
                        refine awp_regP (Γ := envL [(13, .heap rdG)]) [0, 1, 2, 7, 11, 12, 13, 14] (envOK_cons ok13 envOK_nil) rfl rfl rfl (fun K hK => ?_)
                        simp (disch := omega) only [Try.f4, go_sem, Nat.reduceAdd, Nat.reduceLeDiff, ↓reduceIte, at0, gk0, hr3, row1_len]
                        refine hK _ ?_
                        clear hK K
                        refine nx_then ?_
                        refine awp_seqP rfl ?_
                        refine awp_regP (Γ := noEnv) [110, 0, 1, 2, 7, 11] (noEnv_ok _ _) rfl rfl rfl (fun K hK => ?_)
                        simp (disch := omega) only [Try.f4, go_sem, Nat.reduceAdd, Int.reduceLE, Int.reduceToNat, reduceCtorEq, ↓reduceIte, eq_self, decide_true, Bool.not_true, d64b, List.drop_zero, Nat.zero_add]
                        refine hK _ ?_
                        clear hK K
                        refine nx_then ?_
                        refine awp_ifB (.tmp 110) rfl rfl rfl (fun h => ?_) (fun h => ?_)
                        · skip
                          refine awp_drop rfl ?_
                          simp at h
                        · skip
                          refine awp_drop rfl ?_
                          refine awp_skipP rfl ?_
                          refine nx_blk (nx_then ?_)
                          refine awp_regP (Γ := noEnv) [0, 1, 2, 7, 11] (noEnv_ok _ _) rfl rfl rfl (fun K hK => ?_)
                          simp (disch := omega) only [Try.f4, go_sem, Nat.reduceAdd, reduceCtorEq, ↓reduceIte]
                          refine hK _ ?_
                          clear hK K
                          refine nx_loop ?_
                          refine ⟨k + 1, by omega, by omega, sub_hp (by simp only [Int.natCast_add, Int.natCast_one]) (fun j o hj => setD_mono (fun j o h => by cases h) j o hj) (by omega)⟩
                    · skip
                      refine awp_regP (Γ := noEnv) [86, 0, 1, 2, 7, 11, 12] (noEnv_ok _ _) rfl rfl rfl (fun K hK => ?_)
                      simp (disch := omega) only [Try.f4, go_sem, Nat.reduceAdd, Int.reduceLE, Int.reduceLT, BitVec.reduceOfInt, ↓reduceIte, hb2, hbit, Int.toNat_natCast]
                      refine hK _ ?_
                      clear hK K
                      refine nx_then ?_
                      refine awp_ifB (.tmp 86) rfl rfl rfl (fun h => ?_) (fun h => ?_)
                      · skip
                        refine awp_drop rfl ?_
                        refine awp_regP (Γ := noEnv) [0, 1, 2, 7, 11, 12] (noEnv_ok _ _) rfl rfl rfl (fun K hK => ?_)
                        simp (disch := omega) only [Try.f4, go_sem, Nat.reduceAdd, ↓reduceIte]
                        refine hK _ ?_
                        clear hK K
                        refine nx_then ?_
                        have hr2 : (rB a b keep)[k]? = some (row1 (b.getD k 0#8)) := by rw [hrow]; simp [*]
                        have hr3 : (dC (rB a b keep) (fA b) 0).rows[k]? = some (row1 (b.getD k 0#8)) := hr2
                        refine awp_seqP rfl ?_
                        refine awp_regP (Γ := envL [(13, .heap rdG)]) [0, 1, 2, 7, 11, 12, 13, 14] (envOK_cons ok13 envOK_nil) rfl rfl rfl (fun K hK => ?_)
                        simp (disch := omega) only [Try.f4, go_sem, Nat.reduceAdd, Nat.reduceLeDiff, ↓reduceIte, at0, gk0, hr3, row1_len]
                        refine hK _ ?_
                        clear hK K
                        refine nx_then ?_
                        refine awp_seqP rfl ?_
                        refine awp_regP (Γ := noEnv) [110, 0, 1, 2, 7, 11] (noEnv_ok _ _) rfl rfl rfl (fun K hK => ?_)
                        simp (disch := omega) only [Try.f4, go_sem, Nat.reduceAdd, Int.reduceLE, Int.reduceToNat, reduceCtorEq, ↓reduceIte, eq_self, decide_true, Bool.not_true, d64b, List.drop_zero, Nat.zero_add]
                        refine hK _ ?_
                        clear hK K
                        refine nx_then ?_
                        refine awp_ifB (.tmp 110) rfl rfl rfl (fun h => ?_) (fun h => ?_)
                        · skip
                          refine awp_drop rfl ?_
                          simp at h
                        · skip
                          refine awp_drop rfl ?_
                          refine awp_skipP rfl ?_
                          refine nx_blk (nx_then ?_)
                          refine awp_regP (Γ := noEnv) [0, 1, 2, 7, 11] (noEnv_ok _ _) rfl rfl rfl (fun K hK => ?_)
                          simp (disch := omega) only [Try.f4, go_sem, Nat.reduceAdd, reduceCtorEq, ↓reduceIte]
                          refine hK _ ?_
                          clear hK K
                          refine nx_loop ?_
                          refine ⟨k + 1, by omega, by omega, sub_hp (by simp only [Int.natCast_add, Int.natCast_one]) (fun j o hj => setD_mono (fun j o h => by cases h) j o hj) (by omega)⟩
                      · skip
                        refine awp_drop rfl ?_
                        cases h
                  · skip
                    have hb2 : decide ((k : Int) < (b.length : Int)) = false := decide_eq_false (by omega)
                    refine awp_regP (Γ := noEnv) [86, 0, 1, 2, 7, 11, 12] (noEnv_ok _ _) rfl rfl rfl (fun K hK => ?_)
                    simp (disch := omega) only [Try.f4, go_sem, Nat.reduceAdd, reduceCtorEq, ↓reduceIte, hb2]
                    refine hK _ ?_
                    clear hK K
                    refine nx_then ?_
                    refine awp_ifB (.tmp 86) rfl rfl rfl (fun h => ?_) (fun h => ?_)
                    · skip
                      refine awp_drop rfl ?_
                      cases h
                    · skip
                      refine awp_drop rfl ?_
                      have hr2 : (rB a b keep)[k]? = some (row1 (0#8)) := by rw [hrow]; simp [*]
                      have hr3 : (dC (rB a b keep) (fA b) 0).rows[k]? = some (row1 (0#8)) := hr2
                      refine awp_skipP rfl ?_
                      refine nx_then ?_
                      refine awp_seqP rfl ?_
                      refine awp_regP (Γ := envL [(13, .heap rdG)]) [0, 1, 2, 7, 11, 12, 13, 14] (envOK_cons ok13 envOK_nil) rfl rfl rfl (fun K hK => ?_)
                      simp (disch := omega) only [Try.f4, go_sem, Nat.reduceAdd, Nat.reduceLeDiff, ↓reduceIte, at0, gk0, hr3, row1_len]
                      refine hK _ ?_
                      clear hK K
                      refine nx_then ?_
                      refine awp_seqP rfl ?_
                      refine awp_regP (Γ := noEnv) [110, 0, 1, 2, 7, 11] (noEnv_ok _ _) rfl rfl rfl (fun K hK => ?_)
                      simp (disch := omega) only [Try.f4, go_sem, Nat.reduceAdd, Int.reduceLE, Int.reduceToNat, reduceCtorEq, ↓reduceIte, eq_self, decide_true, Bool.not_true, d64b, List.drop_zero, Nat.zero_add]
                      refine hK _ ?_
                      clear hK K
                      refine nx_then ?_
                      refine awp_ifB (.tmp 110) rfl rfl rfl (fun h => ?_) (fun h => ?_)
                      · skip
                        refine awp_drop rfl ?_
                        simp at h
                      · skip
                        refine awp_drop rfl ?_
                        refine awp_skipP rfl ?_
                        refine nx_blk (nx_then ?_)
                        refine awp_regP (Γ := noEnv) [0, 1, 2, 7, 11] (noEnv_ok _ _) rfl rfl rfl (fun K hK => ?_)
                        simp (disch := omega) only [Try.f4, go_sem, Nat.reduceAdd, reduceCtorEq, ↓reduceIte]
                        refine hK _ ?_
                        clear hK K
                        refine nx_loop ?_
                        refine ⟨k + 1, by omega, by omega, sub_hp (by simp only [Int.natCast_add, Int.natCast_one]) (fun j o hj => setD_mono (fun j o h => by cases h) j o hj) (by omega)⟩
              · skip
                refine awp_drop rfl ?_
                refine awp_exitN 4 rfl rfl ?_
                refine nx_ex_then (nx_ex_loop (nx_ex_blk ?_))
                refine nx_then ?_
                refine awp_seqP rfl ?_
                refine awp_regP (Γ := noEnv) [6] (noEnv_ok _ _) rfl rfl rfl (fun K hK => ?_)
                simp (disch := omega) only [Try.f4, go_sem, ↓reduceIte]
                refine hK _ ?_
                clear hK K
                refine nx_then ?_
                refine awp_retP rfl ?_
                simp (disch := omega) only [pureQ, resA, resAL, resA1, Try.f4, go_sem, ↓reduceIte]
  · cases hg
theorem ok4 : EntOK Try.prog GLh 4 (.pure true sureG) := ⟨⟨_, Try.func4, rfl, rfl⟩, sure_ok⟩
end Go.AX
