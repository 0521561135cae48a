/-
  Hash, part L: the reference's sum, whole.
-/
import Derived.Test.YtnnkmoaipcdhnaaDoorHsK
namespace Go.AX
open Go Go.Proofs

attribute [go_sem] c8_rep c32_rep KT_len List.length_set List.length_replicate
def obr (s : List W32) : Nat → List B8
  | 0 => List.replicate 32 0#8
  | k + 1 => (obr s k).set k ((s.getD (k / 4) 0#32 >>> (24 - 8 * (k % 4))).setWidth 8)
theorem obr_len (s : List W32) (k : Nat) : (obr s k).length = 32 := by
  induction k with
  | zero => rfl
  | succ j ih => simp only [obr, List.length_set, ih]
theorem obr_ob (s : List W32) : obr s 32 = ob s 8 := by
  simp only [obr, ob, Nat.reduceMul, Nat.reduceAdd, Nat.reduceDiv, Nat.reduceMod, Nat.reduceSub, BitVec.ushiftRight_zero]
theorem list8 {s : List W32} (h : s.length = 8) : ∃ a b c d e f g i, s = [a, b, c, d, e, f, g, i] := by
  match s, h with
  | [a, b, c, d, e, f, g, i], _ => exact ⟨a, b, c, d, e, f, g, i, rfl⟩
theorem comp_eq {s : List W32} (h : s.length = 8) (bl : List B8) (v : V8) (hv : v = rnds (w64 bl 48) (v8 s) 64) :
    comp s bl = (((((((s.set 0 (s.getD 0 0#32 + v.a)).set 1 (s.getD 1 0#32 + v.c)).set 2 (s.getD 2 0#32 + v.d)).set 3 (s.getD 3 0#32 + v.e)).set 4 (s.getD 4 0#32 + v.f)).set 5 (s.getD 5 0#32 + v.g)).set 6 (s.getD 6 0#32 + v.h)).set 7 (s.getD 7 0#32 + v.i) := by
  obtain ⟨a, b, c, d, e, f, g, i, rfl⟩ := list8 h
  unfold comp
  rw [← hv]
  rfl
def refL (b : List B8) : List B8 := ob (ab S0 (padL b) ((padL b).length / 64)) 8
def refG : List AV → Option AV
  | [.sl n xs] => obind (un8 xs) fun b => guardO (b.length = n ∧ n ≤ 1000000000) (some (.agg (c8 (refL b))))
  | _ => none
theorem padL_len (b : List B8) : (padL b).length = b.length + 1 + padk b + 8 := by unfold padL; rw [padn_len, padz_len]
theorem padL_mod (b : List B8) : (padL b).length % 64 = 0 := by rw [padL_len]; unfold padk; omega
theorem set_getD {s : List W32} {i j : Nat} {x : W32} (h : i ≠ j) : (s.set i x).getD j 0#32 = s.getD j 0#32 := by simp [List.getD_eq_getElem?_getD, List.getElem?_set_ne h]
theorem padG_eq (n : Nat) (b : List B8) (h : b.length = n) (hn : n ≤ 1000000000) : padG [.sl n (c8 b)] = some ((padL b).length, 1, c8 (padL b)) := by
  show obind (un8 (c8 b)) (fun b => guardO (b.length = n ∧ n ≤ 1000000000) (some ((padL b).length, 1, c8 (padL b)))) = _
  rw [un8_c8]; exact guardO_true _ ⟨h, hn⟩
theorem nmL_c8 (l : List B8) : AV.noMem.noMemL (c8 l) = true := by
  induction l with
  | nil => rfl
  | cons x l ih => show (AV.noMem (.w8 x) && AV.noMem.noMemL (c8 l)) = true; rw [ih]; rfl
theorem nmL_c32 (l : List W32) : AV.noMem.noMemL (c32 l) = true := by
  induction l with
  | nil => rfl
  | cons x l ih => show (AV.noMem (.w32 x) && AV.noMem.noMemL (c32 l)) = true; rw [ih]; rfl
theorem tableG_eq : tableG [] = some (.agg (c32 KT)) := (rfl)
attribute [go_sem] padG_eq nmL_c8 nmL_c32 tableG_eq nat_ne List.take_of_length_le

set_option maxHeartbeats 4000000 in
theorem ref_l0 {i2 i3 i4 ip c0 nb m : Nat} {p : List B8} {o2 : AO} (hp : p.length = m) (hm : m = 64 * nb) (hbig : m ≤ 2000000000) (h23 : i2 < i3) (h34 : i3 < i4) (h4p : i4 < ip) (hpc : ip < c0) {Q : Exit → S → Prop}
    (hQ : ∀ n c, c0 ≤ c → Q .normal { fr := [(2, .op i2 0), (3, .op i3 0), (4, .op i4 0), (5, .os ip 0 m 1 true), (6, .i (64 * nb : Nat))], hp := upd (upd (upd (upd (fun _ => none) i2 o2) i4 (.cells (c32 KT) true)) ip (.cells (c8 p) true)) i3 (.cells (c32 (ab S0 p nb)) true), nx := n, cx := c }) :
    ∀ n0, Awp Tryd.prog GLh Tryd.f23.ntmps (cr (cl (cr (cr (cr (cr (bodyOf Tryd.f23))))))) { fr := [(2, .op i2 0), (3, .op i3 0), (4, .op i4 0), (5, .os ip 0 m 1 true), (6, .i 0)], hp := upd (upd (upd (upd (fun _ => none) i2 o2) i4 (.cells (c32 KT) true)) ip (.cells (c8 p) true)) i3 (.cells (c32 S0) true), nx := n0, cx := c0 } Q := by
  intro n0
  refine awp_blockN 0 rfl rfl ?_
  refine awp_loopP (fun p1 : KC => { fr := [(2, .op i2 0), (3, .op i3 0), (4, .op i4 0), (5, .os ip 0 m 1 true), (6, .i (64 * p1.k : Nat))], hp := upd (upd (upd (upd (fun _ => none) i2 o2) i4 (.cells (c32 KT) true)) ip (.cells (c8 p) true)) i3 (.cells (c32 (ab S0 p p1.k)) true), nx := 0, cx := p1.c }) (fun p1 => p1.k ≤ nb ∧ c0 ≤ p1.c) (fun p1 => nb - p1.k) rfl ⟨⟨0, c0⟩, ⟨Nat.zero_le _, Nat.le_refl _⟩, sub_same rfl rfl (Nat.le_refl _)⟩ ?_
  rintro ⟨k, c⟩ ⟨hk, hc⟩ n0
  simp only at hk hc ⊢
  have hl : (ab S0 p k).length = 8 := by rw [ab_len, S0_len]
  refine awp_seqP rfl ?_
  refine awp_seqP rfl ?_
  refine awp_regP (Γ := noEnv) [32, 2, 3, 4, 5, 6] (noEnv_ok _ _) rfl rfl rfl (fun K hK => ?_)
  simp only [Tryd.f23, bodyOf, Option.getD_some, cl, cr, rOps, lights, light, rN, List.size_toArray, List.length_cons, List.length_nil, Nat.reduceAdd, Nat.zero_add, List.map_cons, List.map_nil, Option.map_none]
  simp (maxSteps := 300000) (disch := omega) only [go_sem, Nat.reduceAdd, ↓reduceIte]
  with_reducible refine hK _ ?_
  clear hK K
  refine nx_then ?_
  refine awp_ifD (.tmp 32) rfl rfl rfl (fun h => ?_) (fun h => ?_)
  · skip
    refine awp_drop rfl ?_
    refine awp_skipP rfl ?_
    refine nx_then ?_
    refine awp_seqP rfl ?_
    refine awp_blockN 1 rfl rfl ?_
    refine awp_seqP rfl ?_
    refine awp_regP (Γ := noEnv) [2, 3, 4, 5, 6, 7] (noEnv_ok _ _) rfl rfl rfl (fun K hK => ?_)
    simp only [Tryd.f23, bodyOf, Option.getD_some, cl, cr, rOps, lights, light, rN, List.size_toArray, List.length_cons, List.length_nil, Nat.zero_add, List.map_cons, List.map_nil, Option.map_none]
    simp (maxSteps := 300000) (disch := omega) only [go_sem, ↓reduceIte]
    with_reducible refine hK _ ?_
    clear hK K
    refine nx_then ?_
    refine awp_seqP rfl ?_
    refine awp_seqP rfl ?_
    refine awp_regP (Γ := noEnv) [2, 3, 4, 5, 6, 7, 8] (noEnv_ok _ _) rfl rfl rfl (fun K hK => ?_)
    simp only [Tryd.f23, bodyOf, Option.getD_some, cl, cr, rOps, lights, light, rN, List.size_toArray, List.length_cons, List.length_nil, Nat.zero_add, List.map_cons, List.map_nil, Option.map_none]
    simp (maxSteps := 300000) (disch := omega) only [go_sem, ↓reduceIte]
    with_reducible refine hK _ ?_
    clear hK K
    refine nx_then ?_
    refine ref_l1 (p := p) (mt := true) (c1 := c + 100) (by simp only [upd_apply, if_neg (show ¬ ip = i3 by omega), if_pos]) (by omega) hp hbig (by omega) (by omega) (by omega) (by omega) (fun n1 z1 z2 z3 => ?_) _
    refine nx_then ?_
    refine awp_seqP rfl ?_
    refine awp_seqP rfl ?_
    refine awp_regP (Γ := noEnv) [2, 3, 4, 5, 6, 7, 9] (noEnv_ok _ _) rfl rfl rfl (fun K hK => ?_)
    simp only [Tryd.f23, bodyOf, Option.getD_some, cl, cr, rOps, lights, light, rN, List.size_toArray, List.length_cons, List.length_nil, Nat.zero_add, List.map_cons, List.map_nil, Option.map_none]
    simp (maxSteps := 300000) (disch := omega) only [go_sem, Nat.reduceMul, ↓reduceIte]
    with_reducible refine hK _ ?_
    clear hK K
    refine nx_then ?_
    refine ref_l2 (c1 := c + 2000) (by omega) (by omega) (fun n1 z1 z2 z3 => ?_) _
    refine nx_then ?_
    generalize hw : w64 (List.take 64 (List.drop (64 * k) p)) 48 = w
    have hwl : w.length = 64 := by rw [← hw, w64_len]
    generalize hs : ab S0 p k = s at hl
    have e0 : s.getD 0 0#32 = (v8 s).a := rfl
    have e1 : s.getD 1 0#32 = (v8 s).c := rfl
    have e2 : s.getD 2 0#32 = (v8 s).d := rfl
    have e3 : s.getD 3 0#32 = (v8 s).e := rfl
    have e4 : s.getD 4 0#32 = (v8 s).f := rfl
    have e5 : s.getD 5 0#32 = (v8 s).g := rfl
    have e6 : s.getD 6 0#32 = (v8 s).h := rfl
    have e7 : s.getD 7 0#32 = (v8 s).i := rfl
    refine awp_seqP rfl ?_
    refine awp_drwP (Γ := noEnv) (fun _ => 2) [2, 3, 4, 5, 6, 7, 12, 13, 14, 15, 16, 17, 18, 19] mixed (noEnv_ok _ _) rfl rfl rfl (by kernel_rfl) (fun K hK => ?_)
    simp only [Tryd.f23, bodyOf, Option.getD_some, cl, cr, rOps, lights, light, rN, List.size_toArray, List.length_cons, List.length_nil, Nat.reduceAdd, Nat.zero_add, List.map_cons, List.map_nil, Option.map_none]
    simp (maxSteps := 300000) (disch := omega) only [go_sem, Nat.reduceAdd, Nat.reduceMul, Int.reduceLE, Int.reduceToNat, ↓reduceIte, e0, e1, e2, e3, e4, e5, e6, e7]
    with_reducible refine hK _ ?_
    clear hK K
    refine nx_then ?_
    refine awp_seqP rfl ?_
    refine awp_seqP rfl ?_
    refine awp_regP (Γ := noEnv) [2, 3, 4, 5, 6, 7, 12, 13, 14, 15, 16, 17, 18, 19, 20] (noEnv_ok _ _) rfl rfl rfl (fun K hK => ?_)
    simp only [Tryd.f23, bodyOf, Option.getD_some, cl, cr, rOps, lights, light, rN, List.size_toArray, List.length_cons, List.length_nil, Nat.zero_add, List.map_cons, List.map_nil, Option.map_none]
    simp (maxSteps := 300000) (disch := omega) only [go_sem, ↓reduceIte]
    with_reducible refine hK _ ?_
    clear hK K
    refine nx_then ?_
    refine ref_l3 (w := w) (v := v8 s) (mt := true) (c1 := c + 10000) hwl (by simp only [upd_apply, if_neg (show ¬ i4 = c + 4 by omega), if_neg (show ¬ i4 = i3 by omega), if_neg (show ¬ i4 = ip by omega), if_pos]) (by simp only [upd_apply, if_pos]) (by omega) (by omega) (by omega) (fun n2 c2 hc2 => ?_) _
    refine nx_then ?_
    simp only [frR]
    generalize hv : rnds w (v8 s) 64 = v
    clear e0 e1 e2 e3 e4 e5 e6 e7
    refine awp_seqP rfl ?_
    refine awp_regP (Γ := noEnv) [2, 3, 4, 5, 6, 16, 17, 18, 19] (noEnv_ok _ _) rfl rfl rfl (fun K hK => ?_)
    simp only [Tryd.f23, bodyOf, Option.getD_some, cl, cr, rOps, lights, light, rN, List.size_toArray, List.length_cons, List.length_nil, Nat.reduceAdd, Nat.zero_add, List.map_cons, List.map_nil, Option.map_none]
    simp (maxSteps := 300000) (disch := omega) only [go_sem, Nat.reduceAdd, Nat.reduceLeDiff, Int.reduceLE, Int.reduceToNat, ↓reduceIte, hl]
    with_reducible refine hK _ ?_
    clear hK K
    refine nx_then ?_
    refine awp_regP (Γ := noEnv) [2, 3, 4, 5, 6] (noEnv_ok _ _) rfl rfl rfl (fun K hK => ?_)
    simp only [Tryd.f23, bodyOf, Option.getD_some, cl, cr, rOps, lights, light, rN, List.size_toArray, List.length_cons, List.length_nil, Nat.reduceAdd, Nat.zero_add, List.map_cons, List.map_nil, Option.map_none]
    simp (maxSteps := 300000) (disch := first | omega | (simp only [List.length_set, List.length_append, List.length_take, List.length_drop, List.length_replicate, List.length_cons, List.length_nil, c8_len, c32_len]; omega)) only [go_sem, Nat.reduceAdd, Nat.reduceLeDiff, Int.reduceLE, Int.reduceToNat, ↓reduceIte, hl, set_getD]
    with_reducible refine hK _ ?_
    clear hK K
    refine nx_blk (nx_then ?_)
    refine awp_regP (Γ := noEnv) [2, 3, 4, 5, 6] (noEnv_ok _ _) rfl rfl rfl (fun K hK => ?_)
    simp only [Tryd.f23, bodyOf, Option.getD_some, cl, cr, rOps, lights, light, rN, List.size_toArray, List.length_cons, List.length_nil, Nat.reduceAdd, Nat.zero_add, List.map_cons, List.map_nil, Option.map_none]
    simp (maxSteps := 300000) (disch := omega) only [go_sem, Nat.reduceAdd, ↓reduceIte]
    with_reducible refine hK _ ?_
    clear hK K
    refine nx_loop ?_
    refine ⟨⟨k + 1, _⟩, ⟨by simp only; omega, by simp only; omega⟩, by simp only; omega, ⟨fun _ => .inr ?_, fun j o h => ?_, Nat.le_refl _⟩⟩
    · simp only; congr 5
    · have ha : ab S0 p (k + 1) = comp s (List.take 64 (List.drop (64 * k) p)) := by rw [ab, hs]
      rw [ha, comp_eq hl _ v (by rw [hw, hv])] at h
      simp only [upd_apply] at h ⊢
      by_cases j3 : j = i3
      · simp only [if_pos j3] at h ⊢
        exact h
      · simp only [if_neg j3] at h ⊢
        by_cases jc : j = c + 4
        · subst jc
          rw [if_neg (by omega), if_neg (by omega), if_neg (by omega)] at h
          cases h
        · rw [if_neg jc]; exact h
  · skip
    refine awp_drop rfl ?_
    refine awp_exitN 0 rfl rfl ?_
    refine nx_ex_then (nx_ex_loop (nx_ex_blk ?_))
    obtain rfl : k = nb := by omega
    exact hQ _ _ (by omega)

set_option maxHeartbeats 4000000 in
theorem ref_l8 {i2 i3 c0 : Nat} {s : List W32} {hp : H} (hs : s.length = 8) (_ : i2 ≠ i3) (hc : i2 < c0) (hc3 : i3 < c0) (h3 : hp i3 = some (.cells (c32 s) true)) (h2 : hp i2 = some (.cells (c8 (List.replicate 32 0#8)) true)) (n0 : Nat) :
    Awp Tryd.prog GLh Tryd.f23.ntmps (cr (cr (cr (cr (cr (bodyOf Tryd.f23)))))) { fr := [(2, .op i2 0), (3, .op i3 0)], hp := hp, nx := n0, cx := c0 } (pureQ Tryd.prog Tryd.f23.results.toList (.agg (c8 (ob s 8)))) := by
  refine awp_seqP rfl ?_
  refine awp_regP (Γ := noEnv) [2, 3, 23] (noEnv_ok _ _) rfl rfl rfl (fun K hK => ?_)
  simp only [Tryd.f23, bodyOf, Option.getD_some, cl, cr, rOps, lights, light, rN, List.size_toArray, List.length_cons, List.length_nil, Nat.zero_add, List.map_cons, List.map_nil, Option.map_none]
  simp (maxSteps := 300000) (disch := omega) only [go_sem, ↓reduceIte]
  with_reducible refine hK _ ?_
  clear hK K
  refine nx_then ?_
  refine awp_seqP rfl ?_
  refine awp_seqP rfl ?_
  refine awp_regP (Γ := noEnv) [2, 3, 23, 24] (noEnv_ok _ _) rfl rfl rfl (fun K hK => ?_)
  simp only [Tryd.f23, bodyOf, Option.getD_some, cl, cr, rOps, lights, light, rN, List.size_toArray, List.length_cons, List.length_nil, Nat.zero_add, List.map_cons, List.map_nil, Option.map_none]
  simp (maxSteps := 300000) (disch := omega) only [go_sem, ↓reduceIte]
  with_reducible refine hK _ ?_
  clear hK K
  refine nx_then ?_
  refine awp_blockN 8 rfl rfl ?_
  refine awp_loopP (fun p : KC => { fr := [(2, .op i2 0), (3, .op i3 0), (23, .op c0 0), (24, .i p.k)], hp := upd hp c0 (.cells (c8 (obr s p.k)) true), nx := 0, cx := p.c }) (fun p => p.k ≤ 32 ∧ c0 < p.c) (fun p => 32 - p.k) rfl ⟨⟨0, _⟩, ⟨Nat.zero_le _, by simp only; omega⟩, sub_same rfl rfl (Nat.le_refl _)⟩ ?_
  rintro ⟨k, c⟩ ⟨hk, hcc⟩ n0
  simp only at hk hcc ⊢
  have hl := obr_len s k
  refine awp_seqP rfl ?_
  refine awp_seqP rfl ?_
  refine awp_regP (Γ := noEnv) [243, 2, 3, 23, 24] (noEnv_ok _ _) rfl rfl rfl (fun K hK => ?_)
  simp only [Tryd.f23, bodyOf, Option.getD_some, cl, cr, rOps, lights, light, rN, List.size_toArray, List.length_cons, List.length_nil, Nat.reduceAdd, Nat.zero_add, List.map_cons, List.map_nil, Option.map_none]
  simp (maxSteps := 300000) (disch := omega) only [go_sem, Nat.reduceAdd, ↓reduceIte]
  with_reducible refine hK _ ?_
  clear hK K
  refine nx_then ?_
  refine awp_ifD (.tmp 243) rfl rfl rfl (fun h => ?_) (fun h => ?_)
  · skip
    refine awp_drop rfl ?_
    have e1 : ((k : Int).tdiv 4) = ((k / 4 : Nat) : Int) := by rw [Int.tdiv_eq_ediv_of_nonneg (by omega)]; omega
    have e2 : ((k : Int).tmod 4) = ((k % 4 : Nat) : Int) := by rw [Int.tmod_eq_emod_of_nonneg (by omega)]; omega
    have e3 : ((24 : Int) - 8 * ((k % 4 : Nat) : Int)).toNat = 24 - 8 * (k % 4) := by omega
    refine awp_skipP rfl ?_
    refine nx_then ?_
    refine awp_seqP rfl ?_
    refine awp_blockN 9 rfl rfl ?_
    refine awp_regP (Γ := noEnv) [2, 3, 23, 24] (noEnv_ok _ _) rfl rfl rfl (fun K hK => ?_)
    simp only [Tryd.f23, bodyOf, Option.getD_some, cl, cr, rOps, lights, light, rN, List.size_toArray, List.length_cons, List.length_nil, Nat.reduceAdd, Nat.zero_add, List.map_cons, List.map_nil, Option.map_none]
    simp (maxSteps := 300000) (disch := omega) only [go_sem, Nat.reduceAdd, Nat.reduceLeDiff, Int.reduceEq, ↓reduceIte, h3, hl, e1, e2, e3]
    with_reducible refine hK _ ?_
    clear hK K
    refine nx_blk (nx_then ?_)
    refine awp_regP (Γ := noEnv) [2, 3, 23, 24] (noEnv_ok _ _) rfl rfl rfl (fun K hK => ?_)
    simp only [Tryd.f23, bodyOf, Option.getD_some, cl, cr, rOps, lights, light, rN, List.size_toArray, List.length_cons, List.length_nil, Nat.reduceAdd, Nat.zero_add, List.map_cons, List.map_nil, Option.map_none]
    simp (maxSteps := 300000) (disch := omega) only [go_sem, Nat.reduceAdd, ↓reduceIte]
    with_reducible refine hK _ ?_
    clear hK K
    refine nx_loop ?_
    refine ⟨⟨k + 1, _⟩, ⟨by simp only; omega, by simp only; omega⟩, by simp only; omega, sub_same rfl ?_ (Nat.le_refl _)⟩
    simp only [obr]
  · skip
    refine awp_drop rfl ?_
    refine awp_exitN 8 rfl rfl ?_
    refine nx_ex_then (nx_ex_loop (nx_ex_blk ?_))
    refine nx_then ?_
    refine awp_seqP rfl ?_
    obtain rfl : k = 32 := by omega
    have hob := ob_len s 8
    have hsp : storeL (c8 (List.replicate 32 0#8)) 0 (c8 (ob s 8)) = c8 (ob s 8) := by rw [storeL_sp _ _ _ (by rw [c8_len]; omega), splice_all _ _ (by rw [c8_len, c8_len, hob, List.length_replicate])]
    rw [obr_ob]
    refine awp_regP (Γ := noEnv) [2] (noEnv_ok _ _) rfl rfl rfl (fun K hK => ?_)
    simp only [Tryd.f23, bodyOf, Option.getD_some, cl, cr, rOps, lights, light, rN, List.size_toArray, List.length_cons, List.length_nil, Nat.reduceAdd, Nat.zero_add, List.map_cons, List.map_nil, Option.map_none]
    simp (maxSteps := 300000) (disch := omega) only [go_sem, Nat.reduceAdd, Nat.reduceLeDiff, ↓reduceIte, h2, hob, hsp]
    with_reducible refine hK _ ?_
    clear hK K
    refine nx_then ?_
    refine awp_retP rfl ?_
    simp (disch := omega) only [pureQ, resA, resAL, resA1, Tryd.f23, go_sem, Nat.reduceLeDiff, ↓reduceIte, ldV, imm_c8, hob]
end Go.AX
