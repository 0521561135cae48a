/-
  Hash, part Q: what the statements of layer 1 ask ahead of all.
-/
import Derived.Test.YtnnkmoaipcdhnaaDoorHsP
namespace Go.AX
open Go Go.Proofs

theorem rep_2 (x : AV) : rep 2 [x] = [x, x] := (rfl)
theorem rep_3 (x : AV) : rep 3 [x] = [x, x, x] := (rfl)
theorem rep_5 (x : AV) : rep 5 [x] = [x, x, x, x, x] := (rfl)
theorem sp_z (x y : AV) (xs : List AV) : splice (x :: xs) 0 [y] = y :: xs := by simp [splice]
theorem sp_s (x y : AV) (xs : List AV) (k : Nat) : splice (x :: xs) (k + 1) [y] = x :: splice xs k [y] := by simp [splice]
theorem tk_s (x : AV) (xs : List AV) (k : Nat) : List.take (k + 1) (x :: xs) = x :: List.take k xs := (rfl)
theorem tk_n (k : Nat) : List.take k ([] : List AV) = [] := by simp
theorem c8_headd (l : List B8) (k : Nat) (h : k < l.length) : (c8 (l.drop k)).head? = some (.w8 (l.getD k 0#8)) := by rw [← c8_drop]; exact c8_head l k h
attribute [go_sem] c8_headd rep_2 rep_3 rep_5 sp_z sp_s tk_s tk_n List.take_zero

def known1G : List AV → Option AV
  | [] => some (.b true)
  | _ => none
theorem known1G_eq : known1G [] = some (.b true) := (rfl)
attribute [go_sem] known1G_eq
theorem k1a : (sumL [97#8, 98#8, 99#8]).getD 0 0#8 = 0xba#8 := by kernel_rfl
theorem k1b : (sumL [97#8, 98#8, 99#8]).getD 1 0#8 = 0x78#8 := by kernel_rfl
theorem k1c : (sumL [97#8, 98#8, 99#8]).getD 31 0#8 = 0xad#8 := by kernel_rfl
theorem k1d : decide (shortL 1#8 [[97#8], [98#8]] = shortL 1#8 [[97#8, 98#8]]) = false := by kernel_rfl

/-- Equality of arrays of bytes. -/
theorem eqT_c8 (P : Program) (t e : TypeId) (n : Nat) (hu : P.underlying t = some (.array n e)) (he : P.underlying e = some (.int .u8)) (hz : szOf P e = some 1) (ha : isAggT P e = some false) (l m : List B8) (hl : l.length = n) (hm : m.length = n) :
    eqT P 6 t (.agg (c8 l)) (.agg (c8 m)) = some (decide (l = m)) := by
  have hld : ∀ (l : List B8) (k : Nat), k < l.length → ldV P e ((c8 l).drop (k * 1)) = some (.w8 (l.getD k 0#8)) := by
    intro l k hk
    unfold ldV
    rw [ha, obind_some, if_neg (by decide), Nat.mul_one]
    exact c8_head l k hk
  have he5 : ∀ a b : B8, eqT P 5 e (.w8 a) (.w8 b) = some (decide (a = b)) := by
    intro a b
    unfold eqT
    rw [he]; rfl
  unfold eqT
  rw [hu]
  simp only [hz, obind_some]
  have key : ∀ (r : Nat) (k : Nat), k + r = n → eqItemsA (eqT P 5 e) (fun i cs => ldV P e (cs.drop (i * 1))) (c8 l) (c8 m) (List.range' k r) = some (decide (l.drop k = m.drop k)) := by
    intro r
    induction r with
    | zero =>
      intro k hk
      rw [List.drop_of_length_le (by omega), List.drop_of_length_le (by omega)]; rfl
    | succ r ih =>
      intro k hk
      rw [List.range'_succ]
      simp only [eqItemsA]
      rw [hld l k (by omega), hld m k (by omega)]
      simp only [obind_some, he5]
      rw [List.drop_eq_getElem_cons (by omega : k < l.length), List.drop_eq_getElem_cons (by omega : k < m.length)]
      have e1 : l.getD k 0#8 = l[k]'(by omega) := by simp [List.getD_eq_getElem?_getD, List.getElem?_eq_getElem (by omega : k < l.length)]
      have e2 : m.getD k 0#8 = m[k]'(by omega) := by simp [List.getD_eq_getElem?_getD, List.getElem?_eq_getElem (by omega : k < m.length)]
      rw [e1, e2]
      by_cases h : l[k]'(by omega) = m[k]'(by omega)
      · rw [if_pos (by simpa using h), ih (k + 1) (by omega)]
        congr 1
        rw [decide_eq_decide, List.cons.injEq]
        exact ⟨fun e => ⟨h, e⟩, fun e => e.2⟩
      · rw [if_neg (by simpa using h)]
        congr 1; symm
        rw [decide_eq_false_iff_not, List.cons.injEq]
        exact fun e => h e.1
  have := key n 0 (by omega)
  rw [List.range_eq_range']
  exact this
theorem eg24 : Tryd.prog.eqGuardType Tryd.prog.depth 24 = false := by kernel_rfl
theorem eg28 : Tryd.prog.eqGuardType Tryd.prog.depth 28 = false := by kernel_rfl
theorem eq24 (l m : List B8) (hl : l.length = 32) (hm : m.length = 32) : eqT Tryd.prog 6 24 (.agg (c8 l)) (.agg (c8 m)) = some (decide (l = m)) :=
  eqT_c8 _ 24 5 32 Tryd.underlying24 Tryd.underlying5 sz5 ag5 l m hl hm
theorem eq28 (l m : List B8) (hl : l.length = 8) (hm : m.length = 8) : eqT Tryd.prog 6 28 (.agg (c8 l)) (.agg (c8 m)) = some (decide (l = m)) :=
  eqT_c8 _ 28 5 8 Tryd.underlying28 Tryd.underlying5 sz5 ag5 l m hl hm
attribute [go_sem] eg24 eg28 eq24 eq28

set_option maxHeartbeats 4000000 in
theorem known1_ok : PureOK Tryd.prog GLh 21 known1G := by
  refine pure_of_awp Tryd.func21 (bodyOf_some rfl) ?_
  intro args r hg
  unfold known1G at hg
  split at hg
  · obtain rfl := Option.some.inj hg
    refine ⟨Nat.le_of_ble_eq_true rfl, fun nx => ?_⟩
    have hs := sumL_len [97#8, 98#8, 99#8]
    have h1 := shortL_len 1#8 [[97#8], [98#8]]
    have h2 := shortL_len 1#8 [[97#8, 98#8]]
    refine awp_seqP rfl ?_
    refine awp_regP (Γ := noEnv) [] (noEnv_ok _ _) rfl rfl rfl (fun K hK => ?_)
    simp only [Tryd.f21, bodyOf, Option.getD_some, cl, rOps, lights, light, rN, List.size_toArray, List.length_cons, List.length_nil, Nat.zero_add, List.map_cons, List.map_nil, Option.map_none]
    simp (maxSteps := 300000) (disch := omega) only [go_sem]
    with_reducible refine hK _ ?_
    clear hK K
    refine nx_then ?_
    refine awp_seqP rfl ?_
    refine awp_regP (Γ := envL [(22, .pure true sumG)]) [1] (envOK_cons ok22 envOK_nil) rfl rfl rfl (fun K hK => ?_)
    simp only [Tryd.f21, bodyOf, Option.getD_some, cl, cr, rOps, lights, light, rN, List.size_toArray, List.length_cons, List.length_nil, Nat.reduceAdd, Nat.zero_add, List.map_cons, List.map_nil, Option.map_none]
    simp (maxSteps := 300000) (disch := omega) only [go_sem, Nat.reduceAdd, Nat.reduceLeDiff, Nat.reduceLT, Int.reduceLE, Int.reduceLT, BitVec.reduceOfInt, ↓reduceIte, hs]
    with_reducible refine hK _ ?_
    clear hK K
    refine nx_then ?_
    refine awp_seqP rfl ?_
    refine awp_regP (Γ := envL [(24, .pure true shortG)]) [1, 2, 3] (envOK_cons ok24 envOK_nil) rfl rfl rfl (fun K hK => ?_)
    simp only [Tryd.f21, bodyOf, Option.getD_some, cl, cr, rOps, lights, light, rN, List.size_toArray, List.length_cons, List.length_nil, Nat.reduceAdd, Nat.zero_add, List.map_cons, List.map_nil, Option.map_none]
    simp (maxSteps := 300000) (disch := omega) only [go_sem, Nat.reduceAdd, Nat.reduceLeDiff, Nat.reduceLT, Int.reduceLE, Int.reduceLT, BitVec.reduceOfInt, ↓reduceIte, h1, h2]
    with_reducible refine hK _ ?_
    clear hK K
    refine nx_then ?_
    refine awp_seqP rfl ?_
    refine awp_regP (Γ := noEnv) [0] (noEnv_ok _ _) rfl rfl rfl (fun K hK => ?_)
    simp only [Tryd.f21, bodyOf, Option.getD_some, cl, cr, rOps, lights, light, rN, List.size_toArray, List.length_cons, List.length_nil, Nat.reduceAdd, Nat.zero_add, List.map_cons, List.map_nil, Option.map_none, Option.map_some, List.getElem?_toArray, List.getElem?_cons_zero, List.getElem?_cons_succ, Option.bind_some]
    simp (maxSteps := 300000) (disch := omega) only [go_sem, Nat.reduceAdd, Nat.reduceLeDiff, Int.reduceLE, Int.reduceLT, Int.reduceToNat, BitVec.reduceOfInt, ↓reduceIte, h1, h2, k1a, k1b, k1c, k1d]
    with_reducible refine hK _ ?_
    clear hK K
    refine nx_then ?_
    refine awp_retP rfl ?_
    simp (disch := omega) only [pureQ, resA, resAL, resA1, Tryd.f21, go_sem, ↓reduceIte]
  · cases hg
theorem ok21 : EntOK Tryd.prog GLh 21 (.pure true known1G) := ⟨⟨_, Tryd.func21, rfl, rfl⟩, known1_ok⟩
end Go.AX
