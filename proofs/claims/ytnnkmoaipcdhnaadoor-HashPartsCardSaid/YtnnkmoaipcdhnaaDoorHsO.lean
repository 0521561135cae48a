/-
  Hash, part O: what is shortened.
-/
import Derived.Test.YtnnkmoaipcdhnaaDoorHsN
namespace Go.AX
open Go Go.Proofs

def b4 (n : Nat) : List B8 := [BitVec.ofInt 8 ((n : Int).fdiv 16777216), BitVec.ofInt 8 ((n : Int).fdiv 65536), BitVec.ofInt 8 ((n : Int).fdiv 256), BitVec.ofInt 8 (n : Int)]
def part1 (p : List B8) : List B8 := b4 p.length ++ p
def cat (l : List B8) (ps : List (List B8)) : List B8 := l ++ ps.flatMap part1
def shortL (tag : B8) (ps : List (List B8)) : List B8 := (sumL (cat [tag] ps)).take 8
theorem shortL_len (tag : B8) (ps : List (List B8)) : (shortL tag ps).length = 8 := by simp [shortL, sumL_len]
theorem part1_len (p : List B8) : (part1 p).length = p.length + 4 := by simp [part1, b4]
def tot (ps : List (List B8)) : Nat := (ps.flatMap part1).length
theorem tot_nil : tot [] = 0 := rfl
theorem tot_cons (p : List B8) (ps : List (List B8)) : tot (p :: ps) = p.length + 4 + tot ps := by simp [tot, part1_len]
theorem cat_len (l : List B8) (ps : List (List B8)) : (cat l ps).length = l.length + tot ps := by simp [cat, tot]
theorem tot_take (ps : List (List B8)) (k : Nat) : tot (ps.take k) ≤ tot ps := by
  induction ps generalizing k with
  | nil => simp [tot]
  | cons p ps ih => cases k with
    | zero => simp [tot]
    | succ k => rw [List.take_succ_cons, tot_cons, tot_cons]; have := ih k; omega
theorem take_step {α : Type} (ps : List α) (k : Nat) (d : α) (h : k < ps.length) : ps.take (k + 1) = ps.take k ++ [ps.getD k d] := by
  rw [List.take_add_one, List.getElem?_eq_getElem h, List.getD_eq_getElem?_getD, List.getElem?_eq_getElem h]; rfl
theorem cat_step (l : List B8) (ps : List (List B8)) (k : Nat) (h : k < ps.length) : cat l (ps.take (k + 1)) = cat l (ps.take k) ++ b4 (ps.getD k []).length ++ ps.getD k [] := by
  rw [take_step ps k [] h]; simp [cat, part1]
theorem tot_step (ps : List (List B8)) (k : Nat) (h : k < ps.length) : tot (ps.take (k + 1)) = tot (ps.take k) + ((ps.getD k []).length + 4) := by
  rw [take_step ps k [] h]; simp [tot, part1_len]

theorem tot_ge (ps : List (List B8)) : 4 * ps.length ≤ tot ps := by
  induction ps with
  | nil => simp
  | cons p ps ih => rw [tot_cons, List.length_cons]; omega
/-- Parts, as the program has them. -/
def cP (ps : List (List B8)) : List AV := ps.map fun p => .sl p.length (c8 p)
def unP : List AV → Option (List (List B8))
  | [] => some []
  | .sl n xs :: r => obind (un8 xs) fun b => guardO (b.length = n) (obind (unP r) fun l => some (b :: l))
  | _ => none
theorem unP_nil : unP [] = some [] := (rfl)
theorem unP_cons (n : Nat) (xs r : List AV) : unP (.sl n xs :: r) = obind (un8 xs) fun b => guardO (b.length = n) (obind (unP r) fun l => some (b :: l)) := (rfl)
theorem unP_cP (ps : List (List B8)) : unP (cP ps) = some ps := by
  induction ps with
  | nil => rfl
  | cons p ps ih => show obind (un8 (c8 p)) (fun b => guardO (b.length = p.length) (obind (unP (cP ps)) fun l => some (b :: l))) = _; rw [un8_c8, ih, obind_some, guardO_true _ rfl, obind_some]
theorem unP_inv : ∀ {xs : List AV} {ps : List (List B8)}, unP xs = some ps → xs = cP ps
  | [], ps, h => by obtain rfl := Option.some.inj h; rfl
  | x :: r, ps, h => by
    cases x <;> simp only [unP] at h <;> first | (cases h; done) | skip
    replace h := obind_inv h; obtain ⟨b, hb, h⟩ := h
    replace h := guardO_inv h; obtain ⟨hn, h⟩ := h
    replace h := obind_inv h; obtain ⟨l, hl, h⟩ := h
    obtain rfl := Option.some.inj h
    rw [un8_inv _ hb, unP_inv hl, ← hn]; rfl
theorem cP_len (ps : List (List B8)) : (cP ps).length = ps.length := List.length_map ..
theorem cP_head (ps : List (List B8)) (k : Nat) (h : k < ps.length) : ((cP ps).drop k).head? = some (.sl (ps.getD k []).length (c8 (ps.getD k []))) := by
  rw [List.head?_drop]; simp [cP, List.getElem?_map, List.getElem?_eq_getElem h]
theorem un8_nil : un8 [] = some [] := (rfl)
theorem un8_w8 (x : B8) (r : List AV) : un8 (.w8 x :: r) = obind (un8 r) fun l => some (x :: l) := (rfl)
def shortK (tag : B8) (n : Nat) (ps : List (List B8)) : Option AV := guardO (ps.length = n ∧ tot ps ≤ 900000000) (some (.agg (c8 (shortL tag ps))))
def shortG : List AV → Option AV
  | [.w8 tag, .sl n xs] => obind (unP xs) (shortK tag n)
  | _ => none
theorem shortG_eq (tag : B8) (n : Nat) (xs : List AV) : shortG [.w8 tag, .sl n xs] = obind (unP xs) (shortK tag n) := (rfl)
theorem shortK_eq (tag : B8) (n : Nat) (ps : List (List B8)) : shortK tag n ps = guardO (ps.length = n ∧ tot ps ≤ 900000000) (some (.agg (c8 (shortL tag ps)))) := (rfl)
theorem sumG_eq (n : Nat) (xs : List AV) : sumG [.sl n xs] = obind (un8 xs) fun b => guardO (b.length = n) (some (.agg (c8 (sumL b)))) := (rfl)
theorem fdiv24 (n : Nat) : (n : Int).fdiv (2 ^ min 24 64) = (n : Int).fdiv 16777216 := (rfl)
theorem rep1 (x : AV) (n : Nat) : rep n [x] = List.replicate n x := by
  unfold rep; induction n with
  | zero => rfl
  | succ n ih => rw [List.replicate_succ, List.flatten_cons, ih]; rfl
theorem frzL4 (hp : H) (a b c d : B8) : frzL hp [AV.w8 a, .w8 b, .w8 c, .w8 d] = some ([.w8 a, .w8 b, .w8 c, .w8 d], hp) := (rfl)
theorem take4 (a b c d : AV) : List.take 4 [a, b, c, d] = [a, b, c, d] := (rfl)
theorem app4 (l : List B8) (a b c d : B8) : c8 l ++ [AV.w8 a, .w8 b, .w8 c, .w8 d] = c8 (l ++ [a, b, c, d]) := by simp [c8]
theorem b4_eq (n : Nat) : [BitVec.ofInt 8 ((n : Int).fdiv (2 ^ min 24 64)), BitVec.ofInt 8 ((n : Int).fdiv (2 ^ min 16 64)), BitVec.ofInt 8 ((n : Int).fdiv (2 ^ min 8 64)), BitVec.ofInt 8 (n : Int)] = b4 n := (rfl)
theorem b4_len (n : Nat) : (b4 n).length = 4 := (rfl)
theorem storeL_all (xs cs : List AV) (h : cs.length = xs.length) : storeL xs 0 cs = cs := by
  unfold storeL
  split
  · rename_i c
    match xs, h with
    | [y], _ => rfl
  · exact splice_all _ _ h
theorem storeL_rep8 (n : Nat) (x : B8) (m : List B8) (h : m.length = n) : storeL (c8 (List.replicate n x)) 0 (c8 m) = c8 m := storeL_all _ _ (by rw [c8_len, c8_len, List.length_replicate, h])
theorem storeL_eq8 (l m : List B8) (h : l.length = m.length) : storeL (c8 l) 0 (c8 m) = c8 m := storeL_all _ _ (by rw [c8_len, c8_len, h])
attribute [go_sem] storeL_rep8 storeL_eq8 frzL4 take4 app4 c8_noOwn b4_eq b4_len unP_nil unP_cons unP_cP cP_len cP_head un8_nil un8_w8 un8_c8 shortG_eq shortK_eq sumG_eq shortL_len sumL_len tot_nil tot_cons List.length_append rep1_8 sp1_8 take1_8

structure KIC where
  k : Nat
  id : Nat
  c : Nat

set_option maxHeartbeats 4000000 in
theorem short_ok : PureOK Tryd.prog GLh 24 shortG := by
  refine pure_of_awp Tryd.func24 (bodyOf_some rfl) ?_
  intro args r hg
  unfold shortG at hg
  split at hg
  · rename_i tag n xs
    replace hg := obind_inv hg; obtain ⟨ps, hps, hg⟩ := hg
    rw [shortK_eq] at hg
    replace hg := guardO_inv hg; obtain ⟨⟨hn, hbig⟩, hg⟩ := hg
    obtain rfl := Option.some.inj hg
    have := unP_inv hps; subst this
    subst hn
    clear hps hg
    refine ⟨Nat.le_of_ble_eq_true rfl, fun nx => ?_⟩
    refine awp_seqP rfl ?_
    refine awp_regP (Γ := noEnv) [0, 1, 4] (noEnv_ok _ _) rfl rfl rfl (fun K hK => ?_)
    simp only [Tryd.f24, bodyOf, Option.getD_some, cl, rOps, lights, light, rN, List.size_toArray, List.length_cons, List.length_nil, Nat.zero_add, List.map_cons, List.map_nil, Option.map_none]
    simp (maxSteps := 300000) (disch := omega) only [go_sem, ↓reduceIte]
    with_reducible refine hK _ ?_
    clear hK K
    refine nx_then ?_
    refine awp_seqP rfl ?_
    refine awp_regP (Γ := noEnv) [1, 4, 5] (noEnv_ok _ _) rfl rfl rfl (fun K hK => ?_)
    simp only [Tryd.f24, bodyOf, Option.getD_some, cl, cr, rOps, lights, light, rN, List.size_toArray, List.length_cons, List.length_nil, Nat.reduceAdd, Nat.zero_add, List.map_cons, List.map_nil, Option.map_none]
    simp (maxSteps := 300000) (disch := omega) only [go_sem, Nat.reduceAdd, Nat.reduceLeDiff, Nat.reduceLT, ↓reduceIte]
    with_reducible refine hK _ ?_
    clear hK K
    refine nx_then ?_
    refine awp_seqP rfl ?_
    refine awp_seqP rfl ?_
    refine awp_regP (Γ := noEnv) [4, 5, 12, 13, 14] (noEnv_ok _ _) rfl rfl rfl (fun K hK => ?_)
    simp only [Tryd.f24, bodyOf, Option.getD_some, cl, cr, rOps, lights, light, rN, List.size_toArray, List.length_cons, List.length_nil, Nat.reduceAdd, Nat.zero_add, List.map_cons, List.map_nil, Option.map_none]
    simp (maxSteps := 300000) (disch := omega) only [go_sem, Nat.reduceAdd, ↓reduceIte]
    with_reducible refine hK _ ?_
    clear hK K
    refine nx_then ?_
    have h1 : c8 [tag] = c8 (cat [tag] (ps.take 0)) := by simp [cat]
    have hge := tot_ge ps
    refine awp_blockN 0 rfl rfl ?_
    refine awp_loopP (fun p : KIC => { fr := [(4, .op nx 0), (5, .os p.id 0 (1 + tot (ps.take p.k)) 1 true), (12, .sl ps.length (cP ps)), (13, .i ps.length), (14, .i p.k)], hp := upd (upd (fun _ => none) nx (.cells (c8 (List.replicate 8 0#8)) true)) p.id (.cells (c8 (cat [tag] (ps.take p.k))) true), nx := 0, cx := p.c }) (fun p => p.k ≤ ps.length ∧ nx < p.id ∧ p.id < p.c) (fun p => ps.length - p.k) rfl ⟨⟨0, nx + 1 + 1, _⟩, ⟨Nat.zero_le _, by simp only; omega, by simp only; omega⟩, sub_same rfl (by rw [← h1]; rfl) (Nat.le_refl _)⟩ ?_
    rintro ⟨k, id, c⟩ ⟨hk, hid, hc⟩ n0
    simp only at hk hid hc ⊢
    have ht := tot_take ps k
    have hl : (cat [tag] (ps.take k)).length = 1 + tot (ps.take k) := cat_len [tag] (ps.take k)
    refine awp_seqP rfl ?_
    refine awp_regP (Γ := noEnv) [15, 4, 5, 12, 13, 14] (noEnv_ok _ _) rfl rfl rfl (fun K hK => ?_)
    simp only [Tryd.f24, bodyOf, Option.getD_some, cl, cr, rOps, lights, light, rN, List.size_toArray, List.length_cons, List.length_nil, Nat.zero_add, List.map_cons, List.map_nil, Option.map_none]
    simp (maxSteps := 300000) (disch := omega) only [go_sem, ↓reduceIte]
    with_reducible refine hK _ ?_
    clear hK K
    refine nx_then ?_
    refine awp_seqP rfl ?_
    refine awp_ifD (.tmp 15) rfl rfl rfl (fun h => ?_) (fun h => ?_)
    · skip
      refine awp_drop rfl ?_
      have hs := tot_step ps k (by omega)
      have hst := cat_step [tag] ps k (by omega)
      have htk := tot_take ps (k + 1)
      refine awp_skipP rfl ?_
      refine nx_then ?_
      refine awp_seqP rfl ?_
      refine awp_blockN 1 rfl rfl ?_
      refine awp_seqP rfl ?_
      refine awp_regP (Γ := noEnv) [4, 5, 7, 12, 13, 14] (noEnv_ok _ _) rfl rfl rfl (fun K hK => ?_)
      simp only [Tryd.f24, bodyOf, Option.getD_some, cl, cr, rOps, lights, light, rN, List.size_toArray, List.length_cons, List.length_nil, Nat.reduceAdd, Nat.zero_add, List.map_cons, List.map_nil, Option.map_none]
      simp (maxSteps := 300000) (disch := omega) only [go_sem, Nat.reduceAdd, ↓reduceIte]
      with_reducible refine hK _ ?_
      clear hK K
      refine nx_then ?_
      generalize ps.getD k [] = q at hs hst ⊢
      refine awp_seqP rfl ?_
      refine awp_regP (Γ := noEnv) [4, 5, 7, 8, 12, 13, 14] (noEnv_ok _ _) rfl rfl rfl (fun K hK => ?_)
      simp only [Tryd.f24, bodyOf, Option.getD_some, cl, cr, rOps, lights, light, rN, List.size_toArray, List.length_cons, List.length_nil, Nat.reduceAdd, Nat.zero_add, List.map_cons, List.map_nil, Option.map_none]
      simp (maxSteps := 300000) (disch := omega) only [go_sem, Nat.reduceAdd, ↓reduceIte]
      with_reducible refine hK _ ?_
      clear hK K
      refine nx_then ?_
      refine awp_seqP rfl ?_
      refine awp_regP (Γ := noEnv) [4, 5, 7, 12, 13, 14] (noEnv_ok _ _) rfl rfl rfl (fun K hK => ?_)
      simp only [Tryd.f24, bodyOf, Option.getD_some, cl, cr, rOps, lights, light, rN, List.size_toArray, List.length_cons, List.length_nil, Nat.reduceAdd, Nat.zero_add, List.map_cons, List.map_nil, Option.map_none]
      simp (maxSteps := 300000) (disch := omega) only [go_sem, Nat.reduceAdd, Nat.reduceLeDiff, Nat.reduceLT, Int.reduceLE, Int.reduceLT, BitVec.reduceOfInt, BitVec.reduceToNat, ↓reduceIte, hl]
      with_reducible refine hK _ ?_
      clear hK K
      refine nx_then ?_
      refine awp_regP (Γ := noEnv) [4, 5, 12, 13, 14] (noEnv_ok _ _) rfl rfl rfl (fun K hK => ?_)
      simp only [Tryd.f24, bodyOf, Option.getD_some, cl, cr, rOps, lights, light, rN, List.size_toArray, List.length_cons, List.length_nil, Nat.reduceAdd, Nat.zero_add, List.map_cons, List.map_nil, Option.map_none]
      simp (maxSteps := 300000) (disch := omega) only [go_sem, Nat.reduceAdd, Nat.reduceLT, ↓reduceIte, hl]
      with_reducible refine hK _ ?_
      clear hK K
      refine nx_blk (nx_then ?_)
      refine awp_regP (Γ := noEnv) [4, 5, 12, 13, 14] (noEnv_ok _ _) rfl rfl rfl (fun K hK => ?_)
      simp only [Tryd.f24, bodyOf, Option.getD_some, cl, cr, rOps, lights, light, rN, List.size_toArray, List.length_cons, List.length_nil, Nat.reduceAdd, Nat.zero_add, List.map_cons, List.map_nil, Option.map_none]
      simp (maxSteps := 300000) (disch := omega) only [go_sem, Nat.reduceAdd, ↓reduceIte]
      with_reducible refine hK _ ?_
      clear hK K
      refine nx_loop ?_
      have e5 : 1 + tot (ps.take (k + 1)) = 1 + tot (ps.take k) + 4 + q.length := by omega
      refine ⟨⟨k + 1, c + 1 + 3 + 3 + 15 + 2, _⟩, ⟨by simp only; omega, ?_, ?_⟩, by simp only; omega, ⟨fun _ => .inr ?_, fun j o h => ?_, Nat.le_refl _⟩⟩
      · simp only; omega
      · simp only; omega
      · simp only [e5, Int.natCast_add, Int.natCast_one]
      · simp only [hst] at h
        grind [upd_apply, del_apply]
    · skip
      refine awp_drop rfl ?_
      refine awp_exitN 0 rfl rfl ?_
      refine nx_ex_then (nx_ex_loop (nx_ex_blk ?_))
      refine nx_then ?_
      refine awp_seqP rfl ?_
      obtain rfl : k = ps.length := by omega
      rw [List.take_length] at hl ⊢
      have hsl := shortL_len tag ps
      have hsu := sumL_len (cat [tag] ps)
      have hs8 : (sumL (cat [tag] ps)).take 8 = shortL tag ps := rfl
      refine awp_regP (Γ := envL [(22, .pure true sumG)]) [4, 9] (envOK_cons ok22 envOK_nil) rfl rfl rfl (fun K hK => ?_)
      simp only [Tryd.f24, bodyOf, Option.getD_some, cl, cr, rOps, lights, light, rN, List.size_toArray, List.length_cons, List.length_nil, Nat.reduceAdd, Nat.zero_add, List.map_cons, List.map_nil, Option.map_none]
      simp (maxSteps := 300000) (disch := omega) only [go_sem, Nat.reduceAdd, Nat.reduceLeDiff, ↓reduceIte, hl]
      with_reducible refine hK _ ?_
      clear hK K
      refine nx_then ?_
      refine awp_seqP rfl ?_
      refine awp_regP (Γ := noEnv) [4] (noEnv_ok _ _) rfl rfl rfl (fun K hK => ?_)
      simp only [Tryd.f24, bodyOf, Option.getD_some, cl, cr, rOps, lights, light, rN, List.size_toArray, List.length_cons, List.length_nil, Nat.reduceAdd, Nat.zero_add, List.map_cons, List.map_nil, Option.map_none]
      simp (maxSteps := 300000) (disch := omega) only [go_sem, Nat.reduceAdd, Nat.reduceSub, Nat.reduceLeDiff, Int.reduceLE, Int.reduceToNat, ↓reduceIte, hs8]
      with_reducible refine hK _ ?_
      clear hK K
      refine nx_then ?_
      refine awp_retP rfl ?_
      simp (disch := omega) only [pureQ, resA, resAL, resA1, Tryd.f24, go_sem, Nat.reduceLeDiff, ↓reduceIte, ldV, imm_c8]
  · cases hg
end Go.AX
