/-
  Sort, part J: sorted, out of an iterator, at numbers of sixteen bits. Sort, part K: doubles struck, at numbers of sixteen bits. Types, part L: tables of types, small helps. Types, part M: rows of types; rising rows, as the program and the document make them.
-/
import Derived.Test.YtlibdmfebcnkjaaDoorBG
import Derived.Test.YtlibdmfebcnkjaaDoorBI
import Derived.Test.YtlibdmfebcnkjaaDoorBD
import Derived.Test.YtlibdmfebcnkjaaDoorBE
namespace Go.AX
open Go Go.Proofs

def valG : List AV → Option AV
  | [.sl n xs] => some (.fn 34 [.rp [.sl n xs]])
  | _ => none
theorem valG_eq (n : Nat) (xs : List AV) : valG [.sl n xs] = some (.fn 34 [.rp [.sl n xs]]) := (rfl)
theorem sl_inv {σ : Nat → Loc} {I : Nat → Prop} {w : World} {n : Nat} {xs : List AV} {v : Value} (h : Rel σ I w (.sl n xs) v) : ∃ a cap, v = .slice a n cap := by
  cases h with
  | sl _ _ blk o cap f => exact ⟨_, _, rfl⟩
  | slnil => exact ⟨_, _, rfl⟩
  | slzero a => exact ⟨_, _, rfl⟩
theorem vals_ok : PureOK Tryd.prog GLh 29 valG := by
  intro σ I w nx args vals r h1 h2 h3 hs hr hg
  unfold valG at hg
  split at hg
  · rename_i n xs
    obtain rfl := Option.some.inj hg
    have hr0 := hr 0 (by simp)
    obtain ⟨a, cap, hv⟩ := sl_inv hr0
    have hvals : vals = #[.slice a n cap] := by
      apply Array.ext
      · rw [hs]; rfl
      · intro i h1 h2
        obtain rfl : i = 0 := by simp at h2; omega
        have : vals.getD 0 undef = vals[0] := by simp [Array.getD, h1]
        rw [← this]; simpa using hv
    rw [hvals]
    refine (vals_calls a n cap w).mono ?_
    rintro e w' ⟨rfl, rfl⟩
    have hold : ∀ k, k < w.heap.size → (w.alloc (.cells #[.slice a n cap] 28)).heap[k]? = w.heap[k]? := fun k hk => RowKit.Below.heap_alloc _ _ k hk
    refine ⟨_, σ, fun k => I k ∨ k = w.heap.size, rfl, rfl, rfl, rfl, by simp, hold, fun _ _ => rfl, fun k hk => hk.imp id (fun e => by omega), fun k hk => ?_, ?_⟩
    · rcases hk with hk | rfl
      · have := h2 k hk; simp; omega
      · simp
    · refine .fn 34 [.rp [.sl n xs]] _ rfl fun i hi => ?_
      obtain rfl : i = 0 := by simp at hi; omega
      refine .rp [.sl n xs] w.heap.size 0 (fun _ => .slice a n cap) (.inr rfl) (fun j hj => ?_) (fun j hj => ?_) (fun j hj => ?_)
      · obtain rfl : j = 0 := by simp at hj; omega
        exact (Boxed.new w 28 (.slice a n cap)).cell
      · obtain rfl : j = 0 := by simp at hj; omega
        rfl
      · obtain rfl : j = 0 := by simp at hj; omega
        have h5 : Rel σ I w (.sl n xs) (.slice a n cap) := by have := hr0; rw [hv] at this; exact this
        exact h5.mono (fun _ _ => rfl) (fun _ h => .inl h) (fun k hk => hold k (h2 k hk))
  · cases hg
theorem ok29 : EntOK Tryd.prog GLh 29 (.pure false valG) := ⟨⟨_, Tryd.func29, rfl, rfl⟩, vals_ok⟩

def colG : List AV → Option (Nat × Nat × List AV)
  | [.fn 34 [.rp [.sl n xs]]] => obind (unA xs) fun l => guardO (l.length = n ∧ n ≤ 1000000) (some (n, 1, cA l.toArray))
  | _ => none
theorem colG_eq (n : Nat) (xs : List AV) : colG [.fn 34 [.rp [.sl n xs]]] = obind (unA xs) fun l => guardO (l.length = n ∧ n ≤ 1000000) (some (n, 1, cA l.toArray)) := (rfl)
theorem col_ok : FreshOK Tryd.prog GLh 32 colG := by
  intro σ I w nx args vals n e xs h1 h2 h3 hs hr hg
  unfold colG at hg
  split at hg
  · rename_i n0 ys
    replace hg := obind_inv hg; obtain ⟨l, hl, hg⟩ := hg
    replace hg := guardO_inv hg; obtain ⟨⟨hn, hbig⟩, hg⟩ := hg
    simp only [Option.some.injEq, Prod.mk.injEq] at hg; obtain ⟨rfl, rfl, rfl⟩ := hg
    have := unA_inv hl; subst this
    have hr0 := hr 0 (by simp)
    simp only [List.getElem_cons_zero] at hr0
    generalize hv0 : vals.getD 0 undef = v0 at hr0
    cases hr0 with
    | fn f xs vs hvs hrel =>
      have hrp := hrel 0 (by simp)
      simp only [List.getElem_cons_zero] at hrp
      generalize hp0 : vs.getD 0 undef = p0 at hrp
      cases hrp with
      | rp _ blk o f hI hc hcell hrl =>
        have hvs1 : vs = #[.pointer (some ⟨blk, o, none⟩)] := by
          apply Array.ext
          · rw [hvs]; rfl
          · intro i h1 h2
            obtain rfl : i = 0 := by simp at h2; omega
            have : vs.getD 0 undef = vs[0] := by simp [Array.getD, h1]
            rw [← this]; simpa using hp0
        have hvals : vals = #[.func (.func 34) #[] #[.pointer (some ⟨blk, o, none⟩)]] := by
          apply Array.ext
          · rw [hs]; rfl
          · intro i h1 h2
            obtain rfl : i = 0 := by simp at h2; omega
            have : vals.getD 0 undef = vals[0] := by simp [Array.getD, h1]
            rw [← this, hv0, hvs1]; rfl
        have hc0 := hc 0 (by simp)
        have hs0 := hrl 0 (by simp)
        simp only [List.getElem_cons_zero, Nat.add_zero] at hc0 hs0
        have hU : U16s w.heap.size w (f 0) (l.map fun t : T16 => (t.toNat : Int)) := by
          generalize hf0 : f 0 = v1 at hs0
          generalize hzs : cA l.toArray = zs at hs0
          cases hs0 with
          | slnil => exact .inl ⟨.inl rfl, by rw [List.eq_nil_of_length_eq_zero hn]; rfl⟩
          | slzero a => exact .inl ⟨.inr ⟨a, _, rfl⟩, by rw [List.eq_nil_of_length_eq_zero hn]; rfl⟩
          | sl _ _ blk2 o2 cap f2 hI2 hcap hc2 hcell2 hrl2 =>
            refine .inr ⟨blk2, o2, cap, by rw [List.length_map, hn], h2 _ hI2, fun j hj => ?_⟩
            rw [List.length_map] at hj
            subst hzs
            have hj2 : j < (cA l.toArray).length := by rw [cA_len]; simpa using hj
            rw [hc2 j hj2]
            have h5 := hrl2 j hj2
            have e5 : (cA l.toArray)[j] = .w16 l[j] := by simp [cA]
            rw [e5] at h5
            generalize f2 j = u at h5 ⊢
            cases h5
            simp [hj]
        rw [hvals]
        refine (coll_calls blk o (f 0) _ (by rw [List.length_map]; omega) w (h2 _ hI) hc0 hU).mono ?_
        rintro e w' ⟨v, rfl, hrow, hnil, hb⟩
        refine ⟨v, σ, I, rfl, hb.os, hb.tape, hb.output, hb.size, fun k hk => hb.block k hk, fun _ _ => rfl, fun _ h => .inl h, fun k hk => Nat.lt_of_lt_of_le (h2 k hk) hb.size, ?_⟩
        rcases hrow.2 with ⟨rfl, h0⟩ | ⟨g, cap, cur, rfl, hbg, hgb, hcap, hmax, hsz, htake⟩
        · left
          rw [List.length_map] at h0
          exact ⟨.inl rfl, by omega, by rw [List.eq_nil_of_length_eq_zero h0]; rfl⟩
        · right
          rw [List.length_map] at hcap htake
          refine ⟨g, 0, cap, cap, by rw [List.length_map, hn], by omega, by omega, hbg, fun hI5 => absurd (h2 _ hI5) (by omega), ⟨cur, 22, 0, 0, hgb, by omega, by rw [cA_len]; simp; omega, ⟨Nat.le_refl _, fun _ _ => by omega⟩, fun i hi => ?_⟩, fun i hi => ?_⟩
          · rw [cA_len] at hi
            have hil : i < l.length := by simpa using hi
            have e5 : (cA l.toArray)[i]'(by rw [cA_len]; exact hi) = .w16 l[i] := by simp [cA]
            rw [e5]
            have h6 : (cur.toList.take (l.length * 1))[i]? = some (.int .u16 (l[i].toNat : Int)) := by rw [htake]; simp [hil]
            rw [List.getElem?_take_of_lt (by omega)] at h6
            have e6 : cur.getD (0 + i) undef = .int .u16 (l[i].toNat : Int) := by
              rw [Nat.zero_add, Array.getD_eq_getD_getElem?, ← Array.getElem?_toList, h6]; rfl
            rw [e6]; exact .w16 _
          · have hil : i < l.length := by rw [cA_len] at hi; simpa using hi
            have e5 : (cA l.toArray)[i]'hi = .w16 l[i] := by simp [cA]
            rw [e5]; rfl
  · cases hg
theorem ok32 : EntOK Tryd.prog GLh 32 (.fresh false colG) := ⟨⟨_, Tryd.func32, rfl, rfl⟩, col_ok⟩

theorem pdq_okN : ∀ N : Nat, HeapOK Tryd.prog GLh 38 (mutH (pdqG N))
  | 0 => pdq_ok0
  | N + 1 => pdq_okS N (pdq_okN N)
theorem ok38 : EntOK Tryd.prog GLh 38 (.heap (mutH (pdqG 1000001))) := ⟨⟨_, Tryd.func38, rfl, rfl⟩, pdq_okN 1000001⟩

def srtG : List AV → List AV → Option (AV × List AV)
  | [.os _ 0 n 1 _], xs => obind (unA xs) fun l => guardO (l.length = n ∧ n ≤ 1000000) (some (.tup [], cA (sortL l).toArray))
  | _, _ => none
theorem srtG_eq (id n : Nat) (gg : Bool) (xs : List AV) : srtG [.os id 0 n 1 gg] xs = obind (unA xs) fun l => guardO (l.length = n ∧ n ≤ 1000000) (some (.tup [], cA (sortL l).toArray)) := (rfl)
theorem frzArg_fn (hp : H) (f : FuncId) (xs : List AV) : frzArg hp (.fn f xs) = some (.fn f xs, hp) := (rfl)
attribute [go_sem] srtG_eq valG_eq colG_eq frzArg_fn

set_option maxHeartbeats 1000000 in
theorem srt_ok : HeapOK Tryd.prog GLh 33 (mutH srtG) := by
  refine mut_of_awp Tryd.func33 (bodyOf_some rfl) ?_
  intro id off n e gg rest nx xs r ys hg
  unfold srtG at hg
  split at hg
  · rename_i id2 n2 gg2 heq
    simp only [List.cons.injEq, AV.os.injEq] at heq
    obtain ⟨⟨rfl, rfl, rfl, rfl, rfl⟩, rfl⟩ := heq
    replace hg := obind_inv hg; obtain ⟨l, hl, hg⟩ := hg
    replace hg := guardO_inv hg; obtain ⟨⟨hn, hbig⟩, hg⟩ := hg
    simp only [Option.some.injEq, Prod.mk.injEq] at hg; obtain ⟨rfl, rfl⟩ := hg
    have := unA_inv hl; subst this
    obtain ⟨R, hR⟩ : ∃ R, (sortL l).toArray = R := ⟨_, rfl⟩
    obtain ⟨d, hd⟩ : ∃ d, l.toArray = d := ⟨_, rfl⟩
    have hds : d.size = n := by rw [← hd]; simpa using hn
    have hR2 : Sort.pdq ltN d 0 n (Sort.bitsLen n) true true = R := by
      rw [← hR, ← hd]; unfold sortL Sort.sort; simp [← hds, ← hd]
    rw [hR, hd]
    have h20 := bits20 hbig
    have e1 := ofI_nat hbig
    have hB : Sort.Below ltN 0 n d := .inl rfl
    refine ⟨Nat.le_of_ble_eq_true rfl, fun hid => ?_⟩
    clear hl hn
    refine awp_seqP rfl ?_
    refine awp_regP (Γ := noEnv) [0, 2] (noEnv_ok _ _) rfl rfl rfl (fun K hK => ?_)
    simp only [Tryd.f33, bodyOf, Option.getD_some, cl, rOps, lights, light, rN, List.size_toArray, List.length_cons, List.length_nil, Nat.reduceAdd, Nat.zero_add, List.map_cons, List.map_nil, Option.map_none]
    simp (maxSteps := 300000) (disch := omega) only [go_sem, Nat.reduceAdd, ↓reduceIte]
    with_reducible refine hK _ ?_
    clear hK K
    refine nx_then ?_
    refine awp_regP (Γ := envL [(39, .pure true lenG), (38, .heap (mutH (pdqG 1000001)))]) [] (envOK_cons ok39 (envOK_cons ok38 envOK_nil)) rfl rfl rfl (fun K hK => ?_)
    simp only [Tryd.f33, bodyOf, Option.getD_some, cr, rOps, lights, light, rN, List.size_toArray, List.length_cons, List.length_nil, Nat.reduceAdd, Nat.zero_add, List.map_cons, List.map_nil, Option.map_none]
    simp (maxSteps := 300000) (disch := omega) only [go_sem, Nat.reduceAdd, Int.reduceLE, ↓reduceIte, e1, hds, hB, hR2, Int.toNat_natCast, Int.toNat_zero]
    with_reducible refine hK _ ?_
    clear hK K
    exact ⟨rfl, by simp only [up_app, if_true], rfl, cA_nm _⟩
  · cases hg
theorem ok33 : EntOK Tryd.prog GLh 33 (.heap (mutH srtG)) := ⟨⟨_, Tryd.func33, rfl, rfl⟩, srt_ok⟩

def srdG : List AV → Option (Nat × Nat × List AV)
  | [.fn 34 [.rp [.sl n xs]]] => obind (unA xs) fun l => guardO (l.length = n ∧ n ≤ 1000000) (some (n, 1, cA (sortL l).toArray))
  | _ => none
theorem srdG_eq (n : Nat) (xs : List AV) : srdG [.fn 34 [.rp [.sl n xs]]] = obind (unA xs) fun l => guardO (l.length = n ∧ n ≤ 1000000) (some (n, 1, cA (sortL l).toArray)) := (rfl)
attribute [go_sem] srdG_eq
set_option maxHeartbeats 1000000 in
theorem srd_ok : FreshOK Tryd.prog GLh 28 srdG := by
  refine fresh_of_awp Tryd.func28 (bodyOf_some rfl) ?_
  intro args r hg
  unfold srdG at hg
  split at hg
  · rename_i n xs
    replace hg := obind_inv hg; obtain ⟨l, hl, hg⟩ := hg
    replace hg := guardO_inv hg; obtain ⟨⟨hn, hbig⟩, hg⟩ := hg
    obtain rfl := Option.some.inj hg
    have := unA_inv hl; subst this
    have hsl : (sortL l).length = n := by rw [sortL_len]; exact hn
    refine ⟨Nat.le_of_ble_eq_true rfl, fun nx => ?_⟩
    clear hl hg
    refine awp_seqP rfl ?_
    refine awp_regP (Γ := noEnv) [0] (noEnv_ok _ _) rfl rfl rfl (fun K hK => ?_)
    simp only [Tryd.f28, bodyOf, Option.getD_some, cl, rOps, lights, light, rN, List.size_toArray, List.length_cons, List.length_nil, Nat.zero_add, List.map_cons, List.map_nil, Option.map_none]
    simp (maxSteps := 300000) (disch := omega) only [go_sem, ↓reduceIte]
    with_reducible refine hK _ ?_
    clear hK K
    refine nx_then ?_
    refine awp_seqP rfl ?_
    refine awp_regP (Γ := envL [(32, .fresh false colG)]) [3] (envOK_cons ok32 envOK_nil) rfl rfl rfl (fun K hK => ?_)
    simp only [Tryd.f28, bodyOf, Option.getD_some, cl, cr, rOps, lights, light, rN, List.size_toArray, List.length_cons, List.length_nil, Nat.reduceAdd, Nat.zero_add, List.map_cons, List.map_nil, Option.map_none]
    simp (maxSteps := 300000) (disch := omega) only [go_sem, Nat.reduceAdd, ↓reduceIte, hn]
    with_reducible refine hK _ ?_
    clear hK K
    refine nx_then ?_
    refine awp_seqP rfl ?_
    refine awp_regP (Γ := envL [(33, .heap (mutH srtG))]) [3] (envOK_cons ok33 envOK_nil) rfl rfl rfl (fun K hK => ?_)
    simp only [Tryd.f28, bodyOf, Option.getD_some, cl, cr, rOps, lights, light, rN, List.size_toArray, List.length_cons, List.length_nil, Nat.reduceAdd, Nat.zero_add, List.map_cons, List.map_nil, Option.map_none]
    simp (maxSteps := 300000) (disch := omega) only [go_sem, Nat.reduceAdd, ↓reduceIte, hn]
    with_reducible refine hK _ ?_
    clear hK K
    refine nx_then ?_
    refine awp_seqP rfl ?_
    refine awp_regP (Γ := noEnv) [2] (noEnv_ok _ _) rfl rfl rfl (fun K hK => ?_)
    simp only [Tryd.f28, bodyOf, Option.getD_some, cl, cr, rOps, lights, light, rN, List.size_toArray, List.length_cons, List.length_nil, Nat.reduceAdd, Nat.zero_add, List.map_cons, List.map_nil, Option.map_none]
    simp (maxSteps := 300000) (disch := omega) only [go_sem, Nat.reduceAdd, ↓reduceIte]
    with_reducible refine hK _ ?_
    clear hK K
    refine nx_then ?_
    refine awp_retP rfl ?_
    simp (disch := omega) only [freshQ, freshR, resA, resAL, resA1, Tryd.f28, go_sem, ↓reduceIte, hsl]
  · cases hg
theorem ok28 : EntOK Tryd.prog GLh 28 (.fresh false srdG) := ⟨⟨_, Tryd.func28, rfl, rfl⟩, srd_ok⟩
end Go.AX

namespace Go.AX
open Go Go.Proofs

theorem compL_snoc : ∀ (p : List T16) (a x : T16), compL (p ++ [a] ++ [x]) = if a = x then compL (p ++ [a]) else compL (p ++ [a]) ++ [x]
  | [], a, x => by show compL [a, x] = _; rw [compL]; split <;> simp_all [compL]
  | [b], a, x => by
    have h := compL_snoc [] a x
    simp only [List.nil_append, List.cons_append] at h ⊢
    rw [compL, h]
    conv => rhs; rw [compL]
    split <;> split <;> simp
  | b :: c :: p, a, x => by
    have h := compL_snoc (c :: p) a x
    simp only [List.cons_append] at h ⊢
    rw [compL, h]
    conv => rhs; rw [compL]
    split <;> split <;> simp
theorem take_succ16 (d : Array T16) (j : Nat) (h : j < d.size) : d.toList.take (j + 1) = d.toList.take j ++ [d[j]!] := by
  rw [List.take_add_one, getElem!_pos d j h]
  simp [h]
theorem compL_step (d : Array T16) (j : Nat) (h0 : 0 < j) (h : j < d.size) : compL (d.toList.take (j + 1)) = if d[j - 1]! = d[j]! then compL (d.toList.take j) else compL (d.toList.take j) ++ [d[j]!] := by
  obtain ⟨i, rfl⟩ : ∃ i, j = i + 1 := ⟨j - 1, by omega⟩
  rw [take_succ16 d (i + 1) h, take_succ16 d i (by omega), compL_snoc, Nat.add_sub_cancel]
theorem set_take16 (d : Array T16) (k : Nat) (x : T16) (h : k < d.size) : (d.setIfInBounds k x).toList.take (k + 1) = d.toList.take k ++ [x] := by
  have h1 := take_succ16 (d.setIfInBounds k x) k (by simpa using h)
  rw [h1]
  congr 1
  · simp [List.take_set_of_le]
  · rw [getElem!_pos _ k (by simpa using h)]; simp
theorem set_get16 (d : Array T16) (k i : Nat) (x : T16) (h : k ≠ i) : (d.setIfInBounds k x)[i]! = d[i]! := by
  by_cases hi : i < d.size
  · rw [getElem!_pos _ i (by simpa using hi), getElem!_pos _ i hi]
    rw [Array.getElem_setIfInBounds]
    rw [if_neg h]
  · rw [getElem!_neg _ i (by simpa using hi), getElem!_neg _ i hi]
theorem cA_take (d : Array T16) (k : Nat) : (cA d).take k = cA (d.toList.take k).toArray := by simp [cA, List.map_take]
structure SCP where
  k : Nat
  j : Nat
  d : Array T16
  c : Nat
def cmpG : List AV → List AV → Option (AV × List AV)
  | [.os id 0 n 1 gg], xs => obind (unA xs) fun l => guardO (l.length = n ∧ n ≤ 1000000) (some (.os id 0 (compL l).length 1 gg, cA (compL l).toArray))
  | _, _ => none
theorem cmpG_eq (id n : Nat) (gg : Bool) (xs : List AV) : cmpG [.os id 0 n 1 gg] xs = obind (unA xs) fun l => guardO (l.length = n ∧ n ≤ 1000000) (some (.os id 0 (compL l).length 1 gg, cA (compL l).toArray)) := (rfl)
attribute [go_sem] cmpG_eq

set_option maxHeartbeats 2000000 in
theorem cmp_ok : HeapOK Tryd.prog GLh 27 (mutH cmpG) := by
  refine mut_of_awpR Tryd.func27 (bodyOf_some rfl) ?_
  intro id off n e gg rest nx xs r ys hg
  unfold cmpG at hg
  split at hg
  · rename_i id2 n2 gg2 heq
    simp only [List.cons.injEq, AV.os.injEq] at heq
    obtain ⟨⟨rfl, rfl, rfl, rfl, rfl⟩, rfl⟩ := heq
    replace hg := obind_inv hg; obtain ⟨l, hl, hg⟩ := hg
    replace hg := guardO_inv hg; obtain ⟨⟨hn, hbig⟩, hg⟩ := hg
    simp only [Option.some.injEq, Prod.mk.injEq] at hg; obtain ⟨rfl, rfl⟩ := hg
    have := unA_inv hl; subst this
    obtain ⟨d, hd⟩ : ∃ d, l.toArray = d := ⟨_, rfl⟩
    have hds : d.size = n := by rw [← hd]; simpa using hn
    obtain rfl : l = d.toList := by rw [← hd]
    have hdl : d.toList.take n = d.toList := List.take_of_length_le (by rw [Array.length_toList]; omega)
    obtain ⟨C, hC⟩ : ∃ C, compL d.toList = C := ⟨_, rfl⟩
    rw [Array.toArray_toList, hC]
    refine ⟨Nat.le_of_ble_eq_true rfl, fun hid => ?_⟩
    clear hl hn hd
    refine awp_seqP rfl ?_
    refine awp_regP (Γ := noEnv) [0] (noEnv_ok _ _) rfl rfl rfl (fun K hK => ?_)
    simp only [Tryd.f27, bodyOf, Option.getD_some, cl, rOps, lights, light, rN, List.size_toArray, List.length_cons, List.length_nil, Nat.zero_add, List.map_cons, List.map_nil, Option.map_none]
    simp (maxSteps := 300000) (disch := omega) only [go_sem, ↓reduceIte]
    with_reducible refine hK _ ?_
    clear hK K
    refine nx_then ?_
    refine awp_seqP rfl ?_
    refine awp_seqP rfl ?_
    refine awp_regP (Γ := noEnv) [8, 0] (noEnv_ok _ _) rfl rfl rfl (fun K hK => ?_)
    simp only [Tryd.f27, bodyOf, Option.getD_some, cl, cr, rOps, lights, light, rN, List.size_toArray, List.length_cons, List.length_nil, Nat.reduceAdd, Nat.zero_add, List.map_cons, List.map_nil, Option.map_none]
    simp (maxSteps := 300000) (disch := omega) only [go_sem, Nat.reduceAdd, ↓reduceIte]
    with_reducible refine hK _ ?_
    clear hK K
    refine nx_then ?_
    refine awp_ifD (.tmp 8) rfl rfl rfl (fun h => ?_) (fun h => ?_)
    · skip
      refine awp_drop rfl ?_
      have hn1 : n < 2 := by omega
      have hCd : C = d.toList := by
        rw [← hC]
        generalize hdd : d.toList = q at *
        have hq : q.length = n := by rw [← hdd, Array.length_toList]; exact hds
        match q, hq with
        | [], _ => rfl
        | [x], _ => rfl
        | x :: y :: r, hq => simp at hq; omega
      refine awp_seqP rfl ?_
      refine awp_regP (Γ := noEnv) [2] (noEnv_ok _ _) rfl rfl rfl (fun K hK => ?_)
      simp only [Tryd.f27, bodyOf, Option.getD_some, cl, cr, rOps, lights, light, rN, List.size_toArray, List.length_cons, List.length_nil, Nat.reduceAdd, Nat.zero_add, List.map_cons, List.map_nil, Option.map_none]
      simp (maxSteps := 300000) (disch := omega) only [go_sem, Nat.reduceAdd, ↓reduceIte]
      with_reducible refine hK _ ?_
      clear hK K
      refine nx_then ?_
      refine awp_retP rfl ?_
      refine nx_ret_then ?_
      refine ⟨?_, ?_, .inr ⟨_, _, _, _, rfl⟩, cA_nm _⟩
      · rw [hCd, Array.length_toList, hds]; rfl
      · simp only [up_app, if_true, hCd, Array.toArray_toList]
    · skip
      refine awp_drop rfl ?_
      have hn2 : 2 ≤ n := by omega
      have hc1 : compL (d.toList.take 1) = d.toList.take 1 := by
        generalize d.toList = q
        match q with
        | [] => rfl
        | x :: r => rfl
      refine awp_skipP rfl ?_
      refine nx_then ?_
      refine awp_seqP rfl ?_
      refine awp_seqP rfl ?_
      refine awp_regP (Γ := noEnv) [0, 3] (noEnv_ok _ _) rfl rfl rfl (fun K hK => ?_)
      simp only [Tryd.f27, bodyOf, Option.getD_some, cl, cr, rOps, lights, light, rN, List.size_toArray, List.length_cons, List.length_nil, Nat.zero_add, List.map_cons, List.map_nil, Option.map_none]
      simp (maxSteps := 300000) (disch := omega) only [go_sem, ↓reduceIte]
      with_reducible refine hK _ ?_
      clear hK K
      refine nx_then ?_
      refine awp_blockN 0 rfl rfl ?_
      refine awp_loopP (fun p : SKC => { fr := [(0, .os id 0 n 1 gg), (3, .i p.k)], hp := upd (fun _ => none) id (.cells (cA d) true), nx := 0, cx := p.c }) (fun p => compL (d.toList.take p.k) = d.toList.take p.k ∧ 0 < p.k ∧ p.k ≤ n ∧ id < p.c) (fun p => n - p.k) rfl ⟨⟨1, _⟩, ⟨hc1, by simp only; omega, by simp only; omega, by simp only; omega⟩, sub_same rfl rfl (Nat.le_refl _)⟩ ?_
      rintro ⟨k, c⟩ ⟨hr, hk0, hkn, hc⟩ n0
      simp only at hr hk0 hkn hc ⊢
      refine awp_seqP rfl ?_
      refine awp_seqP rfl ?_
      refine awp_regP (Γ := noEnv) [13, 0, 3] (noEnv_ok _ _) rfl rfl rfl (fun K hK => ?_)
      simp only [Tryd.f27, bodyOf, Option.getD_some, cl, cr, rOps, lights, light, rN, List.size_toArray, List.length_cons, List.length_nil, Nat.reduceAdd, Nat.zero_add, List.map_cons, List.map_nil, Option.map_none]
      simp (maxSteps := 300000) (disch := omega) only [go_sem, Nat.reduceAdd, ↓reduceIte]
      with_reducible refine hK _ ?_
      clear hK K
      refine nx_then ?_
      refine awp_ifD (.tmp 13) rfl rfl rfl (fun h => ?_) (fun h => ?_)
      · skip
        refine awp_drop rfl ?_
        have hkn2 : k < n := by omega
        have ek : (k : Int) - 1 = ((k - 1 : Nat) : Int) := by omega
        have hst := compL_step d k hk0 (by omega)
        refine awp_skipP rfl ?_
        refine nx_then ?_
        refine awp_seqP rfl ?_
        refine awp_blockN 1 rfl rfl ?_
        refine awp_seqP rfl ?_
        refine awp_drwP (Γ := noEnv) (fun _ => 2) [25, 0, 3] mixed (noEnv_ok _ _) rfl rfl rfl (by kernel_rfl) (fun K hK => ?_)
        simp only [Tryd.f27, bodyOf, Option.getD_some, cl, cr, rOps, lights, light, rN, List.size_toArray, List.length_cons, List.length_nil, Nat.reduceAdd, Nat.zero_add, List.map_cons, List.map_nil, Option.map_none]
        simp (maxSteps := 300000) (disch := omega) only [go_sem, Nat.reduceAdd, ↓reduceIte, ek, Int.toNat_natCast]
        with_reducible refine hK _ ?_
        clear hK K
        refine nx_then ?_
        refine awp_ifD (.tmp 25) rfl rfl rfl (fun h => ?_) (fun h => ?_)
        · skip
          refine awp_drop rfl ?_
          rw [if_pos h.symm] at hst
          refine awp_seqP rfl ?_
          refine awp_regP (Γ := noEnv) [0, 3, 4] (noEnv_ok _ _) rfl rfl rfl (fun K hK => ?_)
          simp only [Tryd.f27, bodyOf, Option.getD_some, cl, cr, rOps, lights, light, rN, List.size_toArray, List.length_cons, List.length_nil, Nat.reduceAdd, Nat.zero_add, List.map_cons, List.map_nil, Option.map_none]
          simp (maxSteps := 300000) (disch := omega) only [go_sem, Nat.reduceAdd, ↓reduceIte]
          with_reducible refine hK _ ?_
          clear hK K
          refine nx_then ?_
          refine awp_seqP rfl ?_
          refine awp_seqP rfl ?_
          refine awp_regP (Γ := noEnv) [0, 3, 4, 5] (noEnv_ok _ _) rfl rfl rfl (fun K hK => ?_)
          simp only [Tryd.f27, bodyOf, Option.getD_some, cl, cr, rOps, lights, light, rN, List.size_toArray, List.length_cons, List.length_nil, Nat.zero_add, List.map_cons, List.map_nil, Option.map_none]
          simp (maxSteps := 300000) (disch := omega) only [go_sem, ↓reduceIte]
          with_reducible refine hK _ ?_
          clear hK K
          refine nx_then ?_
          refine awp_blockN 2 rfl rfl ?_
          refine awp_loopP (fun p : SCP => { fr := [(0, .os id 0 n 1 gg), (3, .i p.k), (4, .os id k (n - k) 1 gg), (5, .i p.j)], hp := upd (fun _ => none) id (.cells (cA p.d) true), nx := 0, cx := p.c }) (fun p => compL (d.toList.take (k + p.j)) = p.d.toList.take p.k ∧ (∀ i, p.k ≤ i → p.d[i]! = d[i]!) ∧ p.d.size = n ∧ p.k + 1 ≤ k + p.j ∧ 1 ≤ p.j ∧ k + p.j ≤ n ∧ id < p.c) (fun p => n - p.j) rfl ⟨⟨k, 1, d, _⟩, ⟨by simp only; rw [hst, hr], fun _ _ => rfl, hds, by simp only; omega, by simp only; omega, by simp only; omega, by simp only; omega⟩, sub_same (by simp only [Int.cast_ofNat_Int]) rfl (Nat.le_refl _)⟩ ?_
          rintro ⟨m, j, d1, c1⟩ ⟨hq1, hq2, hs1, hm, hj0, hjn, hc1⟩ n0
          simp only at hq1 hq2 hs1 hm hj0 hjn hc1 ⊢
          refine awp_seqP rfl ?_
          refine awp_seqP rfl ?_
          refine awp_regP (Γ := noEnv) [32, 0, 3, 4, 5] (noEnv_ok _ _) rfl rfl rfl (fun K hK => ?_)
          simp only [Tryd.f27, bodyOf, Option.getD_some, cl, cr, rOps, lights, light, rN, List.size_toArray, List.length_cons, List.length_nil, Nat.reduceAdd, Nat.zero_add, List.map_cons, List.map_nil, Option.map_none]
          simp (maxSteps := 300000) (disch := omega) only [go_sem, Nat.reduceAdd, ↓reduceIte]
          with_reducible refine hK _ ?_
          clear hK K
          refine nx_then ?_
          refine awp_ifD (.tmp 32) rfl rfl rfl (fun h => ?_) (fun h => ?_)
          · skip
            refine awp_drop rfl ?_
            have hjn2 : k + j < n := by omega
            have ej : (j : Int) - 1 = ((j - 1 : Nat) : Int) := by omega
            have ej2 : k + (j - 1) = k + j - 1 := by omega
            have hst2 := compL_step d (k + j) (by omega) (by omega)
            have g1 := hq2 (k + j) (by omega)
            have g2 := hq2 (k + j - 1) (by omega)
            refine awp_skipP rfl ?_
            refine nx_then ?_
            refine awp_seqP rfl ?_
            refine awp_blockN 3 rfl rfl ?_
            refine awp_seqP rfl ?_
            refine awp_drwP (Γ := noEnv) (fun _ => 2) [44, 0, 3, 4, 5] mixed (noEnv_ok _ _) rfl rfl rfl (by kernel_rfl) (fun K hK => ?_)
            simp only [Tryd.f27, bodyOf, Option.getD_some, cl, cr, rOps, lights, light, rN, List.size_toArray, List.length_cons, List.length_nil, Nat.reduceAdd, Nat.zero_add, List.map_cons, List.map_nil, Option.map_none]
            simp (maxSteps := 300000) (disch := omega) only [go_sem, Nat.reduceAdd, ↓reduceIte, ej, ej2, g1, g2, Int.toNat_natCast]
            with_reducible refine hK _ ?_
            clear hK K
            refine nx_then ?_
            refine awp_ifE (.tmp 44) rfl rfl rfl (fun h => ?_) (fun h => ?_)
            · skip
              refine awp_drop rfl ?_
              have hmn : m < n := by omega
              rw [if_neg (fun e => h e.symm)] at hst2
              refine awp_seqP rfl ?_
              refine awp_regP (Γ := noEnv) [0, 3, 4, 5] (noEnv_ok _ _) rfl rfl rfl (fun K hK => ?_)
              simp only [Tryd.f27, bodyOf, Option.getD_some, cl, cr, rOps, lights, light, rN, List.size_toArray, List.length_cons, List.length_nil, Nat.reduceAdd, Nat.zero_add, List.map_cons, List.map_nil, Option.map_none]
              simp (maxSteps := 300000) (disch := omega) only [go_sem, Nat.reduceAdd, ↓reduceIte, hs1, g1, Int.toNat_natCast]
              with_reducible refine hK _ ?_
              clear hK K
              refine nx_then ?_
              refine awp_regP (Γ := noEnv) [0, 3, 4, 5] (noEnv_ok _ _) rfl rfl rfl (fun K hK => ?_)
              simp only [Tryd.f27, bodyOf, Option.getD_some, cl, cr, rOps, lights, light, rN, List.size_toArray, List.length_cons, List.length_nil, Nat.reduceAdd, Nat.zero_add, List.map_cons, List.map_nil, Option.map_none]
              simp (maxSteps := 300000) (disch := omega) only [go_sem, Nat.reduceAdd, ↓reduceIte]
              with_reducible refine hK _ ?_
              clear hK K
              refine nx_blk (nx_then ?_)
              refine awp_regP (Γ := noEnv) [0, 3, 4, 5] (noEnv_ok _ _) rfl rfl rfl (fun K hK => ?_)
              simp only [Tryd.f27, bodyOf, Option.getD_some, cl, cr, rOps, lights, light, rN, List.size_toArray, List.length_cons, List.length_nil, Nat.reduceAdd, Nat.zero_add, List.map_cons, List.map_nil, Option.map_none]
              simp (maxSteps := 300000) (disch := omega) only [go_sem, Nat.reduceAdd, ↓reduceIte]
              with_reducible refine hK _ ?_
              clear hK K
              refine nx_loop ?_
              refine ⟨⟨m + 1, j + 1, d1.setIfInBounds m d[k + j]!, _⟩, ⟨by simp only; rw [show k + (j + 1) = k + j + 1 by omega, hst2, hq1, set_take16 _ _ _ (by omega)], fun i hi => ?_, by simp only [Array.size_setIfInBounds]; exact hs1, by simp only; omega, by simp only; omega, by simp only; omega, by simp only; omega⟩, by simp only; omega, ⟨fun _ => .inr (by simp only [Int.natCast_add, Int.natCast_one]), hsub_cons (by simp (disch := omega) only [up_app, ↓reduceIte, eq_self]) hsub_nil, Nat.le_refl _⟩⟩
              simp only at hi ⊢
              rw [set_get16 _ _ _ _ (by omega)]; exact hq2 i (by omega)
            · skip
              refine awp_drop rfl ?_
              rw [if_pos h.symm] at hst2
              refine awp_skipP rfl ?_
              refine nx_blk (nx_then ?_)
              refine awp_regP (Γ := noEnv) [0, 3, 4, 5] (noEnv_ok _ _) rfl rfl rfl (fun K hK => ?_)
              simp only [Tryd.f27, bodyOf, Option.getD_some, cl, cr, rOps, lights, light, rN, List.size_toArray, List.length_cons, List.length_nil, Nat.reduceAdd, Nat.zero_add, List.map_cons, List.map_nil, Option.map_none]
              simp (maxSteps := 300000) (disch := omega) only [go_sem, Nat.reduceAdd, ↓reduceIte]
              with_reducible refine hK _ ?_
              clear hK K
              refine nx_loop ?_
              refine ⟨⟨m, j + 1, d1, _⟩, ⟨by simp only; rw [show k + (j + 1) = k + j + 1 by omega, hst2, hq1], hq2, hs1, by simp only; omega, by simp only; omega, by simp only; omega, by simp only; omega⟩, by simp only; omega, sub_same (by simp only [Int.natCast_add, Int.natCast_one]) rfl (Nat.le_refl _)⟩
          · skip
            refine awp_drop rfl ?_
            have hjn3 : k + j = n := by omega
            rw [hjn3, hdl, hC] at hq1
            have hmn : m ≤ n := by omega
            have hCl : C.length = m := by rw [hq1, List.length_take, Array.length_toList]; omega
            refine awp_exitN 2 rfl rfl ?_
            refine nx_ex_then (nx_ex_loop (nx_ex_blk ?_))
            refine nx_then ?_
            refine awp_seqP rfl ?_
            refine awp_regP (Γ := noEnv) [0, 3] (noEnv_ok _ _) rfl rfl rfl (fun K hK => ?_)
            simp only [Tryd.f27, bodyOf, Option.getD_some, cl, cr, rOps, lights, light, rN, List.size_toArray, List.length_cons, List.length_nil, Nat.reduceAdd, Nat.zero_add, List.map_cons, List.map_nil, Option.map_none]
            simp (maxSteps := 300000) (disch := omega) only [go_sem, Nat.reduceAdd, Nat.reduceLT, ↓reduceIte, hs1, Int.toNat_natCast]
            with_reducible refine hK _ ?_
            clear hK K
            refine nx_then ?_
            refine awp_seqP rfl ?_
            refine awp_regP (Γ := noEnv) [2] (noEnv_ok _ _) rfl rfl rfl (fun K hK => ?_)
            simp only [Tryd.f27, bodyOf, Option.getD_some, cl, cr, rOps, lights, light, rN, List.size_toArray, List.length_cons, List.length_nil, Nat.reduceAdd, Nat.zero_add, List.map_cons, List.map_nil, Option.map_none]
            simp (maxSteps := 300000) (disch := omega) only [go_sem, Nat.reduceAdd, Int.reduceLE, Int.reduceToNat, ↓reduceIte]
            with_reducible refine hK _ ?_
            clear hK K
            refine nx_then ?_
            refine awp_trunc id m _ (by simp only [up_app, if_true]; rfl) ?_
            refine awp_retP rfl ?_
            refine nx_ret_blk (nx_ret_then (nx_ret_loop (nx_ret_blk (nx_ret_then ?_))))
            refine ⟨?_, ?_, .inr ⟨_, _, _, _, rfl⟩, cA_nm _⟩
            · rw [hCl]; rfl
            · simp only [up_app, if_true]
              rw [hq1, ← cA_take]
              simp [splice, cA_len, hs1, hmn]
        · skip
          refine awp_drop rfl ?_
          rw [if_neg (fun e => h e.symm), hr] at hst
          rw [← take_succ16 d k (by omega)] at hst
          refine awp_skipP rfl ?_
          refine nx_blk (nx_then ?_)
          refine awp_regP (Γ := noEnv) [0, 3] (noEnv_ok _ _) rfl rfl rfl (fun K hK => ?_)
          simp only [Tryd.f27, bodyOf, Option.getD_some, cl, cr, rOps, lights, light, rN, List.size_toArray, List.length_cons, List.length_nil, Nat.reduceAdd, Nat.zero_add, List.map_cons, List.map_nil, Option.map_none]
          simp (maxSteps := 300000) (disch := omega) only [go_sem, Nat.reduceAdd, ↓reduceIte]
          with_reducible refine hK _ ?_
          clear hK K
          refine nx_loop ?_
          refine ⟨⟨k + 1, _⟩, ⟨hst, by simp only; omega, by simp only; omega, by simp only; omega⟩, by simp only; omega, sub_same (by simp only [Int.natCast_add, Int.natCast_one]) rfl (Nat.le_refl _)⟩
      · skip
        refine awp_drop rfl ?_
        have hkn3 : k = n := by omega
        rw [hkn3, hdl, hC] at hr
        refine awp_exitN 0 rfl rfl ?_
        refine nx_ex_then (nx_ex_loop (nx_ex_blk ?_))
        refine nx_then ?_
        refine awp_seqP rfl ?_
        refine awp_regP (Γ := noEnv) [2] (noEnv_ok _ _) rfl rfl rfl (fun K hK => ?_)
        simp only [Tryd.f27, bodyOf, Option.getD_some, cl, cr, rOps, lights, light, rN, List.size_toArray, List.length_cons, List.length_nil, Nat.reduceAdd, Nat.zero_add, List.map_cons, List.map_nil, Option.map_none]
        simp (maxSteps := 300000) (disch := omega) only [go_sem, Nat.reduceAdd, ↓reduceIte]
        with_reducible refine hK _ ?_
        clear hK K
        refine nx_then ?_
        refine awp_retP rfl ?_
        refine ⟨?_, ?_, .inr ⟨_, _, _, _, rfl⟩, cA_nm _⟩
        · rw [hr, Array.length_toList, hds]; rfl
        · simp only [up_app, if_true, hr, Array.toArray_toList]
  · cases hg
theorem ok27 : EntOK Tryd.prog GLh 27 (.heap (mutH cmpG)) := ⟨⟨_, Tryd.func27, rfl, rfl⟩, cmp_ok⟩
end Go.AX

namespace Go.AX
open Go Go.Proofs

theorem cvb5 (hp hp2 : H) (cx id : Nat) (x : AV) (sd : Bool) : cvF hp hp2 cx id x Tryd.prog.underlying sd (some (.slice 5)) (some .string) = obind (slCells hp2 1 x) fun nl => obind (unW8 nl.2) fun l => some (.s l, hp, cx) := cvF_b2s _ _ _ _ _ _ _ _ Tryd.underlying5
theorem cvs5 (hp hp2 : H) (cx id : Nat) (l : List B8) (sd : Bool) : cvF hp hp2 cx id (.s l) Tryd.prog.underlying sd (some .string) (some (.slice 5)) = guardO (l.length ≤ 140737488355328) (some (.os id 0 l.length 1 true, upd hp id (.cells (l.map .w8) true), cx)) := cvF_s2b _ _ _ _ _ _ _ _ Tryd.underlying5
attribute [go_sem] cvb5 cvs5
theorem sk1 : ofV (Value.string { data := #[65] }) = .s [65#8] := (rfl)
theorem sk2 : ofV (Value.string { data := #[78, 83] }) = .s [78#8, 83#8] := (rfl)
theorem sk5 : ofV (Value.string { data := #[67, 78, 65, 77, 69] }) = .s [67#8, 78#8, 65#8, 77#8, 69#8] := (rfl)
theorem sk6 : ofV (Value.string { data := #[83, 79, 65] }) = .s [83#8, 79#8, 65#8] := (rfl)
theorem sk15 : ofV (Value.string { data := #[77, 88] }) = .s [77#8, 88#8] := (rfl)
theorem sk16 : ofV (Value.string { data := #[84, 88, 84] }) = .s [84#8, 88#8, 84#8] := (rfl)
theorem sk28 : ofV (Value.string { data := #[65, 65, 65, 65] }) = .s [65#8, 65#8, 65#8, 65#8] := (rfl)
theorem sk41 : ofV (Value.string { data := #[79, 80, 84] }) = .s [79#8, 80#8, 84#8] := (rfl)
theorem sk43 : ofV (Value.string { data := #[68, 83] }) = .s [68#8, 83#8] := (rfl)
theorem sk46 : ofV (Value.string { data := #[82, 82, 83, 73, 71] }) = .s [82#8, 82#8, 83#8, 73#8, 71#8] := (rfl)
theorem sk48 : ofV (Value.string { data := #[68, 78, 83, 75, 69, 89] }) = .s [68#8, 78#8, 83#8, 75#8, 69#8, 89#8] := (rfl)
theorem sk50 : ofV (Value.string { data := #[78, 83, 69, 67, 51] }) = .s [78#8, 83#8, 69#8, 67#8, 51#8] := (rfl)
theorem sk51 : ofV (Value.string { data := #[78, 83, 69, 67, 51, 80, 65, 82, 65, 77] }) = .s [78#8, 83#8, 69#8, 67#8, 51#8, 80#8, 65#8, 82#8, 65#8, 77#8] := (rfl)
theorem sk255 : ofV (Value.string { data := #[65, 78, 89] }) = .s [65#8, 78#8, 89#8] := (rfl)
theorem skT : ofV (Value.string { data := #[84, 89, 80, 69] }) = .s typeW := (rfl)
theorem sk0 : ofV (Value.string { data := #[] }) = .s [] := (rfl)
attribute [go_sem] sk1 sk2 sk5 sk6 sk15 sk16 sk28 sk41 sk43 sk46 sk48 sk50 sk51 sk255 skT sk0

/-- A table of types, as the program has it. -/
def cK (l : List (T16 × List B8)) : List AV := l.flatMap fun p => [.w16 p.1, .s p.2]
theorem cK_len (l : List (T16 × List B8)) : (cK l).length = l.length * 2 := by
  induction l with
  | nil => rfl
  | cons p l ih => show (AV.w16 p.1 :: .s p.2 :: cK l).length = _; simp only [List.length_cons, ih]; omega
theorem cK_drop (l : List (T16 × List B8)) (k : Nat) : (cK l).drop (k * 2) = cK (l.drop k) := by
  induction l generalizing k with
  | nil => simp [cK]
  | cons p l ih =>
    cases k with
    | zero => rfl
    | succ k => rw [Nat.succ_mul]; exact ih k
theorem cK_take2 (l : List (T16 × List B8)) (k : Nat) (h : k < l.length) : (cK (l.drop k)).take 2 = [.w16 (l.getD k (0#16, [])).1, .s (l.getD k (0#16, [])).2] := by
  rw [List.drop_eq_getElem_cons h, List.getD_eq_getElem?_getD, List.getElem?_eq_getElem h]; rfl
theorem tab_len : tabL.length = 14 := rfl
theorem find_at {α : Type} (p : α → Bool) (d : α) : ∀ (l : List α) (k : Nat), k < l.length → p (l.getD k d) = true → (∀ j, j < k → p (l.getD j d) = false) → l.find? p = some (l.getD k d)
  | x :: l, 0, _, hp, _ => by rw [List.find?_cons_of_pos (by simpa using hp)]; rfl
  | x :: l, k + 1, hk, hp, hn => by
    have h0 := hn 0 (by omega)
    rw [List.find?_cons_of_neg (by simpa using h0)]
    exact find_at p d l k (by simpa using hk) (by simpa using hp) fun j hj => by have := hn (j + 1) (by omega); simpa using this
theorem find_no {α : Type} (p : α → Bool) (d : α) (l : List α) (hn : ∀ j, j < l.length → p (l.getD j d) = false) : l.find? p = none := by
  rw [List.find?_eq_none]
  intro x hx
  obtain ⟨j, hj, rfl⟩ := List.getElem_of_mem hx
  have := hn j hj
  rw [List.getD_eq_getElem?_getD, List.getElem?_eq_getElem hj] at this
  simpa using this
theorem rep14 (a b : AV) : rep 14 [a, b] = [a, b, a, b, a, b, a, b, a, b, a, b, a, b, a, b, a, b, a, b, a, b, a, b, a, b, a, b] := (rfl)
theorem rep14a (a : AV) : rep 14 [a] = [a, a, a, a, a, a, a, a, a, a, a, a, a, a] := (rfl)
theorem sp2_z (a b x y : AV) (xs : List AV) : splice (a :: b :: xs) 0 [x, y] = x :: y :: xs := by simp [splice]
theorem sp2_s (a x y : AV) (xs : List AV) (k : Nat) : splice (a :: xs) (k + 1) [x, y] = a :: splice xs k [x, y] := by simp [splice, Nat.add_assoc, Nat.add_comm 1 2]

theorem cK_nm (l : List (T16 × List B8)) : AV.noMem.noMemL (cK l) = true := by
  induction l with
  | nil => rfl
  | cons p l ih => show (AV.noMem (.w16 p.1) && (AV.noMem (.s p.2) && AV.noMem.noMemL (cK l))) = true; rw [ih]; rfl
theorem cK_noOwn (l : List (T16 × List B8)) : noOwn (cK l) = true := by
  induction l with
  | nil => rfl
  | cons p l ih => show noOwn (.w16 p.1 :: .s p.2 :: cK l) = true; rw [noOwn_w16, noOwn_s, ih]
theorem cK_noOs (l : List (T16 × List B8)) : noOs (cK l) = true := by
  induction l with
  | nil => rfl
  | cons p l ih => show noOs (.w16 p.1 :: .s p.2 :: cK l) = true; rw [noOs_w16, noOs_s, ih]
attribute [go_sem] cK_len cK_nm cK_noOwn cK_noOs tab_len

def allG : List AV → Option (Nat × Nat × List AV)
  | [] => some (14, 2, cK tabL)
  | _ => none
theorem allG_eq : allG [] = some (14, 2, cK tabL) := (rfl)
attribute [go_sem] allG_eq
theorem cK_tab : [AV.w16 1#16, .s [65#8], .w16 2#16, .s [78#8, 83#8], .w16 5#16, .s [67#8, 78#8, 65#8, 77#8, 69#8], .w16 6#16, .s [83#8, 79#8, 65#8], .w16 15#16, .s [77#8, 88#8], .w16 16#16, .s [84#8, 88#8, 84#8], .w16 28#16, .s [65#8, 65#8, 65#8, 65#8], .w16 41#16, .s [79#8, 80#8, 84#8], .w16 43#16, .s [68#8, 83#8], .w16 46#16, .s [82#8, 82#8, 83#8, 73#8, 71#8], .w16 48#16, .s [68#8, 78#8, 83#8, 75#8, 69#8, 89#8], .w16 50#16, .s [78#8, 83#8, 69#8, 67#8, 51#8], .w16 51#16, .s [78#8, 83#8, 69#8, 67#8, 51#8, 80#8, 65#8, 82#8, 65#8, 77#8], .w16 255#16, .s [65#8, 78#8, 89#8]] = cK tabL := (rfl)

set_option maxHeartbeats 2000000 in
theorem all_ok : FreshOK Tryd.prog GLh 20 allG := by
  refine fresh_of_awp Tryd.func20 (bodyOf_some rfl) ?_
  intro args r hg
  unfold allG at hg
  split at hg
  · obtain rfl := Option.some.inj hg
    refine ⟨Nat.le_of_ble_eq_true rfl, fun nx => ?_⟩
    clear hg
    refine awp_seqP rfl ?_
    refine awp_regP (Γ := noEnv) [] (noEnv_ok _ _) rfl rfl rfl (fun K hK => ?_)
    simp only [Tryd.f20, bodyOf, Option.getD_some, cl, rOps, lights, light, rN, List.size_toArray, List.length_cons, List.length_nil, Nat.zero_add, List.map_cons, List.map_nil, Option.map_none]
    simp (maxSteps := 300000) (disch := omega) only [go_sem]
    with_reducible refine hK _ ?_
    clear hK K
    refine nx_then ?_
    refine awp_seqP rfl ?_
    refine awp_regP (Γ := noEnv) [0] (noEnv_ok _ _) rfl rfl rfl (fun K hK => ?_)
    simp only [Tryd.f20, bodyOf, Option.getD_some, cl, cr, rOps, lights, light, rN, List.size_toArray, List.length_cons, List.length_nil, Nat.reduceAdd, Nat.zero_add, List.map_cons, List.map_nil, Option.map_none]
    simp (maxSteps := 300000) (disch := omega) only [go_sem, Nat.reduceAdd, Nat.reduceMul, Nat.reduceLeDiff, Int.reduceLE, Int.reduceLT, BitVec.reduceOfInt, ↓reduceIte, rep14, sp2_z, sp2_s, sp_z, sp_s, bdF_str, List.getElem?_toArray, List.getElem?_cons_zero, List.getElem?_cons_succ, List.all_cons, List.all_nil, Option.isSome_some, Bool.and_self, cK_tab]
    with_reducible refine hK _ ?_
    clear hK K
    refine nx_then ?_
    refine awp_retP rfl ?_
    simp (disch := omega) only [freshQ, freshR, resA, resAL, resA1, Tryd.f20, go_sem, Nat.reduceMul, ↓reduceIte]
  · cases hg
theorem ok20 : EntOK Tryd.prog GLh 20 (.fresh true allG) := ⟨⟨_, Tryd.func20, rfl, rfl⟩, all_ok⟩

def typesL : List T16 := tabL.map (·.1)
def textsL : List (List B8) := tabL.map (·.2)
theorem typesL_len : typesL.length = 14 := rfl
theorem textsL_len : textsL.length = 14 := rfl
def wordsG : List AV → Option AV
  | [] => some (.tup [.sl 14 (cA typesL.toArray), .sl 14 (cS textsL)])
  | _ => none
theorem wordsG_eq : wordsG [] = some (.tup [.sl 14 (cA typesL.toArray), .sl 14 (cS textsL)]) := (rfl)
attribute [go_sem] wordsG_eq typesL_len textsL_len
theorem tys_lit : [AV.w16 1#16, .w16 2#16, .w16 5#16, .w16 6#16, .w16 15#16, .w16 16#16, .w16 28#16, .w16 41#16, .w16 43#16, .w16 46#16, .w16 48#16, .w16 50#16, .w16 51#16, .w16 255#16] = cA typesL.toArray := (rfl)
theorem txs_lit : [AV.s [65#8], .s [78#8, 83#8], .s [67#8, 78#8, 65#8, 77#8, 69#8], .s [83#8, 79#8, 65#8], .s [77#8, 88#8], .s [84#8, 88#8, 84#8], .s [65#8, 65#8, 65#8, 65#8], .s [79#8, 80#8, 84#8], .s [68#8, 83#8], .s [82#8, 82#8, 83#8, 73#8, 71#8], .s [68#8, 78#8, 83#8, 75#8, 69#8, 89#8], .s [78#8, 83#8, 69#8, 67#8, 51#8], .s [78#8, 83#8, 69#8, 67#8, 51#8, 80#8, 65#8, 82#8, 65#8, 77#8], .s [65#8, 78#8, 89#8]] = cS textsL := (rfl)
theorem t14a : List.take 14 (cA typesL.toArray) = cA typesL.toArray := (rfl)
theorem t14b : List.take 14 textsL = textsL := (rfl)
set_option maxHeartbeats 2000000 in
theorem words_ok : PureOK Tryd.prog GLh 23 wordsG := by
  refine pure_of_awp Tryd.func23 (bodyOf_some rfl) ?_
  intro args r hg
  unfold wordsG at hg
  split at hg
  · obtain rfl := Option.some.inj hg
    refine ⟨Nat.le_of_ble_eq_true rfl, fun nx => ?_⟩
    clear hg
    refine awp_seqP rfl ?_
    refine awp_regP (Γ := noEnv) [] (noEnv_ok _ _) rfl rfl rfl (fun K hK => ?_)
    simp only [Tryd.f23, bodyOf, Option.getD_some, cl, rOps, lights, light, rN, List.size_toArray, List.length_cons, List.length_nil, Nat.reduceAdd, Nat.zero_add, List.map_cons, List.map_nil, Option.map_none]
    simp (maxSteps := 300000) (disch := omega) only [go_sem, Nat.reduceAdd]
    with_reducible refine hK _ ?_
    clear hK K
    refine nx_then ?_
    refine awp_seqP rfl ?_
    refine awp_regP (Γ := noEnv) [0, 1] (noEnv_ok _ _) rfl rfl rfl (fun K hK => ?_)
    simp only [Tryd.f23, bodyOf, Option.getD_some, cl, cr, rOps, lights, light, rN, List.size_toArray, List.length_cons, List.length_nil, Nat.reduceAdd, Nat.zero_add, List.map_cons, List.map_nil, Option.map_none]
    simp (maxSteps := 300000) (disch := omega) only [go_sem, Nat.reduceAdd, Nat.reduceLeDiff, Nat.reduceLT, Int.reduceLE, Int.reduceLT, BitVec.reduceOfInt, ↓reduceIte, rep14a, sp_z, sp_s, tys_lit, txs_lit]
    with_reducible refine hK _ ?_
    clear hK K
    refine nx_then ?_
    refine awp_retP rfl ?_
    simp (disch := omega) only [pureQ, resA, resAL, resA1, Tryd.f23, go_sem, Nat.reduceLeDiff, ↓reduceIte, t14a, t14b, cA_noOwn, cS_noOwn]
  · cases hg
theorem ok23 : EntOK Tryd.prog GLh 23 (.pure false wordsG) := ⟨⟨_, Tryd.func23, rfl, rfl⟩, words_ok⟩

def digG : List AV → Option AV
  | [.w8 c] => some (.b (decide (48#8 ≤ c) && decide (c ≤ 57#8)))
  | _ => none
theorem digG_eq (c : B8) : digG [.w8 c] = some (.b (decide (48#8 ≤ c) && decide (c ≤ 57#8))) := (rfl)
attribute [go_sem] digG_eq
set_option maxHeartbeats 2000000 in
theorem dig_ok : PureOK Tryd.prog GLh 24 digG := by
  refine pure_of_awp Tryd.func24 (bodyOf_some rfl) ?_
  intro args r hg
  unfold digG at hg
  split at hg
  · rename_i c
    obtain rfl := Option.some.inj hg
    refine ⟨Nat.le_of_ble_eq_true rfl, fun nx => ?_⟩
    clear hg
    refine awp_seqP rfl ?_
    refine awp_regP (Γ := noEnv) [0] (noEnv_ok _ _) rfl rfl rfl (fun K hK => ?_)
    simp only [Tryd.f24, bodyOf, Option.getD_some, cl, rOps, lights, light, rN, List.size_toArray, List.length_cons, List.length_nil, Nat.zero_add, List.map_cons, List.map_nil, Option.map_none]
    simp (maxSteps := 300000) (disch := omega) only [go_sem, ↓reduceIte]
    with_reducible refine hK _ ?_
    clear hK K
    refine nx_then ?_
    by_cases h1 : 48#8 ≤ c
    · skip
      have hd : decide (48#8 ≤ c) = true := decide_eq_true h1
      refine awp_seqP rfl ?_
      refine awp_regP (Γ := noEnv) [2] (noEnv_ok _ _) rfl rfl rfl (fun K hK => ?_)
      simp only [Tryd.f24, bodyOf, Option.getD_some, cl, cr, rOps, lights, light, rN, List.size_toArray, List.length_cons, List.length_nil, Nat.reduceAdd, Nat.zero_add, List.map_cons, List.map_nil, Option.map_none, Option.map_some, List.getElem?_toArray, List.getElem?_cons_zero, List.getElem?_cons_succ, Option.bind_some]
      simp (maxSteps := 300000) (disch := omega) only [go_sem, Nat.reduceAdd, Int.reduceLE, Int.reduceLT, BitVec.reduceOfInt, ↓reduceIte, hd]
      with_reducible refine hK _ ?_
      clear hK K
      refine nx_then ?_
      refine awp_retP rfl ?_
      simp (disch := omega) only [pureQ, resA, resAL, resA1, Tryd.f24, go_sem, ↓reduceIte, Bool.true_and, hd]
    · skip
      have hd : decide (48#8 ≤ c) = false := decide_eq_false h1
      refine awp_seqP rfl ?_
      refine awp_regP (Γ := noEnv) [2] (noEnv_ok _ _) rfl rfl rfl (fun K hK => ?_)
      simp only [Tryd.f24, bodyOf, Option.getD_some, cl, cr, rOps, lights, light, rN, List.size_toArray, List.length_cons, List.length_nil, Nat.reduceAdd, Nat.zero_add, List.map_cons, List.map_nil, Option.map_none, Option.map_some, List.getElem?_toArray, List.getElem?_cons_zero, List.getElem?_cons_succ, Option.bind_some]
      simp (maxSteps := 300000) (disch := omega) only [go_sem, Nat.reduceAdd, Int.reduceLE, Int.reduceLT, BitVec.reduceOfInt, reduceCtorEq, ↓reduceIte, hd]
      with_reducible refine hK _ ?_
      clear hK K
      refine nx_then ?_
      refine awp_retP rfl ?_
      simp (disch := omega) only [pureQ, resA, resAL, resA1, Tryd.f24, go_sem, ↓reduceIte, Bool.false_and, hd]
  · cases hg
theorem ok24 : EntOK Tryd.prog GLh 24 (.pure true digG) := ⟨⟨_, Tryd.func24, rfl, rfl⟩, dig_ok⟩

def hpG : List AV → Option AV
  | [.s a, .s b] => guardO (a.length ≤ 9223372036854775807 ∧ b.length ≤ 9223372036854775807) (some (.b (decide (a.take b.length = b))))
  | _ => none
theorem hpG_eq (a b : List B8) : hpG [.s a, .s b] = guardO (a.length ≤ 9223372036854775807 ∧ b.length ≤ 9223372036854775807) (some (.b (decide (a.take b.length = b)))) := (rfl)
attribute [go_sem] hpG_eq
set_option maxHeartbeats 2000000 in
theorem hp_ok : PureOK Tryd.prog GLh 36 hpG := by
  refine pure_of_awp Tryd.func36 (bodyOf_some rfl) ?_
  intro args r hg
  unfold hpG at hg
  split at hg
  · rename_i a b
    replace hg := guardO_inv hg; obtain ⟨⟨ha, hb⟩, hg⟩ := hg
    obtain rfl := Option.some.inj hg
    refine ⟨Nat.le_of_ble_eq_true rfl, fun nx => ?_⟩
    clear hg
    refine awp_seqP rfl ?_
    refine awp_regP (Γ := noEnv) [0, 1] (noEnv_ok _ _) rfl rfl rfl (fun K hK => ?_)
    simp only [Tryd.f36, bodyOf, Option.getD_some, cl, rOps, lights, light, rN, List.size_toArray, List.length_cons, List.length_nil, Nat.zero_add, List.map_cons, List.map_nil, Option.map_none]
    simp (maxSteps := 300000) (disch := omega) only [go_sem, ↓reduceIte]
    with_reducible refine hK _ ?_
    clear hK K
    refine nx_then ?_
    by_cases h1 : b.length ≤ a.length
    · skip
      have hd : decide ((b.length : Int) ≤ (a.length : Int)) = true := decide_eq_true (by omega)
      refine awp_seqP rfl ?_
      refine awp_regP (Γ := noEnv) [4] (noEnv_ok _ _) rfl rfl rfl (fun K hK => ?_)
      simp only [Tryd.f36, bodyOf, Option.getD_some, cl, cr, rOps, lights, light, rN, List.size_toArray, List.length_cons, List.length_nil, Nat.reduceAdd, Nat.zero_add, List.map_cons, List.map_nil, Option.map_none, Option.map_some, List.getElem?_toArray, List.getElem?_cons_zero, List.getElem?_cons_succ, Option.bind_some]
      simp (maxSteps := 300000) (disch := omega) only [go_sem, Nat.reduceAdd, Int.reduceLE, Int.reduceToNat, ↓reduceIte, hd, List.drop_zero, Nat.sub_zero]
      with_reducible refine hK _ ?_
      clear hK K
      refine nx_then ?_
      refine awp_retP rfl ?_
      simp (disch := omega) only [pureQ, resA, resAL, resA1, Tryd.f36, go_sem, ↓reduceIte]
    · skip
      have hd : decide ((b.length : Int) ≤ (a.length : Int)) = false := decide_eq_false (by omega)
      have hd2 : decide (a.take b.length = b) = false := decide_eq_false fun e => by have := congrArg List.length e; rw [List.length_take] at this; omega
      have hd3 : decide (a = b) = false := decide_eq_false fun e => by rw [e] at h1; omega
      refine awp_seqP rfl ?_
      refine awp_regP (Γ := noEnv) [4] (noEnv_ok _ _) rfl rfl rfl (fun K hK => ?_)
      simp only [Tryd.f36, bodyOf, Option.getD_some, cl, cr, rOps, lights, light, rN, List.size_toArray, List.length_cons, List.length_nil, Nat.reduceAdd, Nat.zero_add, List.map_cons, List.map_nil, Option.map_none, Option.map_some, List.getElem?_toArray, List.getElem?_cons_zero, List.getElem?_cons_succ, Option.bind_some]
      simp (maxSteps := 300000) (disch := omega) only [go_sem, Nat.reduceAdd, reduceCtorEq, ↓reduceIte, hd]
      with_reducible refine hK _ ?_
      clear hK K
      refine nx_then ?_
      refine awp_retP rfl ?_
      simp (disch := omega) only [pureQ, resA, resAL, resA1, Tryd.f36, go_sem, ↓reduceIte, hd3]
  · cases hg
theorem ok36 : EntOK Tryd.prog GLh 36 (.pure true hpG) := ⟨⟨_, Tryd.func36, rfl, rfl⟩, hp_ok⟩

def cutG : List AV → Option AV
  | [.s a, .s b] => guardO (a.length ≤ 9223372036854775807 ∧ b.length ≤ 9223372036854775807) (some (if a.take b.length = b then .tup [.s (a.drop b.length), .b true] else .tup [.s a, .b false]))
  | _ => none
theorem cutG_eq (a b : List B8) : cutG [.s a, .s b] = guardO (a.length ≤ 9223372036854775807 ∧ b.length ≤ 9223372036854775807) (some (if a.take b.length = b then .tup [.s (a.drop b.length), .b true] else .tup [.s a, .b false])) := (rfl)
attribute [go_sem] cutG_eq
set_option maxHeartbeats 2000000 in
theorem cut1_ok : PureOK Tryd.prog GLh 31 cutG := by
  refine pure_of_awp Tryd.func31 (bodyOf_some rfl) ?_
  intro args r hg
  unfold cutG at hg
  split at hg
  · rename_i a b
    replace hg := guardO_inv hg; obtain ⟨⟨ha, hb⟩, hg⟩ := hg
    obtain rfl := Option.some.inj hg
    refine ⟨Nat.le_of_ble_eq_true rfl, fun nx => ?_⟩
    clear hg
    refine awp_seqP rfl ?_
    refine awp_regP (Γ := noEnv) [0, 1] (noEnv_ok _ _) rfl rfl rfl (fun K hK => ?_)
    simp only [Tryd.f31, bodyOf, Option.getD_some, cl, rOps, lights, light, rN, List.size_toArray, List.length_cons, List.length_nil, Nat.reduceAdd, Nat.zero_add, List.map_cons, List.map_nil, Option.map_none]
    simp (maxSteps := 300000) (disch := omega) only [go_sem, Nat.reduceAdd, ↓reduceIte]
    with_reducible refine hK _ ?_
    clear hK K
    refine nx_then ?_
    refine awp_seqP rfl ?_
    refine awp_seqP rfl ?_
    refine awp_regP (Γ := envL [(36, .pure true hpG)]) [9, 0, 1] (envOK_cons ok36 envOK_nil) rfl rfl rfl (fun K hK => ?_)
    simp only [Tryd.f31, bodyOf, Option.getD_some, cl, cr, rOps, lights, light, rN, List.size_toArray, List.length_cons, List.length_nil, Nat.reduceAdd, Nat.zero_add, List.map_cons, List.map_nil, Option.map_none]
    simp (maxSteps := 300000) (disch := omega) only [go_sem, Nat.reduceAdd, ↓reduceIte]
    with_reducible refine hK _ ?_
    clear hK K
    refine nx_then ?_
    refine awp_ifE (.tmp 9) rfl rfl rfl (fun h => ?_) (fun h => ?_)
    · skip
      refine awp_drop rfl ?_
      refine awp_seqP rfl ?_
      refine awp_regP (Γ := noEnv) [4, 5] (noEnv_ok _ _) rfl rfl rfl (fun K hK => ?_)
      simp only [Tryd.f31, bodyOf, Option.getD_some, cl, cr, rOps, lights, light, rN, List.size_toArray, List.length_cons, List.length_nil, Nat.reduceAdd, Nat.zero_add, List.map_cons, List.map_nil, Option.map_none]
      simp (maxSteps := 300000) (disch := omega) only [go_sem, Nat.reduceAdd, ↓reduceIte]
      with_reducible refine hK _ ?_
      clear hK K
      refine nx_then ?_
      rw [if_neg h]
      refine awp_retP rfl ?_
      refine nx_ret_then ?_
      simp (disch := omega) only [pureQ, resA, resAL, resA1, Tryd.f31, go_sem, ↓reduceIte]
    · skip
      refine awp_drop rfl ?_
      have h1 : b.length ≤ a.length := by have := congrArg List.length h; rw [List.length_take] at this; omega
      have e1 : (a.drop b.length).take (a.length - b.length) = a.drop b.length := List.take_of_length_le (by rw [List.length_drop]; omega)
      refine awp_skipP rfl ?_
      refine nx_then ?_
      refine awp_seqP rfl ?_
      refine awp_regP (Γ := noEnv) [4, 5] (noEnv_ok _ _) rfl rfl rfl (fun K hK => ?_)
      simp only [Tryd.f31, bodyOf, Option.getD_some, cl, cr, rOps, lights, light, rN, List.size_toArray, List.length_cons, List.length_nil, Nat.reduceAdd, Nat.zero_add, List.map_cons, List.map_nil, Option.map_none]
      simp (maxSteps := 300000) (disch := omega) only [go_sem, Nat.reduceAdd, ↓reduceIte, Int.toNat_natCast, e1]
      with_reducible refine hK _ ?_
      clear hK K
      refine nx_then ?_
      rw [if_pos h]
      refine awp_retP rfl ?_
      simp (disch := omega) only [pureQ, resA, resAL, resA1, Tryd.f31, go_sem, ↓reduceIte]
  · cases hg
theorem ok31 : EntOK Tryd.prog GLh 31 (.pure true cutG) := ⟨⟨_, Tryd.func31, rfl, rfl⟩, cut1_ok⟩
set_option maxHeartbeats 2000000 in
theorem cut_ok : PureOK Tryd.prog GLh 22 cutG := by
  refine pure_of_awp Tryd.func22 (bodyOf_some rfl) ?_
  intro args r hg
  unfold cutG at hg
  split at hg
  · rename_i a b
    replace hg := guardO_inv hg; obtain ⟨⟨ha, hb⟩, hg⟩ := hg
    obtain rfl := Option.some.inj hg
    refine ⟨Nat.le_of_ble_eq_true rfl, fun nx => ?_⟩
    clear hg
    refine awp_seqP rfl ?_
    refine awp_regP (Γ := noEnv) [0, 1] (noEnv_ok _ _) rfl rfl rfl (fun K hK => ?_)
    simp only [Tryd.f22, bodyOf, Option.getD_some, cl, rOps, lights, light, rN, List.size_toArray, List.length_cons, List.length_nil, Nat.reduceAdd, Nat.zero_add, List.map_cons, List.map_nil, Option.map_none]
    simp (maxSteps := 300000) (disch := omega) only [go_sem, Nat.reduceAdd, ↓reduceIte]
    with_reducible refine hK _ ?_
    clear hK K
    refine nx_then ?_
    by_cases h1 : a.take b.length = b
    · skip
      refine awp_seqP rfl ?_
      refine awp_regP (Γ := envL [(31, .pure true cutG)]) [4, 5] (envOK_cons ok31 envOK_nil) rfl rfl rfl (fun K hK => ?_)
      simp only [Tryd.f22, bodyOf, Option.getD_some, cl, cr, rOps, lights, light, rN, List.size_toArray, List.length_cons, List.length_nil, Nat.reduceAdd, Nat.zero_add, List.map_cons, List.map_nil, Option.map_none]
      simp (maxSteps := 300000) (disch := omega) only [go_sem, Nat.reduceAdd, ↓reduceIte, h1]
      with_reducible refine hK _ ?_
      clear hK K
      refine nx_then ?_
      refine awp_retP rfl ?_
      simp (disch := omega) only [pureQ, resA, resAL, resA1, Tryd.f22, go_sem, ↓reduceIte, h1]
    · skip
      refine awp_seqP rfl ?_
      refine awp_regP (Γ := envL [(31, .pure true cutG)]) [4, 5] (envOK_cons ok31 envOK_nil) rfl rfl rfl (fun K hK => ?_)
      simp only [Tryd.f22, bodyOf, Option.getD_some, cl, cr, rOps, lights, light, rN, List.size_toArray, List.length_cons, List.length_nil, Nat.reduceAdd, Nat.zero_add, List.map_cons, List.map_nil, Option.map_none]
      simp (maxSteps := 300000) (disch := omega) only [go_sem, Nat.reduceAdd, ↓reduceIte, h1]
      with_reducible refine hK _ ?_
      clear hK K
      refine nx_then ?_
      refine awp_retP rfl ?_
      simp (disch := omega) only [pureQ, resA, resAL, resA1, Tryd.f22, go_sem, ↓reduceIte, h1]
  · cases hg
theorem ok22 : EntOK Tryd.prog GLh 22 (.pure true cutG) := ⟨⟨_, Tryd.func22, rfl, rfl⟩, cut_ok⟩

def beqG : List AV → Option AV
  | [.sl n xs, .sl m ys] => obind (un8 xs) fun a => obind (un8 ys) fun b => guardO (a.length = n ∧ b.length = m) (some (.b (decide (a = b))))
  | _ => none
theorem beqG_eq (n m : Nat) (xs ys : List AV) : beqG [.sl n xs, .sl m ys] = obind (un8 xs) fun a => obind (un8 ys) fun b => guardO (a.length = n ∧ b.length = m) (some (.b (decide (a = b)))) := (rfl)
attribute [go_sem] beqG_eq
set_option maxHeartbeats 2000000 in
theorem beq_ok : PureOK Tryd.prog GLh 26 beqG := by
  refine pure_of_awp Tryd.func26 (bodyOf_some rfl) ?_
  intro args r hg
  unfold beqG at hg
  split at hg
  · rename_i n xs m ys
    replace hg := obind_inv hg; obtain ⟨a, ha, hg⟩ := hg
    replace hg := obind_inv hg; obtain ⟨b, hb, hg⟩ := hg
    replace hg := guardO_inv hg; obtain ⟨⟨hn, hm⟩, hg⟩ := hg
    obtain rfl := Option.some.inj hg
    have := un8_inv _ ha; subst this
    have := un8_inv _ hb; subst this
    subst hn; subst hm
    refine ⟨Nat.le_of_ble_eq_true rfl, fun nx => ?_⟩
    clear hg ha hb
    refine awp_seqP rfl ?_
    refine awp_regP (Γ := noEnv) [0, 1] (noEnv_ok _ _) rfl rfl rfl (fun K hK => ?_)
    simp only [Tryd.f26, bodyOf, Option.getD_some, cl, rOps, lights, light, rN, List.size_toArray, List.length_cons, List.length_nil, Nat.zero_add, List.map_cons, List.map_nil, Option.map_none]
    simp (maxSteps := 300000) (disch := omega) only [go_sem, ↓reduceIte]
    with_reducible refine hK _ ?_
    clear hK K
    refine nx_then ?_
    refine awp_seqP rfl ?_
    refine awp_regP (Γ := noEnv) [4] (noEnv_ok _ _) rfl rfl rfl (fun K hK => ?_)
    simp only [Tryd.f26, bodyOf, Option.getD_some, cl, cr, rOps, lights, light, rN, List.size_toArray, List.length_cons, List.length_nil, Nat.reduceAdd, Nat.zero_add, List.map_cons, List.map_nil, Option.map_none]
    simp (maxSteps := 300000) (disch := omega) only [go_sem, Nat.reduceAdd, ↓reduceIte, unW8_c8]
    with_reducible refine hK _ ?_
    clear hK K
    refine nx_then ?_
    refine awp_retP rfl ?_
    simp (disch := omega) only [pureQ, resA, resAL, resA1, Tryd.f26, go_sem, ↓reduceIte]
  · cases hg
theorem ok26 : EntOK Tryd.prog GLh 26 (.pure true beqG) := ⟨⟨_, Tryd.func26, rfl, rfl⟩, beq_ok⟩
set_option maxHeartbeats 2000000 in
theorem hbytes_ok : PureOK Tryd.prog GLh 15 beqG := by
  refine pure_of_awp Tryd.func15 (bodyOf_some rfl) ?_
  intro args r hg
  unfold beqG at hg
  split at hg
  · rename_i n xs m ys
    replace hg := obind_inv hg; obtain ⟨a, ha, hg⟩ := hg
    replace hg := obind_inv hg; obtain ⟨b, hb, hg⟩ := hg
    replace hg := guardO_inv hg; obtain ⟨⟨hn, hm⟩, hg⟩ := hg
    obtain rfl := Option.some.inj hg
    have := un8_inv _ ha; subst this
    have := un8_inv _ hb; subst this
    subst hn; subst hm
    refine ⟨Nat.le_of_ble_eq_true rfl, fun nx => ?_⟩
    clear hg ha hb
    refine awp_seqP rfl ?_
    refine awp_regP (Γ := noEnv) [0, 1] (noEnv_ok _ _) rfl rfl rfl (fun K hK => ?_)
    simp only [Tryd.f15, bodyOf, Option.getD_some, cl, rOps, lights, light, rN, List.size_toArray, List.length_cons, List.length_nil, Nat.zero_add, List.map_cons, List.map_nil, Option.map_none]
    simp (maxSteps := 300000) (disch := omega) only [go_sem, ↓reduceIte]
    with_reducible refine hK _ ?_
    clear hK K
    refine nx_then ?_
    refine awp_seqP rfl ?_
    refine awp_regP (Γ := noEnv) [4] (noEnv_ok _ _) rfl rfl rfl (fun K hK => ?_)
    simp only [Tryd.f15, bodyOf, Option.getD_some, cl, cr, rOps, lights, light, rN, List.size_toArray, List.length_cons, List.length_nil, Nat.reduceAdd, Nat.zero_add, List.map_cons, List.map_nil, Option.map_none]
    simp (maxSteps := 300000) (disch := omega) only [go_sem, Nat.reduceAdd, ↓reduceIte, unW8_c8]
    with_reducible refine hK _ ?_
    clear hK K
    refine nx_then ?_
    refine awp_retP rfl ?_
    simp (disch := omega) only [pureQ, resA, resAL, resA1, Tryd.f15, go_sem, ↓reduceIte]
  · cases hg
theorem ok15 : EntOK Tryd.prog GLh 15 (.pure true beqG) := ⟨⟨_, Tryd.func15, rfl, rfl⟩, hbytes_ok⟩
end Go.AX

namespace Go.AX
open Go Go.Proofs

def c16 (l : List T16) : List AV := l.map .w16
theorem cA_toArray (l : List T16) : cA l.toArray = c16 l := (rfl)
theorem c16_len (l : List T16) : (c16 l).length = l.length := List.length_map ..
theorem c16_head (l : List T16) (k : Nat) (h : k < l.length) : ((c16 l).drop k).head? = some (.w16 (l.getD k 0#16)) := by
  rw [List.head?_drop]; simp [c16, List.getElem?_map, List.getElem?_eq_getElem h]
theorem c16_drop (l : List T16) (k : Nat) : (c16 l).drop k = c16 (l.drop k) := by simp [c16, List.map_drop]
theorem c16_take (l : List T16) (k : Nat) : (c16 l).take k = c16 (l.take k) := by simp [c16, List.map_take]
theorem c16_headd (l : List T16) (k : Nat) (h : k < l.length) : (c16 (l.drop k)).head? = some (.w16 (l.getD k 0#16)) := by rw [← c16_drop]; exact c16_head l k h
theorem c16_head0 (l : List T16) (h : 0 < l.length) : (c16 l).head? = some (.w16 (l.getD 0 0#16)) := c16_head l 0 h
theorem c16_noOwn (l : List T16) : noOwn (c16 l) = true := by
  simp only [noOwn, c16, List.all_eq_true, List.mem_map]
  rintro _ ⟨x, _, rfl⟩; rfl
theorem c16_noOs (l : List T16) : noOs (c16 l) = true := by
  simp only [noOs, c16, Bool.not_eq_true', List.any_eq_false, List.mem_map]
  rintro _ ⟨x, _, rfl⟩
  simp [isOs]
theorem c16_nm (l : List T16) : AV.noMem.noMemL (c16 l) = true := by
  induction l with
  | nil => rfl
  | cons x l ih => show (AV.noMem (.w16 x) && AV.noMem.noMemL (c16 l)) = true; rw [ih]; rfl
theorem c16_app (l m : List T16) : c16 l ++ c16 m = c16 (l ++ m) := by simp [c16]
theorem c16_app1 (l : List T16) (x : T16) : c16 l ++ [AV.w16 x] = c16 (l ++ [x]) := by simp [c16]
theorem c16_cons (x : T16) (l : List T16) : AV.w16 x :: c16 l = c16 (x :: l) := rfl
theorem c16_take_all (l : List T16) (k : Nat) (h : l.length ≤ k) : (c16 l).take k = c16 l := List.take_of_length_le (by rw [c16_len]; exact h)
theorem unA_c16 (l : List T16) : unA (c16 l) = some l := by have := unA_cA l.toArray; rwa [cA_toArray] at this
theorem unA_inv16 {xs : List AV} {l : List T16} (h : unA xs = some l) : xs = c16 l := by rw [unA_inv h, cA_toArray]
attribute [go_sem] cA_toArray c16_len c16_head c16_headd c16_head0 c16_drop c16_take c16_noOwn c16_noOs c16_nm c16_app c16_app1 unA_c16

theorem take_next16 {a b : List T16} {k : Nat} (ha : k < a.length) (hb : k < b.length) (h : a.take k = b.take k) (e : a.getD k 0#16 = b.getD k 0#16) : a.take (k + 1) = b.take (k + 1) := by
  rw [List.take_succ_eq_append_getElem ha, List.take_succ_eq_append_getElem hb, h]
  rw [List.getD_eq_getElem?_getD, List.getD_eq_getElem?_getD, List.getElem?_eq_getElem ha, List.getElem?_eq_getElem hb] at e
  simp only [Option.getD_some] at e
  rw [e]
def typG : List AV → Option AV
  | [.sl n xs, .sl m ys] => obind (unA xs) fun a => obind (unA ys) fun b => guardO (a.length = n ∧ b.length = m ∧ n ≤ 9223372036854775807 ∧ m ≤ 9223372036854775807) (some (.b (decide (a = b))))
  | _ => none
theorem typG_eq (n m : Nat) (xs ys : List AV) : typG [.sl n xs, .sl m ys] = obind (unA xs) fun a => obind (unA ys) fun b => guardO (a.length = n ∧ b.length = m ∧ n ≤ 9223372036854775807 ∧ m ≤ 9223372036854775807) (some (.b (decide (a = b)))) := (rfl)
attribute [go_sem] typG_eq
set_option maxHeartbeats 1000000 in
theorem typ_ok : PureOK Tryd.prog GLh 17 typG := by
  refine pure_of_awp Tryd.func17 (bodyOf_some rfl) ?_
  intro args r hg
  unfold typG at hg
  split at hg
  · rename_i n xs m ys
    replace hg := obind_inv hg; obtain ⟨a, ha, hg⟩ := hg
    replace hg := obind_inv hg; obtain ⟨b, hb, hg⟩ := hg
    replace hg := guardO_inv hg; obtain ⟨⟨hn, hm, hbig, hbig2⟩, hg⟩ := hg
    obtain rfl := Option.some.inj hg
    have := unA_inv16 ha; subst this
    have := unA_inv16 hb; subst this
    subst hn; subst hm
    clear hg ha hb
    refine ⟨Nat.le_of_ble_eq_true rfl, fun nx => ?_⟩
    refine awp_seqP rfl ?_
    refine awp_regP (Γ := noEnv) [0, 1] (noEnv_ok _ _) rfl rfl rfl (fun K hK => ?_)
    simp only [Tryd.f17, bodyOf, Option.getD_some, cl, rOps, lights, light, rN, List.size_toArray, List.length_cons, List.length_nil, Nat.zero_add, List.map_cons, List.map_nil, Option.map_none]
    simp (maxSteps := 300000) (disch := omega) only [go_sem, ↓reduceIte]
    with_reducible refine hK _ ?_
    clear hK K
    refine nx_then ?_
    refine awp_seqP rfl ?_
    refine awp_seqP rfl ?_
    refine awp_regP (Γ := noEnv) [10, 0, 1] (noEnv_ok _ _) rfl rfl rfl (fun K hK => ?_)
    simp only [Tryd.f17, bodyOf, Option.getD_some, cl, cr, rOps, lights, light, rN, List.size_toArray, List.length_cons, List.length_nil, Nat.reduceAdd, Nat.zero_add, List.map_cons, List.map_nil, Option.map_none]
    simp (maxSteps := 300000) (disch := omega) only [go_sem, Nat.reduceAdd, ↓reduceIte]
    with_reducible refine hK _ ?_
    clear hK K
    refine nx_then ?_
    refine awp_ifE (.tmp 10) rfl rfl rfl (fun h => ?_) (fun h => ?_)
    · skip
      refine awp_drop rfl ?_
      have hl : decide (a = b) = false := decide_eq_false (fun e => h (by rw [e]))
      refine awp_seqP rfl ?_
      refine awp_regP (Γ := noEnv) [4] (noEnv_ok _ _) rfl rfl rfl (fun K hK => ?_)
      simp only [Tryd.f17, bodyOf, Option.getD_some, cl, cr, rOps, lights, light, rN, List.size_toArray, List.length_cons, List.length_nil, Nat.zero_add, List.map_cons, List.map_nil, Option.map_none]
      simp (maxSteps := 300000) (disch := omega) only [go_sem, ↓reduceIte]
      with_reducible refine hK _ ?_
      clear hK K
      refine nx_then ?_
      refine awp_retP rfl ?_
      refine nx_ret_then ?_
      simp (disch := omega) only [pureQ, resA, resAL, resA1, Tryd.f17, go_sem, ↓reduceIte, hl]
    · skip
      refine awp_drop rfl ?_
      have hab : a.length = b.length := by omega
      refine awp_skipP rfl ?_
      refine nx_then ?_
      refine awp_seqP rfl ?_
      refine awp_seqP rfl ?_
      refine awp_regP (Γ := noEnv) [0, 1, 5] (noEnv_ok _ _) rfl rfl rfl (fun K hK => ?_)
      simp only [Tryd.f17, bodyOf, Option.getD_some, cl, cr, rOps, lights, light, rN, List.size_toArray, List.length_cons, List.length_nil, Nat.zero_add, List.map_cons, List.map_nil, Option.map_none]
      simp (maxSteps := 300000) (disch := omega) only [go_sem, ↓reduceIte]
      with_reducible refine hK _ ?_
      clear hK K
      refine nx_then ?_
      refine awp_blockN 0 rfl rfl ?_
      refine awp_loopP (fun p : KC => { fr := [(0, .sl a.length (c16 a)), (1, .sl b.length (c16 b)), (5, .i p.k)], hp := fun _ => none, nx := 0, cx := p.c }) (fun p => p.k ≤ a.length ∧ a.take p.k = b.take p.k) (fun p => a.length - p.k) rfl ⟨⟨0, _⟩, ⟨Nat.zero_le _, rfl⟩, sub_same rfl rfl (Nat.le_refl _)⟩ ?_
      rintro ⟨k, c⟩ ⟨hk, ht⟩ n0
      simp only at hk ht ⊢
      refine awp_seqP rfl ?_
      refine awp_seqP rfl ?_
      refine awp_regP (Γ := noEnv) [14, 0, 1, 5] (noEnv_ok _ _) rfl rfl rfl (fun K hK => ?_)
      simp only [Tryd.f17, bodyOf, Option.getD_some, cl, cr, rOps, lights, light, rN, List.size_toArray, List.length_cons, List.length_nil, Nat.reduceAdd, Nat.zero_add, List.map_cons, List.map_nil, Option.map_none]
      simp (maxSteps := 300000) (disch := omega) only [go_sem, Nat.reduceAdd, ↓reduceIte]
      with_reducible refine hK _ ?_
      clear hK K
      refine nx_then ?_
      refine awp_ifD (.tmp 14) rfl rfl rfl (fun h => ?_) (fun h => ?_)
      · skip
        refine awp_drop rfl ?_
        have hka : k < a.length := by omega
        have hkb : k < b.length := by omega
        refine awp_skipP rfl ?_
        refine nx_then ?_
        refine awp_seqP rfl ?_
        refine awp_blockN 1 rfl rfl ?_
        refine awp_seqP rfl ?_
        refine awp_drwP (Γ := noEnv) (fun _ => 2) [25, 0, 1, 5] mixed (noEnv_ok _ _) rfl rfl rfl (by kernel_rfl) (fun K hK => ?_)
        simp only [Tryd.f17, bodyOf, Option.getD_some, cl, cr, rOps, lights, light, rN, List.size_toArray, List.length_cons, List.length_nil, Nat.reduceAdd, Nat.zero_add, List.map_cons, List.map_nil, Option.map_none]
        simp (maxSteps := 300000) (disch := omega) only [go_sem, Nat.reduceAdd, ↓reduceIte]
        with_reducible refine hK _ ?_
        clear hK K
        refine nx_then ?_
        refine awp_ifE (.tmp 25) rfl rfl rfl (fun h => ?_) (fun h => ?_)
        · skip
          refine awp_drop rfl ?_
          have hl : decide (a = b) = false := decide_eq_false (fun e => h (by rw [e]))
          refine awp_seqP rfl ?_
          refine awp_regP (Γ := noEnv) [4] (noEnv_ok _ _) rfl rfl rfl (fun K hK => ?_)
          simp only [Tryd.f17, bodyOf, Option.getD_some, cl, cr, rOps, lights, light, rN, List.size_toArray, List.length_cons, List.length_nil, Nat.zero_add, List.map_cons, List.map_nil, Option.map_none]
          simp (maxSteps := 300000) (disch := omega) only [go_sem, ↓reduceIte]
          with_reducible refine hK _ ?_
          clear hK K
          refine nx_then ?_
          refine awp_retP rfl ?_
          refine nx_ret_blk (nx_ret_then (nx_ret_loop (nx_ret_blk (nx_ret_then ?_))))
          simp (disch := omega) only [pureQ, resA, resAL, resA1, Tryd.f17, go_sem, ↓reduceIte, hl]
        · skip
          refine awp_drop rfl ?_
          refine awp_skipP rfl ?_
          refine nx_blk (nx_then ?_)
          refine awp_regP (Γ := noEnv) [0, 1, 5] (noEnv_ok _ _) rfl rfl rfl (fun K hK => ?_)
          simp only [Tryd.f17, bodyOf, Option.getD_some, cl, cr, rOps, lights, light, rN, List.size_toArray, List.length_cons, List.length_nil, Nat.reduceAdd, Nat.zero_add, List.map_cons, List.map_nil, Option.map_none]
          simp (maxSteps := 300000) (disch := omega) only [go_sem, Nat.reduceAdd, ↓reduceIte]
          with_reducible refine hK _ ?_
          clear hK K
          refine nx_loop ?_
          refine ⟨⟨k + 1, _⟩, ⟨by simp only; omega, take_next16 hka hkb ht h⟩, by simp only; omega, sub_same ?_ rfl (Nat.le_refl _)⟩
          simp only [Int.natCast_add, Int.natCast_one]
      · skip
        refine awp_drop rfl ?_
        refine awp_exitN 0 rfl rfl ?_
        refine nx_ex_then (nx_ex_loop (nx_ex_blk ?_))
        refine nx_then ?_
        refine awp_seqP rfl ?_
        obtain rfl : k = a.length := by omega
        have hl : decide (a = b) = true := decide_eq_true (by rw [List.take_length, hab, List.take_length] at ht; exact ht)
        refine awp_regP (Γ := noEnv) [4] (noEnv_ok _ _) rfl rfl rfl (fun K hK => ?_)
        simp only [Tryd.f17, bodyOf, Option.getD_some, cl, cr, rOps, lights, light, rN, List.size_toArray, List.length_cons, List.length_nil, Nat.zero_add, List.map_cons, List.map_nil, Option.map_none]
        simp (maxSteps := 300000) (disch := omega) only [go_sem, ↓reduceIte]
        with_reducible refine hK _ ?_
        clear hK K
        refine nx_then ?_
        refine awp_retP rfl ?_
        simp (disch := omega) only [pureQ, resA, resAL, resA1, Tryd.f17, go_sem, ↓reduceIte, hl]
  · cases hg
theorem ok17 : EntOK Tryd.prog GLh 17 (.pure true typG) := ⟨⟨_, Tryd.func17, rfl, rfl⟩, typ_ok⟩

theorem compL_len : ∀ l : List T16, (compL l).length ≤ l.length
  | [] => Nat.le_refl _
  | [x] => Nat.le_refl _
  | x :: y :: r => by
    have h := compL_len (y :: r)
    rw [compL]
    split
    · simp only [List.length_cons] at h ⊢; omega
    · simp only [List.length_cons] at h ⊢; omega
theorem cleanL_len (l : List T16) : (cleanL l).length ≤ l.length := by
  have := compL_len (sortL l); rw [sortL_len] at this; exact this
def clnG : List AV → Option (Nat × Nat × List AV)
  | [.sl n xs] => obind (unA xs) fun l => guardO (l.length = n ∧ n ≤ 1000000) (some ((cleanL l).length, 1, c16 (cleanL l)))
  | _ => none
theorem clnG_eq (n : Nat) (xs : List AV) : clnG [.sl n xs] = obind (unA xs) fun l => guardO (l.length = n ∧ n ≤ 1000000) (some ((cleanL l).length, 1, c16 (cleanL l))) := (rfl)
attribute [go_sem] clnG_eq
set_option maxHeartbeats 1000000 in
theorem cln_ok : FreshOK Tryd.prog GLh 18 clnG := by
  refine fresh_of_awp Tryd.func18 (bodyOf_some rfl) ?_
  intro args r hg
  unfold clnG at hg
  split at hg
  · rename_i n xs
    replace hg := obind_inv hg; obtain ⟨l, hl, hg⟩ := hg
    replace hg := guardO_inv hg; obtain ⟨⟨hn, hbig⟩, hg⟩ := hg
    obtain rfl := Option.some.inj hg
    have := unA_inv16 hl; subst this
    refine ⟨Nat.le_of_ble_eq_true rfl, fun nx => ?_⟩
    have hsl : (sortL l).length = n := by rw [sortL_len]; exact hn
    have hcl : compL (sortL l) = cleanL l := rfl
    clear hl hg
    refine awp_seqP rfl ?_
    refine awp_regP (Γ := noEnv) [0] (noEnv_ok _ _) rfl rfl rfl (fun K hK => ?_)
    simp only [Tryd.f18, bodyOf, Option.getD_some, cl, rOps, lights, light, rN, List.size_toArray, List.length_cons, List.length_nil, Nat.zero_add, List.map_cons, List.map_nil, Option.map_none]
    simp (maxSteps := 300000) (disch := omega) only [go_sem, ↓reduceIte]
    with_reducible refine hK _ ?_
    clear hK K
    refine nx_then ?_
    refine awp_seqP rfl ?_
    refine awp_regP (Γ := envL [(29, .pure false valG), (28, .fresh false srdG), (27, .heap (mutH cmpG))]) [2] (envOK_cons ok29 (envOK_cons ok28 (envOK_cons ok27 envOK_nil))) rfl rfl rfl (fun K hK => ?_)
    simp only [Tryd.f18, bodyOf, Option.getD_some, cl, cr, rOps, lights, light, rN, List.size_toArray, List.length_cons, List.length_nil, Nat.reduceAdd, Nat.zero_add, List.map_cons, List.map_nil, Option.map_none]
    simp (maxSteps := 300000) (disch := omega) only [go_sem, Nat.reduceAdd, ↓reduceIte, hn, hsl, hcl]
    with_reducible refine hK _ ?_
    clear hK K
    refine nx_then ?_
    refine awp_retP rfl ?_
    simp (disch := omega) only [freshQ, freshR, resA, resAL, resA1, Tryd.f18, go_sem, ↓reduceIte]
  · cases hg
theorem ok18 : EntOK Tryd.prog GLh 18 (.fresh true clnG) := ⟨⟨_, Tryd.func18, rfl, rfl⟩, cln_ok⟩

theorem takeW_at {α : Type} (p : α → Bool) (d : α) : ∀ (l : List α) (k : Nat), k ≤ l.length → (∀ j, j < k → p (l.getD j d) = true) → (k = l.length ∨ p (l.getD k d) = false) → l.takeWhile p = l.take k ∧ l.dropWhile p = l.drop k
  | [], k, hk, _, _ => by simp
  | x :: l, 0, _, _, h => by
    rcases h with h | h
    · simp at h
    · simp only [List.getD_cons_zero] at h
      simp [h]
  | x :: l, k + 1, hk, ha, h => by
    have h0 := ha 0 (by omega)
    simp only [List.getD_cons_zero] at h0
    obtain ⟨h1, h2⟩ := takeW_at p d l k (by simpa using hk) (fun j hj => by have := ha (j + 1) (by omega); simpa using this) (by
      rcases h with h | h
      · left; simpa using h
      · right; simpa using h)
    simp [h0, h1, h2]
theorem insL_at (out : List T16) (x : T16) (k : Nat) (hk : k ≤ out.length) (ha : ∀ j, j < k → (out.getD j 0#16).toNat < x.toNat) (h : k = out.length ∨ ¬ (out.getD k 0#16).toNat < x.toNat) :
    insL out x = if k < out.length ∧ out.getD k 0#16 = x then out else out.take k ++ x :: out.drop k := by
  obtain ⟨h1, h2⟩ := takeW_at (fun y : T16 => decide (y.toNat < x.toNat)) 0#16 out k hk (fun j hj => decide_eq_true (ha j hj)) (h.imp id fun h => decide_eq_false h)
  unfold insL
  rw [h1, h2]
  by_cases hlt : k < out.length
  · have e : (out.drop k).head? = some (out.getD k 0#16) := by rw [List.head?_drop, List.getD_eq_getElem?_getD, List.getElem?_eq_getElem hlt]; rfl
    rw [e]
    by_cases e2 : out.getD k 0#16 = x
    · rw [if_pos (by rw [e2]), if_pos ⟨hlt, e2⟩, List.append_nil, List.take_append_drop]
    · rw [if_neg (fun h => e2 (Option.some.inj h)), if_neg (fun h => e2 h.2)]; simp
  · have e : out.drop k = [] := List.drop_eq_nil_of_le (by omega)
    rw [e, if_neg (by simp), if_neg (fun h => hlt h.1)]; simp
theorem insL_len (out : List T16) (x : T16) : (insL out x).length ≤ out.length + 1 := by
  unfold insL
  have := congrArg List.length (List.takeWhile_append_dropWhile (p := fun y : T16 => decide (y.toNat < x.toNat)) (l := out))
  simp only [List.length_append] at this ⊢
  split <;> simp <;> omega
theorem foldIns_len : ∀ (l : List T16) (out : List T16), (l.foldl insL out).length ≤ out.length + l.length
  | [], out => by simp
  | x :: l, out => by
    have h1 := foldIns_len l (insL out x)
    have h2 := insL_len out x
    simp only [List.foldl_cons, List.length_cons]; omega
def refT (l : List T16) (k : Nat) : List T16 := (l.take k).foldl insL []
theorem refT_succ (l : List T16) (k : Nat) (h : k < l.length) : refT l (k + 1) = insL (refT l k) (l.getD k 0#16) := by
  unfold refT
  rw [List.take_succ_eq_append_getElem h, List.foldl_append, List.getD_eq_getElem?_getD, List.getElem?_eq_getElem h]; rfl
theorem refT_len (l : List T16) (k : Nat) : (refT l k).length ≤ k := by
  have := foldIns_len (l.take k) []
  rw [List.length_take, List.length_nil] at this
  unfold refT; omega
theorem w16_lt (a b : T16) : a < b ↔ a.toNat < b.toNat := BitVec.lt_def
structure KAIC where
  k : Nat
  j : Nat
  id : Nat
  c : Nat
set_option maxHeartbeats 4000000 in
theorem rcln_ok : FreshOK Tryd.prog GLh 14 clnG := by
  refine fresh_of_awp Tryd.func14 (bodyOf_some rfl) ?_
  intro args r hg
  unfold clnG at hg
  split at hg
  · rename_i n xs
    replace hg := obind_inv hg; obtain ⟨l, hl, hg⟩ := hg
    replace hg := guardO_inv hg; obtain ⟨⟨hn, hbig⟩, hg⟩ := hg
    obtain rfl := Option.some.inj hg
    have := unA_inv16 hl; subst this
    refine ⟨Nat.le_of_ble_eq_true rfl, fun nx => ?_⟩
    clear hl hg
    subst hn
    refine awp_seqP rfl ?_
    refine awp_regP (Γ := noEnv) [0] (noEnv_ok _ _) rfl rfl rfl (fun K hK => ?_)
    simp only [Tryd.f14, bodyOf, Option.getD_some, cl, rOps, lights, light, rN, List.size_toArray, List.length_cons, List.length_nil, Nat.zero_add, List.map_cons, List.map_nil, Option.map_none]
    simp (maxSteps := 300000) (disch := omega) only [go_sem, ↓reduceIte]
    with_reducible refine hK _ ?_
    clear hK K
    refine nx_then ?_
    refine awp_seqP rfl ?_
    refine awp_regP (Γ := noEnv) [0, 3] (noEnv_ok _ _) rfl rfl rfl (fun K hK => ?_)
    simp only [Tryd.f14, bodyOf, Option.getD_some, cl, cr, rOps, lights, light, rN, List.size_toArray, List.length_cons, List.length_nil, Nat.zero_add, List.map_cons, List.map_nil, Option.map_none]
    simp (maxSteps := 300000) (disch := omega) only [go_sem, ↓reduceIte]
    with_reducible refine hK _ ?_
    clear hK K
    refine nx_then ?_
    refine awp_seqP rfl ?_
    refine awp_seqP rfl ?_
    refine awp_regP (Γ := noEnv) [0, 3, 4] (noEnv_ok _ _) rfl rfl rfl (fun K hK => ?_)
    simp only [Tryd.f14, bodyOf, Option.getD_some, cl, cr, rOps, lights, light, rN, List.size_toArray, List.length_cons, List.length_nil, Nat.zero_add, List.map_cons, List.map_nil, Option.map_none]
    simp (maxSteps := 300000) (disch := omega) only [go_sem, ↓reduceIte]
    with_reducible refine hK _ ?_
    clear hK K
    refine nx_then ?_
    refine awp_own 3 1 rfl ?_
    refine awp_keep [0, 3, 4] ?_
    simp only [kf_nil, kf_cons, look_cons, ↓reduceIte, Nat.reduceEqDiff]
    refine awp_blockN 0 rfl rfl ?_
    refine awp_loopP (fun p : KIC => { fr := [(0, .sl l.length (c16 l)), (3, .os p.id 0 (refT l p.k).length 1 true), (4, .i p.k)], hp := upd (fun _ => none) p.id (.cells (c16 (refT l p.k)) true), nx := 0, cx := p.c }) (fun p => p.k ≤ l.length ∧ p.id < p.c) (fun p => l.length - p.k) rfl ⟨⟨0, _, _⟩, ⟨Nat.zero_le _, by simp only; omega⟩, sub_same rfl rfl (Nat.le_refl _)⟩ ?_
    rintro ⟨k, id, c⟩ ⟨hk, hid⟩ n0
    simp only at hk hid ⊢
    refine awp_seqP rfl ?_
    refine awp_seqP rfl ?_
    refine awp_regP (Γ := noEnv) [9, 0, 3, 4] (noEnv_ok _ _) rfl rfl rfl (fun K hK => ?_)
    simp only [Tryd.f14, bodyOf, Option.getD_some, cl, cr, rOps, lights, light, rN, List.size_toArray, List.length_cons, List.length_nil, Nat.reduceAdd, Nat.zero_add, List.map_cons, List.map_nil, Option.map_none]
    simp (maxSteps := 300000) (disch := omega) only [go_sem, Nat.reduceAdd, ↓reduceIte]
    with_reducible refine hK _ ?_
    clear hK K
    refine nx_then ?_
    refine awp_ifD (.tmp 9) rfl rfl rfl (fun h => ?_) (fun h => ?_)
    · skip
      refine awp_drop rfl ?_
      have hkl : k < l.length := by omega
      have hrl := refT_len l k
      have hst := refT_succ l k hkl
      obtain ⟨o, ho⟩ : ∃ o, refT l k = o := ⟨_, rfl⟩
      obtain ⟨x, hx⟩ : ∃ x, l.getD k 0#16 = x := ⟨_, rfl⟩
      rw [ho] at hrl
      rw [ho, hx] at hst
      refine awp_skipP rfl ?_
      refine nx_then ?_
      refine awp_seqP rfl ?_
      refine awp_blockN 1 rfl rfl ?_
      refine awp_seqP rfl ?_
      refine awp_regP (Γ := noEnv) [0, 3, 4, 5] (noEnv_ok _ _) rfl rfl rfl (fun K hK => ?_)
      simp only [Tryd.f14, bodyOf, Option.getD_some, cl, cr, rOps, lights, light, rN, List.size_toArray, List.length_cons, List.length_nil, Nat.zero_add, List.map_cons, List.map_nil, Option.map_none]
      simp (maxSteps := 300000) (disch := omega) only [go_sem, ↓reduceIte, ho]
      with_reducible refine hK _ ?_
      clear hK K
      refine nx_then ?_
      refine awp_seqP rfl ?_
      refine awp_blockN 2 rfl rfl ?_
      refine awp_loopP (fun p : KC => { fr := [(0, .sl l.length (c16 l)), (3, .os id 0 o.length 1 true), (4, .i k), (5, .i p.k)], hp := upd (fun _ => none) id (.cells (c16 o) true), nx := 0, cx := p.c }) (fun p => p.k ≤ o.length ∧ (∀ i, i < p.k → (o.getD i 0#16).toNat < x.toNat) ∧ id < p.c) (fun p => o.length - p.k) rfl ⟨⟨0, _⟩, ⟨Nat.zero_le _, fun i hi => by simp at hi, by simp only; omega⟩, sub_same rfl rfl (Nat.le_refl _)⟩ ?_
      rintro ⟨j, c2⟩ ⟨hj, hlt, hc2⟩ n0
      simp only at hj hlt hc2 ⊢
      by_cases h1 : j < o.length
      · skip
        have hd : decide ((j : Int) < (o.length : Int)) = true := decide_eq_true (by omega)
        refine awp_seqP rfl ?_
        refine awp_seqP rfl ?_
        refine awp_drwP (Γ := noEnv) (fun _ => 2) [26, 0, 3, 4, 5] mixed (noEnv_ok _ _) rfl rfl rfl (by kernel_rfl) (fun K hK => ?_)
        simp only [Tryd.f14, bodyOf, Option.getD_some, cl, cr, rOps, lights, light, rN, List.size_toArray, List.length_cons, List.length_nil, Nat.reduceAdd, Nat.zero_add, List.map_cons, List.map_nil, Option.map_none, Option.map_some, List.getElem?_toArray, List.getElem?_cons_zero, List.getElem?_cons_succ, Option.bind_some]
        simp (maxSteps := 300000) (disch := omega) only [go_sem, Nat.reduceAdd, ↓reduceIte, hd, hx]
        with_reducible refine hK _ ?_
        clear hK K
        refine nx_then ?_
        refine awp_ifD (.tmp 26) rfl rfl rfl (fun h => ?_) (fun h => ?_)
        · skip
          refine awp_drop rfl ?_
          rw [w16_lt] at h
          refine awp_skipP rfl ?_
          refine nx_then ?_
          refine awp_blockN 3 rfl rfl ?_
          refine awp_regP (Γ := noEnv) [0, 3, 4, 5] (noEnv_ok _ _) rfl rfl rfl (fun K hK => ?_)
          simp only [Tryd.f14, bodyOf, Option.getD_some, cl, cr, rOps, lights, light, rN, List.size_toArray, List.length_cons, List.length_nil, Nat.reduceAdd, Nat.zero_add, List.map_cons, List.map_nil, Option.map_none]
          simp (maxSteps := 300000) (disch := omega) only [go_sem, Nat.reduceAdd, ↓reduceIte]
          with_reducible refine hK _ ?_
          clear hK K
          refine nx_blk (nx_loop ?_)
          refine ⟨⟨j + 1, _⟩, ⟨by simp only; omega, fun i hi => ?_, by simp only; omega⟩, by simp only; omega, sub_same ?_ rfl (Nat.le_refl _)⟩
          · by_cases e : i = j
            · subst e; exact h
            · exact hlt i (by simp only at hi; omega)
          · simp only [Int.natCast_add, Int.natCast_one]
        · skip
          refine awp_drop rfl ?_
          rw [w16_lt] at h
          have hin := insL_at o x j hj hlt (.inr h)
          have hd2 : decide ((j : Int) = (o.length : Int)) = false := decide_eq_false (by omega)
          refine awp_exitN 2 rfl rfl ?_
          refine nx_ex_then (nx_ex_loop (nx_ex_blk ?_))
          refine nx_then ?_
          refine awp_seqP rfl ?_
          refine awp_drwP (Γ := noEnv) (fun _ => 2) [43, 0, 3, 4, 5] mixed (noEnv_ok _ _) rfl rfl rfl (by kernel_rfl) (fun K hK => ?_)
          simp only [Tryd.f14, bodyOf, Option.getD_some, cl, cr, rOps, lights, light, rN, List.size_toArray, List.length_cons, List.length_nil, Nat.reduceAdd, Nat.zero_add, List.map_cons, List.map_nil, Option.map_none, Option.map_some, List.getElem?_toArray, List.getElem?_cons_zero, List.getElem?_cons_succ, Option.bind_some]
          simp (maxSteps := 300000) (disch := omega) only [go_sem, Nat.reduceAdd, reduceCtorEq, ↓reduceIte, hd2, hx]
          with_reducible refine hK _ ?_
          clear hK K
          refine nx_then ?_
          refine awp_ifE (.tmp 43) rfl rfl rfl (fun h => ?_) (fun h => ?_)
          · skip
            refine awp_drop rfl ?_
            rw [if_neg (fun hh => by exact absurd hh.2 (by assumption))] at hin
            have etk : (o.drop j).take (o.length - j) = o.drop j := List.take_of_length_le (by rw [List.length_drop]; omega)
            have etk2 : (x :: o.drop j).take (1 + (o.length - j)) = x :: o.drop j := List.take_of_length_le (by rw [List.length_cons, List.length_drop]; omega)
            have edl : (o.drop j).length = o.length - j := List.length_drop
            have hlen : (o.take j ++ x :: o.drop j).length = o.length + 1 := by simp; omega
            have hjo : ¬ (j = o.length) := by omega
            refine awp_drwP (Γ := noEnv) (fun k => if k = 7 then 0 else if k = 12 then 514 else if k = 13 then 8706 else 2) [0, 3, 4] mixed (noEnv_ok _ _) rfl rfl rfl (by kernel_rfl) (fun K hK => ?_)
            simp only [Tryd.f14, bodyOf, Option.getD_some, cl, cr, rOps, lights, light, rN, List.size_toArray, List.length_cons, List.length_nil, Nat.reduceAdd, Nat.zero_add, List.map_cons, List.map_nil, Option.map_none]
            simp (maxSteps := 300000) (disch := omega) only [go_sem, Nat.reduceAdd, Nat.reduceLeDiff, Nat.reduceLT, Int.reduceLE, Int.reduceToNat, ↓reduceIte, hx, List.singleton_append, c16_cons, Nat.sub_zero, etk, etk2, edl, List.drop_zero]
            with_reducible refine hK _ ?_
            clear hK K
            refine nx_blk (nx_then ?_)
            refine awp_regP (Γ := noEnv) [0, 3, 4] (noEnv_ok _ _) rfl rfl rfl (fun K hK => ?_)
            simp only [Tryd.f14, bodyOf, Option.getD_some, cl, cr, rOps, lights, light, rN, List.size_toArray, List.length_cons, List.length_nil, Nat.reduceAdd, Nat.zero_add, List.map_cons, List.map_nil, Option.map_none]
            simp (maxSteps := 300000) (disch := omega) only [go_sem, Nat.reduceAdd, ↓reduceIte]
            with_reducible refine hK _ ?_
            clear hK K
            refine nx_loop ?_
            have el : j + (1 + (o.length - j)) = o.length + 1 := by omega
            refine ⟨⟨k + 1, c2 + 15 + 15 + 13, _⟩, ⟨by simp only; omega, by simp only; omega⟩, by simp only; omega, ⟨fun _ => .inr ?_, fun j o h => ?_, Nat.le_refl _⟩⟩
            · simp only [hst, hin, hlen, el, Int.natCast_add, Int.natCast_one]
            · simp only at h
              exact hsub_cons (by simp (disch := omega) only [up_app, ↓reduceIte, eq_self, hst, hin]) (hsub_nil) j o h
          · skip
            refine awp_drop rfl ?_
            rw [if_pos ⟨h1, h⟩] at hin
            refine awp_skipP rfl ?_
            refine nx_blk (nx_then ?_)
            refine awp_regP (Γ := noEnv) [0, 3, 4] (noEnv_ok _ _) rfl rfl rfl (fun K hK => ?_)
            simp only [Tryd.f14, bodyOf, Option.getD_some, cl, cr, rOps, lights, light, rN, List.size_toArray, List.length_cons, List.length_nil, Nat.reduceAdd, Nat.zero_add, List.map_cons, List.map_nil, Option.map_none]
            simp (maxSteps := 300000) (disch := omega) only [go_sem, Nat.reduceAdd, ↓reduceIte]
            with_reducible refine hK _ ?_
            clear hK K
            refine nx_loop ?_
            refine ⟨⟨k + 1, id, _⟩, ⟨by simp only; omega, by simp only; omega⟩, by simp only; omega, ⟨fun _ => .inr ?_, fun j o h => ?_, Nat.le_refl _⟩⟩
            · simp only [hst, hin, Int.natCast_add, Int.natCast_one]
            · simp only at h
              exact hsub_cons (by simp (disch := omega) only [up_app, ↓reduceIte, eq_self, hst, hin]) (hsub_nil) j o h
      · skip
        have hjo : j = o.length := by omega
        have hd : decide ((j : Int) < (o.length : Int)) = false := decide_eq_false (by omega)
        have hd2 : decide ((j : Int) = (o.length : Int)) = true := decide_eq_true (by omega)
        have hin := insL_at o x j hj hlt (.inl hjo)
        rw [if_neg (fun hh => h1 hh.1)] at hin
        refine awp_seqP rfl ?_
        refine awp_seqP rfl ?_
        refine awp_drwP (Γ := noEnv) (fun _ => 2) [26, 0, 3, 4, 5] mixed (noEnv_ok _ _) rfl rfl rfl (by kernel_rfl) (fun K hK => ?_)
        simp only [Tryd.f14, bodyOf, Option.getD_some, cl, cr, rOps, lights, light, rN, List.size_toArray, List.length_cons, List.length_nil, Nat.reduceAdd, Nat.zero_add, List.map_cons, List.map_nil, Option.map_none, Option.map_some, List.getElem?_toArray, List.getElem?_cons_zero, List.getElem?_cons_succ, Option.bind_some]
        simp (maxSteps := 300000) (disch := omega) only [go_sem, Nat.reduceAdd, reduceCtorEq, ↓reduceIte, hd]
        with_reducible refine hK _ ?_
        clear hK K
        refine nx_then ?_
        refine awp_ifB (.tmp 26) rfl rfl rfl (fun h => ?_) (fun h => ?_)
        · skip
          refine awp_drop rfl ?_
          cases h
        · skip
          refine awp_drop rfl ?_
          clear h
          refine awp_exitN 2 rfl rfl ?_
          refine nx_ex_then (nx_ex_loop (nx_ex_blk ?_))
          refine nx_then ?_
          refine awp_seqP rfl ?_
          refine awp_drwP (Γ := noEnv) (fun _ => 2) [43, 0, 3, 4, 5] mixed (noEnv_ok _ _) rfl rfl rfl (by kernel_rfl) (fun K hK => ?_)
          simp only [Tryd.f14, bodyOf, Option.getD_some, cl, cr, rOps, lights, light, rN, List.size_toArray, List.length_cons, List.length_nil, Nat.reduceAdd, Nat.zero_add, List.map_cons, List.map_nil, Option.map_none, Option.map_some, List.getElem?_toArray, List.getElem?_cons_zero, List.getElem?_cons_succ, Option.bind_some]
          simp (maxSteps := 300000) (disch := omega) only [go_sem, Nat.reduceAdd, ↓reduceIte, hd2]
          with_reducible refine hK _ ?_
          clear hK K
          refine nx_then ?_
          refine awp_ifB (.tmp 43) rfl rfl rfl (fun h => ?_) (fun h => ?_)
          · skip
            refine awp_drop rfl ?_
            clear h
            have etk : (o.drop j).take (o.length - j) = o.drop j := List.take_of_length_le (by rw [List.length_drop]; omega)
            have etk2 : (x :: o.drop j).take (1 + (o.length - j)) = x :: o.drop j := List.take_of_length_le (by rw [List.length_cons, List.length_drop]; omega)
            have edl : (o.drop j).length = o.length - j := List.length_drop
            have eoj : o.take j = o := List.take_of_length_le (by omega)
            have hlen : (o.take j ++ x :: o.drop j).length = o.length + 1 := by simp; omega
            have el : j + (1 + (o.length - j)) = o.length + 1 := by omega
            refine awp_drwP (Γ := noEnv) (fun k => if k = 7 then 0 else if k = 12 then 514 else if k = 13 then 8706 else 2) [0, 3, 4] mixed (noEnv_ok _ _) rfl rfl rfl (by kernel_rfl) (fun K hK => ?_)
            simp only [Tryd.f14, bodyOf, Option.getD_some, cl, cr, rOps, lights, light, rN, List.size_toArray, List.length_cons, List.length_nil, Nat.reduceAdd, Nat.zero_add, List.map_cons, List.map_nil, Option.map_none]
            simp (maxSteps := 300000) (disch := omega) only [go_sem, Nat.reduceAdd, Nat.reduceLeDiff, Nat.reduceLT, Int.reduceLE, Int.reduceToNat, ↓reduceIte, hx, List.singleton_append, c16_cons, Nat.sub_zero, etk2, edl, List.drop_zero]
            with_reducible refine hK _ ?_
            clear hK K
            refine nx_blk (nx_then ?_)
            refine awp_regP (Γ := noEnv) [0, 3, 4] (noEnv_ok _ _) rfl rfl rfl (fun K hK => ?_)
            simp only [Tryd.f14, bodyOf, Option.getD_some, cl, cr, rOps, lights, light, rN, List.size_toArray, List.length_cons, List.length_nil, Nat.reduceAdd, Nat.zero_add, List.map_cons, List.map_nil, Option.map_none]
            simp (maxSteps := 300000) (disch := omega) only [go_sem, Nat.reduceAdd, ↓reduceIte]
            with_reducible refine hK _ ?_
            clear hK K
            refine nx_loop ?_
            refine ⟨⟨k + 1, c2 + 15 + 15 + 13, _⟩, ⟨by simp only; omega, by simp only; omega⟩, by simp only; omega, ⟨fun _ => .inr ?_, fun j o h => ?_, Nat.le_refl _⟩⟩
            · simp only [hst, hin, hlen, el, Int.natCast_add, Int.natCast_one]
            · simp only at h
              exact hsub_cons (by simp (disch := omega) only [up_app, ↓reduceIte, eq_self, hst, hin, eoj]) (hsub_nil) j o h
          · skip
            refine awp_drop rfl ?_
            cases h
    · skip
      refine awp_drop rfl ?_
      refine awp_exitN 0 rfl rfl ?_
      refine nx_ex_then (nx_ex_loop (nx_ex_blk ?_))
      refine nx_then ?_
      refine awp_seqP rfl ?_
      obtain rfl : k = l.length := by omega
      have e9 : refT l l.length = cleanL l := by rw [refT, List.take_length]; exact refCl_eq l
      refine awp_regP (Γ := noEnv) [2] (noEnv_ok _ _) rfl rfl rfl (fun K hK => ?_)
      simp only [Tryd.f14, bodyOf, Option.getD_some, cl, cr, rOps, lights, light, rN, List.size_toArray, List.length_cons, List.length_nil, Nat.reduceAdd, Nat.zero_add, List.map_cons, List.map_nil, Option.map_none]
      simp (maxSteps := 300000) (disch := omega) only [go_sem, Nat.reduceAdd, ↓reduceIte, e9]
      with_reducible refine hK _ ?_
      clear hK K
      refine nx_then ?_
      refine awp_retP rfl ?_
      simp (disch := omega) only [freshQ, freshR, resA, resAL, resA1, Tryd.f14, go_sem, ↓reduceIte]
  · cases hg
theorem ok14 : EntOK Tryd.prog GLh 14 (.fresh true clnG) := ⟨⟨_, Tryd.func14, rfl, rfl⟩, rcln_ok⟩
end Go.AX
