/-
  Sort, part J: sorted, out of an iterator, at numbers of sixteen bits. Sort, part K: doubles struck, at numbers of sixteen bits. Types, part L: bytes held against each other. Types, part M: rows of types; rising rows, as the program and the document make them.
-/
import Derived.Test.YtndohkbppgmbjaaGreatCF
import Derived.Test.YtndohkbppgmbjaaGreatCG
import Derived.Test.YtndohkbppgmbjaaGreatBD
import Derived.Test.YtndohkbppgmbjaaGreatCC
import Derived.Test.YtndohkbppgmbjaaGreatBI
namespace Go.AX
open Go Go.Proofs
def valG : List AV → Option AV
 | [.sl n xs] => some (.fn 84 [.rp [.sl n xs]])
 | _ => none
theorem valG_eq (n : Nat) (xs : List AV) : valG [.sl n xs] = some (.fn 84 [.rp [.sl n xs]]) := (rfl)
theorem sl_inv {σ : Nat → Loc} {I : Nat → Prop} {w : World} {n : Nat} {xs : List AV} {v : Value} (h : Rel σ I w (.sl n xs) v) : ∃ a cap, v = .slice a n cap := by
 cases h with
 | sl _ _ blk o cap f => exact ⟨_, _, rfl⟩
 | slnil => exact ⟨_, _, rfl⟩
 | slzero a => exact ⟨_, _, rfl⟩
theorem vals_ok : cL Tryz.prog GLh 81 valG := by
 intro σ I w nx args vals r h1 h2 h3 hs hr hg
 unfold valG at hg
 split at hg
 ·rename_i n xs
  obtain rfl := Option.some.inj hg
  have hr0 := hr 0 (by simp)
  obtain ⟨a, cap, hv⟩ := sl_inv hr0
  have hvals : vals = #[.slice a n cap] := by
   apply Array.ext
   ·rw [hs]; rfl
   ·intro i h1 h2
    obtain rfl : i = 0 := by simp at h2; omega
    have : vals.getD 0 undef = vals[0] := by simp [Array.getD, h1]
    rw [← this]; simpa using hv
  rw [hvals]
  refine (vals_calls a n cap w).mono ?_
  rintro e w' ⟨rfl, rfl⟩
  have hold : ∀ k, k < w.heap.size → (w.alloc (.cells #[.slice a n cap] 72)).heap[k]? = w.heap[k]? := fun k hk => RowKit.Below.heap_alloc _ _ k hk
  refine ⟨_, σ, fun k => I k ∨ k = w.heap.size, rfl, rfl, rfl, rfl, by simp, hold, fun _ _ => rfl, fun k hk => hk.imp id (fun e => by omega), fun k hk => ?_, ?_⟩
  ·rcases hk with hk | rfl
   ·have := h2 k hk; simp; omega
   ·simp
  ·refine .fn 84 [.rp [.sl n xs]] _ rfl fun i hi => ?_
   obtain rfl : i = 0 := by simp at hi; omega
   refine .rp [.sl n xs] w.heap.size 0 (fun _ => .slice a n cap) (.inr rfl) (fun j hj => ?_) (fun j hj => ?_) (fun j hj => ?_)
   ·obtain rfl : j = 0 := by simp at hj; omega
    exact (Boxed.new w 72 (.slice a n cap)).cell
   ·obtain rfl : j = 0 := by simp at hj; omega
    rfl
   ·obtain rfl : j = 0 := by simp at hj; omega
    have h5 : Rel σ I w (.sl n xs) (.slice a n cap) := by have := hr0; rw [hv] at this; exact this
    exact h5.mono (fun _ _ => rfl) (fun _ h => .inl h) (fun k hk => hold k (h2 k hk))
 ·cases hg
theorem ok84 : bX Tryz.prog GLh 81 (.pure false valG) := ⟨⟨_, Tryz.func81, rfl, rfl⟩, vals_ok⟩
def colG : List AV → Option (Nat × Nat × List AV)
 | [.fn 84 [.rp [.sl n xs]]] => aK (unA xs) fun l => aN (l.length = n ∧ n ≤ 1000000) (some (n, 1, cA l.toArray))
 | _ => none
theorem colG_eq (n : Nat) (xs : List AV) : colG [.fn 84 [.rp [.sl n xs]]] = aK (unA xs) fun l => aN (l.length = n ∧ n ≤ 1000000) (some (n, 1, cA l.toArray)) := (rfl)
theorem col_ok : dH Tryz.prog GLh 82 colG := by
 intro σ I w nx args vals n e xs h1 h2 h3 hs hr hg
 unfold colG at hg
 split at hg
 ·rename_i n0 ys
  replace hg := aJ hg; obtain ⟨l, hl, hg⟩ := hg
  replace hg := aP hg; obtain ⟨⟨hn, hbig⟩, hg⟩ := hg
  simp only [Option.some.injEq, Prod.mk.injEq] at hg; obtain ⟨rfl, rfl, rfl⟩ := hg
  have := dO hl; subst this
  have hr0 := hr 0 (by simp)
  simp only [List.getElem_cons_zero] at hr0
  generalize hv0 : vals.getD 0 undef = v0 at hr0
  cases hr0 with
  | fn f xs vs hvs hrel =>
   have hrp := hrel 0 (by simp)
   simp only [List.getElem_cons_zero] at hrp
   generalize hp0 : vs.getD 0 undef = p0 at hrp
   cases hrp with
   | rp _ blk o f hI hc hcell hrl =>
    have hvs1 : vs = #[.pointer (some ⟨blk, o, none⟩)] := by
     apply Array.ext
     ·rw [hvs]; rfl
     ·intro i h1 h2
      obtain rfl : i = 0 := by simp at h2; omega
      have : vs.getD 0 undef = vs[0] := by simp [Array.getD, h1]
      rw [← this]; simpa using hp0
    have hvals : vals = #[.func (.func 84) #[] #[.pointer (some ⟨blk, o, none⟩)]] := by
     apply Array.ext
     ·rw [hs]; rfl
     ·intro i h1 h2
      obtain rfl : i = 0 := by simp at h2; omega
      have : vals.getD 0 undef = vals[0] := by simp [Array.getD, h1]
      rw [← this, hv0, hvs1]; rfl
    have hc0 := hc 0 (by simp)
    have hs0 := hrl 0 (by simp)
    simp only [List.getElem_cons_zero, Nat.add_zero] at hc0 hs0
    have hU : U16s w.heap.size w (f 0) (l.map fun t : T16 => (t.toNat : Int)) := by
     generalize hf0 : f 0 = v1 at hs0
     generalize hzs : cA l.toArray = zs at hs0
     cases hs0 with
     | slnil => exact .inl ⟨.inl rfl, by rw [List.eq_nil_of_length_eq_zero hn]; rfl⟩
     | slzero a => exact .inl ⟨.inr ⟨a, _, rfl⟩, by rw [List.eq_nil_of_length_eq_zero hn]; rfl⟩
     | sl _ _ blk2 o2 cap f2 hI2 hcap hc2 hcell2 hrl2 =>
      refine .inr ⟨blk2, o2, cap, by rw [List.length_map, hn], h2 _ hI2, fun j hj => ?_⟩
      rw [List.length_map] at hj
      subst hzs
      have hj2 : j < (cA l.toArray).length := by rw [cA_len]; simpa using hj
      rw [hc2 j hj2]
      have h5 := hrl2 j hj2
      have e5 : (cA l.toArray)[j] = .w16 l[j] := by simp [cA]
      rw [e5] at h5
      generalize f2 j = u at h5 ⊢
      cases h5
      simp [hj]
    rw [hvals]
    refine (coll_calls blk o (f 0) _ (by rw [List.length_map]; omega) w (h2 _ hI) hc0 hU).mono ?_
    rintro e w' ⟨v, rfl, hrow, hnil, hb⟩
    refine ⟨v, σ, I, rfl, hb.os, hb.tape, hb.output, hb.size, fun k hk => hb.block k hk, fun _ _ => rfl, fun _ h => .inl h, fun k hk => Nat.lt_of_lt_of_le (h2 k hk) hb.size, ?_⟩
    rcases hrow.2 with ⟨rfl, h0⟩ | ⟨g, cap, cur, rfl, hbg, hgb, hcap, hmax, hsz, htake⟩
    ·left
     rw [List.length_map] at h0
     exact ⟨.inl rfl, by omega, by rw [List.eq_nil_of_length_eq_zero h0]; rfl⟩
    ·right
     rw [List.length_map] at hcap htake
     refine ⟨g, 0, cap, cap, by rw [List.length_map, hn], by omega, by omega, hbg, fun hI5 => absurd (h2 _ hI5) (by omega), ⟨cur, 22, 0, 0, hgb, by omega, by rw [cA_len]; simp; omega, ⟨Nat.le_refl _, fun _ _ => by omega⟩, fun i hi => ?_⟩, fun i hi => ?_⟩
     ·rw [cA_len] at hi
      have hil : i < l.length := by simpa using hi
      have e5 : (cA l.toArray)[i]'(by rw [cA_len]; exact hi) = .w16 l[i] := by simp [cA]
      rw [e5]
      have h6 : (cur.toList.take (l.length * 1))[i]? = some (.int .u16 (l[i].toNat : Int)) := by rw [htake]; simp [hil]
      rw [List.getElem?_take_of_lt (by omega)] at h6
      have e6 : cur.getD (0 + i) undef = .int .u16 (l[i].toNat : Int) := by
       rw [Nat.zero_add, Array.getD_eq_getD_getElem?, ← Array.getElem?_toList, h6]; rfl
      rw [e6]; exact .w16 _
     ·have hil : i < l.length := by rw [cA_len] at hi; simpa using hi
      have e5 : (cA l.toArray)[i]'hi = .w16 l[i] := by simp [cA]
      rw [e5]; rfl
 ·cases hg
theorem ok87 : bX Tryz.prog GLh 82 (.fresh false colG) := ⟨⟨_, Tryz.func82, rfl, rfl⟩, col_ok⟩
theorem pdq_okN : ∀ N : Nat, cQ Tryz.prog GLh 86 (dP (pdqG N))
 | 0 => pdq_ok0
 | N + 1 => pdq_okS N (pdq_okN N)
theorem ok91 : bX Tryz.prog GLh 86 (.heap (dP (pdqG 1000001))) := ⟨⟨_, Tryz.func86, rfl, rfl⟩, pdq_okN 1000001⟩
def srtG : List AV → List AV → Option (AV × List AV)
 | [.os _ 0 n 1 _], xs => aK (unA xs) fun l => aN (l.length = n ∧ n ≤ 1000000) (some (.tup [], cA (sortL l).toArray))
 | _, _ => none
theorem srtG_eq (id n : Nat) (gg : Bool) (xs : List AV) : srtG [.os id 0 n 1 gg] xs = aK (unA xs) fun l => aN (l.length = n ∧ n ≤ 1000000) (some (.tup [], cA (sortL l).toArray)) := (rfl)
theorem frzArg_fn (hp : H) (f : FuncId) (xs : List AV) : dW hp (.fn f xs) = some (.fn f xs, hp) := (rfl)
attribute [go_sem] srtG_eq valG_eq colG_eq frzArg_fn
set_option maxHeartbeats 1000000 in
theorem srt_ok : cQ Tryz.prog GLh 83 (dP srtG) := by
 refine dN Tryz.func83 (aT rfl) ?_
 intro id off n e gg rest nx xs r ys hg
 unfold srtG at hg
 split at hg
 ·rename_i id2 n2 gg2 heq
  simp only [List.cons.injEq, AV.os.injEq] at heq
  obtain ⟨⟨rfl, rfl, rfl, rfl, rfl⟩, rfl⟩ := heq
  replace hg := aJ hg; obtain ⟨l, hl, hg⟩ := hg
  replace hg := aP hg; obtain ⟨⟨hn, hbig⟩, hg⟩ := hg
  simp only [Option.some.injEq, Prod.mk.injEq] at hg; obtain ⟨rfl, rfl⟩ := hg
  have := dO hl; subst this
  obtain ⟨R, hR⟩ : ∃ R, (sortL l).toArray = R := ⟨_, rfl⟩
  obtain ⟨d, hd⟩ : ∃ d, l.toArray = d := ⟨_, rfl⟩
  have hds : d.size = n := by rw [← hd]; simpa using hn
  have hR2 : Sort.pdq ltN d 0 n (Sort.bitsLen n) true true = R := by
   rw [← hR, ← hd]; unfold sortL Sort.sort; simp [← hds, ← hd]
  rw [hR, hd]
  have h20 := bits20 hbig
  have e1 := ofI_nat hbig
  have hB : Sort.Below ltN 0 n d := .inl rfl
  refine ⟨Nat.le_of_ble_eq_true rfl, fun hid => ?_⟩
  clear hl hn
  refine aA rfl ?_
  refine aC (Γ := aL) [0, 2] (aD _ _) rfl rfl rfl (fun K hK => ?_)
  simp (disch := omega) only [Tryz.f83, go_sem, Nat.reduceAdd, ↓reduceIte]
  refine hK _ ?_
  refine aB ?_
  refine aC (Γ := bC [(87, .pure true lenG), (86, .heap (dP (pdqG 1000001)))]) [] (aH ok92 (aH ok91 aO)) rfl rfl rfl (fun K hK => ?_)
  simp (disch := omega) only [Tryz.f83, go_sem, Nat.reduceAdd, Int.reduceLE, ↓reduceIte, e1, hds, hB, hR2, Int.toNat_natCast, Int.toNat_zero]
  refine hK _ ?_
  exact ⟨rfl, by simp only [aV, if_true], rfl, dZ _⟩
 ·cases hg
theorem ok88 : bX Tryz.prog GLh 83 (.heap (dP srtG)) := ⟨⟨_, Tryz.func83, rfl, rfl⟩, srt_ok⟩
def srdG : List AV → Option (Nat × Nat × List AV)
 | [.fn 84 [.rp [.sl n xs]]] => aK (unA xs) fun l => aN (l.length = n ∧ n ≤ 1000000) (some (n, 1, cA (sortL l).toArray))
 | _ => none
theorem srdG_eq (n : Nat) (xs : List AV) : srdG [.fn 84 [.rp [.sl n xs]]] = aK (unA xs) fun l => aN (l.length = n ∧ n ≤ 1000000) (some (n, 1, cA (sortL l).toArray)) := (rfl)
attribute [go_sem] srdG_eq
set_option maxHeartbeats 1000000 in
theorem srd_ok : dH Tryz.prog GLh 80 srdG := by
 refine cT Tryz.func80 (aT rfl) ?_
 intro args r hg
 unfold srdG at hg
 split at hg
 ·rename_i n xs
  replace hg := aJ hg; obtain ⟨l, hl, hg⟩ := hg
  replace hg := aP hg; obtain ⟨⟨hn, hbig⟩, hg⟩ := hg
  obtain rfl := Option.some.inj hg
  have := dO hl; subst this
  have hsl : (sortL l).length = n := by rw [sortL_len]; exact hn
  refine ⟨Nat.le_of_ble_eq_true rfl, fun nx => ?_⟩
  clear hl hg
  refine aA rfl ?_
  refine aC (Γ := aL) [0] (aD _ _) rfl rfl rfl (fun K hK => ?_)
  simp (disch := omega) only [Tryz.f80, go_sem, ↓reduceIte]
  refine hK _ ?_
  refine aB ?_
  refine aA rfl ?_
  refine aC (Γ := bC [(82, .fresh false colG)]) [3] (aH ok87 aO) rfl rfl rfl (fun K hK => ?_)
  simp (disch := omega) only [Tryz.f80, go_sem, Nat.reduceAdd, ↓reduceIte, hn]
  refine hK _ ?_
  refine aB ?_
  refine aA rfl ?_
  refine aC (Γ := bC [(83, .heap (dP srtG))]) [3] (aH ok88 aO) rfl rfl rfl (fun K hK => ?_)
  simp (disch := omega) only [Tryz.f80, go_sem, Nat.reduceAdd, ↓reduceIte, hn]
  refine hK _ ?_
  refine aB ?_
  refine aA rfl ?_
  refine aC (Γ := aL) [2] (aD _ _) rfl rfl rfl (fun K hK => ?_)
  simp (disch := omega) only [Tryz.f80, go_sem, Nat.reduceAdd, ↓reduceIte]
  refine hK _ ?_
  refine aB ?_
  refine aS rfl ?_
  simp (disch := omega) only [fE, eO, bV, bK, bQ, Tryz.f80, go_sem, ↓reduceIte, hsl]
 ·cases hg
theorem ok83 : bX Tryz.prog GLh 80 (.fresh false srdG) := ⟨⟨_, Tryz.func80, rfl, rfl⟩, srd_ok⟩
end Go.AX
namespace Go.AX
open Go Go.Proofs
theorem compL_snoc : ∀ (p : List T16) (a x : T16), dL (p ++ [a] ++ [x]) = if a = x then dL (p ++ [a]) else dL (p ++ [a]) ++ [x]
 | [], a, x => by show dL [a, x] = _; rw [dL]; split <;> simp_all [dL]
 | [b], a, x => by
  have h := compL_snoc [] a x
  simp only [List.nil_append, List.cons_append] at h ⊢
  rw [dL, h]
  conv => rhs; rw [dL]
  split <;> split <;> simp
 | b :: c :: p, a, x => by
  have h := compL_snoc (c :: p) a x
  simp only [List.cons_append] at h ⊢
  rw [dL, h]
  conv => rhs; rw [dL]
  split <;> split <;> simp
theorem take_succ16 (d : Array T16) (j : Nat) (h : j < d.size) : d.toList.take (j + 1) = d.toList.take j ++ [d[j]!] := by
 rw [List.take_add_one, getElem!_pos d j h]
 simp [h]
theorem compL_step (d : Array T16) (j : Nat) (h0 : 0 < j) (h : j < d.size) : dL (d.toList.take (j + 1)) = if d[j - 1]! = d[j]! then dL (d.toList.take j) else dL (d.toList.take j) ++ [d[j]!] := by
 obtain ⟨i, rfl⟩ : ∃ i, j = i + 1 := ⟨j - 1, by omega⟩
 rw [take_succ16 d (i + 1) h, take_succ16 d i (by omega), compL_snoc, Nat.add_sub_cancel]
theorem set_take16 (d : Array T16) (k : Nat) (x : T16) (h : k < d.size) : (d.setIfInBounds k x).toList.take (k + 1) = d.toList.take k ++ [x] := by
 have h1 := take_succ16 (d.setIfInBounds k x) k (by simpa using h)
 rw [h1]
 congr 1
 ·simp [List.take_set_of_le]
 ·rw [getElem!_pos _ k (by simpa using h)]; simp
theorem set_get16 (d : Array T16) (k i : Nat) (x : T16) (h : k ≠ i) : (d.setIfInBounds k x)[i]! = d[i]! := by
 by_cases hi : i < d.size
 ·rw [getElem!_pos _ i (by simpa using hi), getElem!_pos _ i hi]
  rw [Array.getElem_setIfInBounds]
  rw [if_neg h]
 ·rw [getElem!_neg _ i (by simpa using hi), getElem!_neg _ i hi]
theorem cA_take (d : Array T16) (k : Nat) : (cA d).take k = cA (d.toList.take k).toArray := by simp [cA, List.map_take]
structure SCP where
 k : Nat
 j : Nat
 d : Array T16
 c : Nat
def cmpG : List AV → List AV → Option (AV × List AV)
 | [.os id 0 n 1 gg], xs => aK (unA xs) fun l => aN (l.length = n ∧ n ≤ 1000000) (some (.os id 0 (dL l).length 1 gg, cA (dL l).toArray))
 | _, _ => none
theorem cmpG_eq (id n : Nat) (gg : Bool) (xs : List AV) : cmpG [.os id 0 n 1 gg] xs = aK (unA xs) fun l => aN (l.length = n ∧ n ≤ 1000000) (some (.os id 0 (dL l).length 1 gg, cA (dL l).toArray)) := (rfl)
attribute [go_sem] cmpG_eq
set_option maxHeartbeats 2000000 in
theorem cmp_ok : cQ Tryz.prog GLh 79 (dP cmpG) := by
 refine mut_of_awpR Tryz.func79 (aT rfl) ?_
 intro id off n e gg rest nx xs r ys hg
 unfold cmpG at hg
 split at hg
 ·rename_i id2 n2 gg2 heq
  simp only [List.cons.injEq, AV.os.injEq] at heq
  obtain ⟨⟨rfl, rfl, rfl, rfl, rfl⟩, rfl⟩ := heq
  replace hg := aJ hg; obtain ⟨l, hl, hg⟩ := hg
  replace hg := aP hg; obtain ⟨⟨hn, hbig⟩, hg⟩ := hg
  simp only [Option.some.injEq, Prod.mk.injEq] at hg; obtain ⟨rfl, rfl⟩ := hg
  have := dO hl; subst this
  obtain ⟨d, hd⟩ : ∃ d, l.toArray = d := ⟨_, rfl⟩
  have hds : d.size = n := by rw [← hd]; simpa using hn
  obtain rfl : l = d.toList := by rw [← hd]
  have hdl : d.toList.take n = d.toList := List.take_of_length_le (by rw [Array.length_toList]; omega)
  obtain ⟨C, hC⟩ : ∃ C, dL d.toList = C := ⟨_, rfl⟩
  rw [Array.toArray_toList, hC]
  refine ⟨Nat.le_of_ble_eq_true rfl, fun hid => ?_⟩
  clear hl hn hd
  refine aA rfl ?_
  refine aC (Γ := aL) [0] (aD _ _) rfl rfl rfl (fun K hK => ?_)
  simp (disch := omega) only [Tryz.f79, go_sem, ↓reduceIte]
  refine hK _ ?_
  refine aB ?_
  refine aA rfl ?_
  refine aA rfl ?_
  refine aC (Γ := aL) [8, 0] (aD _ _) rfl rfl rfl (fun K hK => ?_)
  simp (disch := omega) only [Tryz.f79, go_sem, Nat.reduceAdd, ↓reduceIte]
  refine hK _ ?_
  refine aB ?_
  refine aW (.tmp 8) rfl rfl rfl (fun h => ?_) (fun h => ?_)
  ·skip
   refine aI rfl ?_
   have hn1 : n < 2 := by omega
   have hCd : C = d.toList := by
    rw [← hC]
    generalize hdd : d.toList = q at *
    have hq : q.length = n := by rw [← hdd, Array.length_toList]; exact hds
    match q, hq with
    | [], _ => rfl
    | [x], _ => rfl
    | x :: y :: r, hq => simp at hq; omega
   refine aA rfl ?_
   refine aC (Γ := aL) [2] (aD _ _) rfl rfl rfl (fun K hK => ?_)
   simp (disch := omega) only [Tryz.f79, go_sem, Nat.reduceAdd, ↓reduceIte]
   refine hK _ ?_
   refine aB ?_
   refine aS rfl ?_
   refine bI ?_
   refine ⟨?_, ?_, .inr ⟨_, _, _, _, rfl⟩, dZ _⟩
   ·rw [hCd, Array.length_toList, hds]; rfl
   ·simp only [aV, if_true, hCd, Array.toArray_toList]
  ·skip
   refine aI rfl ?_
   have hn2 : 2 ≤ n := by omega
   have hc1 : dL (d.toList.take 1) = d.toList.take 1 := by
    generalize d.toList = q
    match q with
    | [] => rfl
    | x :: r => rfl
   refine aQ rfl ?_
   refine aB ?_
   refine aA rfl ?_
   refine aA rfl ?_
   refine aC (Γ := aL) [0, 3] (aD _ _) rfl rfl rfl (fun K hK => ?_)
   simp (disch := omega) only [Tryz.f79, go_sem, ↓reduceIte]
   refine hK _ ?_
   refine aB ?_
   refine aR 0 rfl rfl ?_
   refine bR (fun p : SKC => { fr := [(0, .os id 0 n 1 gg), (3, .i p.k)], hp := upd (fun _ => none) id (.cells (cA d) true), nx := 0, cx := p.c }) (fun p => dL (d.toList.take p.k) = d.toList.take p.k ∧ 0 < p.k ∧ p.k ≤ n ∧ id < p.c) (fun p => n - p.k) rfl ⟨⟨1, _⟩, ⟨hc1, by simp only; omega, by simp only; omega, by simp only; omega⟩, bD rfl rfl (Nat.le_refl _)⟩ ?_
   rintro ⟨k, c⟩ ⟨hr, hk0, hkn, hc⟩ n0
   simp only at hr hk0 hkn hc ⊢
   refine aA rfl ?_
   refine aA rfl ?_
   refine aC (Γ := aL) [13, 0, 3] (aD _ _) rfl rfl rfl (fun K hK => ?_)
   simp (disch := omega) only [Tryz.f79, go_sem, Nat.reduceAdd, ↓reduceIte]
   refine hK _ ?_
   refine aB ?_
   refine aW (.tmp 13) rfl rfl rfl (fun h => ?_) (fun h => ?_)
   ·skip
    refine aI rfl ?_
    have hkn2 : k < n := by omega
    have ek : (k : Int) - 1 = ((k - 1 : Nat) : Int) := by omega
    have hst := compL_step d k hk0 (by omega)
    refine aQ rfl ?_
    refine aB ?_
    refine aA rfl ?_
    refine aR 1 rfl rfl ?_
    refine aA rfl ?_
    refine bB (Γ := aL) (fun _ => 2) [25, 0, 3] bZ (aD _ _) rfl rfl rfl (by kernel_rfl) (fun K hK => ?_)
    simp (disch := omega) only [Tryz.f79, go_sem, Nat.reduceAdd, ↓reduceIte, ek, Int.toNat_natCast]
    refine hK _ ?_
    refine aB ?_
    refine aW (.tmp 25) rfl rfl rfl (fun h => ?_) (fun h => ?_)
    ·skip
     refine aI rfl ?_
     rw [if_pos h.symm] at hst
     refine aA rfl ?_
     refine aC (Γ := aL) [0, 3, 4] (aD _ _) rfl rfl rfl (fun K hK => ?_)
     simp (disch := omega) only [Tryz.f79, go_sem, Nat.reduceAdd, ↓reduceIte]
     refine hK _ ?_
     refine aB ?_
     refine aA rfl ?_
     refine aA rfl ?_
     refine aC (Γ := aL) [0, 3, 4, 5] (aD _ _) rfl rfl rfl (fun K hK => ?_)
     simp (disch := omega) only [Tryz.f79, go_sem, ↓reduceIte]
     refine hK _ ?_
     refine aB ?_
     refine aR 2 rfl rfl ?_
     refine bR (fun p : SCP => { fr := [(0, .os id 0 n 1 gg), (3, .i p.k), (4, .os id k (n - k) 1 gg), (5, .i p.j)], hp := upd (fun _ => none) id (.cells (cA p.d) true), nx := 0, cx := p.c }) (fun p => dL (d.toList.take (k + p.j)) = p.d.toList.take p.k ∧ (∀ i, p.k ≤ i → p.d[i]! = d[i]!) ∧ p.d.size = n ∧ p.k + 1 ≤ k + p.j ∧ 1 ≤ p.j ∧ k + p.j ≤ n ∧ id < p.c) (fun p => n - p.j) rfl ⟨⟨k, 1, d, _⟩, ⟨by simp only; rw [hst, hr], fun _ _ => rfl, hds, by simp only; omega, by simp only; omega, by simp only; omega, by simp only; omega⟩, bD (by simp only [Int.cast_ofNat_Int]) rfl (Nat.le_refl _)⟩ ?_
     rintro ⟨m, j, d1, c1⟩ ⟨hq1, hq2, hs1, hm, hj0, hjn, hc1⟩ n0
     simp only at hq1 hq2 hs1 hm hj0 hjn hc1 ⊢
     refine aA rfl ?_
     refine aA rfl ?_
     refine aC (Γ := aL) [32, 0, 3, 4, 5] (aD _ _) rfl rfl rfl (fun K hK => ?_)
     simp (disch := omega) only [Tryz.f79, go_sem, Nat.reduceAdd, ↓reduceIte]
     refine hK _ ?_
     refine aB ?_
     refine aW (.tmp 32) rfl rfl rfl (fun h => ?_) (fun h => ?_)
     ·skip
      refine aI rfl ?_
      have hjn2 : k + j < n := by omega
      have ej : (j : Int) - 1 = ((j - 1 : Nat) : Int) := by omega
      have ej2 : k + (j - 1) = k + j - 1 := by omega
      have hst2 := compL_step d (k + j) (by omega) (by omega)
      have g1 := hq2 (k + j) (by omega)
      have g2 := hq2 (k + j - 1) (by omega)
      refine aQ rfl ?_
      refine aB ?_
      refine aA rfl ?_
      refine aR 3 rfl rfl ?_
      refine aA rfl ?_
      refine bB (Γ := aL) (fun _ => 2) [44, 0, 3, 4, 5] bZ (aD _ _) rfl rfl rfl (by kernel_rfl) (fun K hK => ?_)
      simp (disch := omega) only [Tryz.f79, go_sem, Nat.reduceAdd, ↓reduceIte, ej, ej2, g1, g2, Int.toNat_natCast]
      refine hK _ ?_
      refine aB ?_
      refine awp_ifE (.tmp 44) rfl rfl rfl (fun h => ?_) (fun h => ?_)
      ·skip
       refine aI rfl ?_
       have hmn : m < n := by omega
       rw [if_neg (fun e => h e.symm)] at hst2
       refine aA rfl ?_
       refine aC (Γ := aL) [0, 3, 4, 5] (aD _ _) rfl rfl rfl (fun K hK => ?_)
       simp (disch := omega) only [Tryz.f79, go_sem, Nat.reduceAdd, ↓reduceIte, hs1, g1, Int.toNat_natCast]
       refine hK _ ?_
       refine aB ?_
       refine aC (Γ := aL) [0, 3, 4, 5] (aD _ _) rfl rfl rfl (fun K hK => ?_)
       simp (disch := omega) only [Tryz.f79, go_sem, Nat.reduceAdd, ↓reduceIte]
       refine hK _ ?_
       refine bU (aB ?_)
       refine aC (Γ := aL) [0, 3, 4, 5] (aD _ _) rfl rfl rfl (fun K hK => ?_)
       simp (disch := omega) only [Tryz.f79, go_sem, Nat.reduceAdd, ↓reduceIte]
       refine hK _ ?_
       refine bT ?_
       refine ⟨⟨m + 1, j + 1, d1.setIfInBounds m d[k + j]!, _⟩, ⟨by simp only; rw [show k + (j + 1) = k + j + 1 by omega, hst2, hq1, set_take16 _ _ _ (by omega)], fun i hi => ?_, by simp only [Array.size_setIfInBounds]; exact hs1, by simp only; omega, by simp only; omega, by simp only; omega, by simp only; omega⟩, by simp only; omega, ⟨fun _ => .inr (by simp only [Int.natCast_add, Int.natCast_one]), bS (by simp (disch := omega) only [aV, ↓reduceIte, eq_self]) cB, Nat.le_refl _⟩⟩
       simp only at hi ⊢
       rw [set_get16 _ _ _ _ (by omega)]; exact hq2 i (by omega)
      ·skip
       refine aI rfl ?_
       rw [if_pos h.symm] at hst2
       refine aQ rfl ?_
       refine bU (aB ?_)
       refine aC (Γ := aL) [0, 3, 4, 5] (aD _ _) rfl rfl rfl (fun K hK => ?_)
       simp (disch := omega) only [Tryz.f79, go_sem, Nat.reduceAdd, ↓reduceIte]
       refine hK _ ?_
       refine bT ?_
       refine ⟨⟨m, j + 1, d1, _⟩, ⟨by simp only; rw [show k + (j + 1) = k + j + 1 by omega, hst2, hq1], hq2, hs1, by simp only; omega, by simp only; omega, by simp only; omega, by simp only; omega⟩, by simp only; omega, bD (by simp only [Int.natCast_add, Int.natCast_one]) rfl (Nat.le_refl _)⟩
     ·skip
      refine aI rfl ?_
      have hjn3 : k + j = n := by omega
      rw [hjn3, hdl, hC] at hq1
      have hmn : m ≤ n := by omega
      have hCl : C.length = m := by rw [hq1, List.length_take, Array.length_toList]; omega
      refine bF 2 rfl rfl ?_
      refine aY (aZ (bE ?_))
      refine aB ?_
      refine aA rfl ?_
      refine aC (Γ := aL) [0, 3] (aD _ _) rfl rfl rfl (fun K hK => ?_)
      simp (disch := omega) only [Tryz.f79, go_sem, Nat.reduceAdd, Nat.reduceLT, ↓reduceIte, hs1, Int.toNat_natCast]
      refine hK _ ?_
      refine aB ?_
      refine aA rfl ?_
      refine aC (Γ := aL) [2] (aD _ _) rfl rfl rfl (fun K hK => ?_)
      simp (disch := omega) only [Tryz.f79, go_sem, Nat.reduceAdd, Int.reduceLE, Int.reduceToNat, ↓reduceIte]
      refine hK _ ?_
      refine aB ?_
      refine awp_trunc id m _ (by simp only [aV, if_true]; rfl) ?_
      refine aS rfl ?_
      refine bN (bI (dF (bN (bI ?_))))
      refine ⟨?_, ?_, .inr ⟨_, _, _, _, rfl⟩, dZ _⟩
      ·rw [hCl]; rfl
      ·simp only [aV, if_true]
       rw [hq1, ← cA_take]
       simp [cK, cA_len, hs1, hmn]
    ·skip
     refine aI rfl ?_
     rw [if_neg (fun e => h e.symm), hr] at hst
     rw [← take_succ16 d k (by omega)] at hst
     refine aQ rfl ?_
     refine bU (aB ?_)
     refine aC (Γ := aL) [0, 3] (aD _ _) rfl rfl rfl (fun K hK => ?_)
     simp (disch := omega) only [Tryz.f79, go_sem, Nat.reduceAdd, ↓reduceIte]
     refine hK _ ?_
     refine bT ?_
     refine ⟨⟨k + 1, _⟩, ⟨hst, by simp only; omega, by simp only; omega, by simp only; omega⟩, by simp only; omega, bD (by simp only [Int.natCast_add, Int.natCast_one]) rfl (Nat.le_refl _)⟩
   ·skip
    refine aI rfl ?_
    have hkn3 : k = n := by omega
    rw [hkn3, hdl, hC] at hr
    refine bF 0 rfl rfl ?_
    refine aY (aZ (bE ?_))
    refine aB ?_
    refine aA rfl ?_
    refine aC (Γ := aL) [2] (aD _ _) rfl rfl rfl (fun K hK => ?_)
    simp (disch := omega) only [Tryz.f79, go_sem, Nat.reduceAdd, ↓reduceIte]
    refine hK _ ?_
    refine aB ?_
    refine aS rfl ?_
    refine ⟨?_, ?_, .inr ⟨_, _, _, _, rfl⟩, dZ _⟩
    ·rw [hr, Array.length_toList, hds]; rfl
    ·simp only [aV, if_true, hr, Array.toArray_toList]
 ·cases hg
theorem ok82 : bX Tryz.prog GLh 79 (.heap (dP cmpG)) := ⟨⟨_, Tryz.func79, rfl, rfl⟩, cmp_ok⟩
end Go.AX
namespace Go.AX
open Go Go.Proofs
set_option maxHeartbeats 2000000 in
theorem beq_ok : cL Tryz.prog GLh 74 beqG := by
 refine cC Tryz.func74 (aT rfl) ?_
 intro args r hg
 unfold beqG at hg
 split at hg
 ·rename_i n xs m ys
  replace hg := aJ hg; obtain ⟨a, ha, hg⟩ := hg
  replace hg := aJ hg; obtain ⟨b, hb, hg⟩ := hg
  replace hg := aP hg; obtain ⟨⟨hn, hm⟩, hg⟩ := hg
  obtain rfl := Option.some.inj hg
  have := bW ha; subst this
  have := bW hb; subst this
  subst hn; subst hm
  refine ⟨Nat.le_of_ble_eq_true rfl, fun nx => ?_⟩
  clear hg ha hb
  refine aA rfl ?_
  refine aC (Γ := aL) [0, 1] (aD _ _) rfl rfl rfl (fun K hK => ?_)
  simp (disch := omega) only [Tryz.f74, go_sem, ↓reduceIte]
  refine hK _ ?_
  refine aB ?_
  refine aA rfl ?_
  refine aC (Γ := aL) [4] (aD _ _) rfl rfl rfl (fun K hK => ?_)
  simp (disch := omega) only [Tryz.f74, go_sem, Nat.reduceAdd, ↓reduceIte, iA]
  refine hK _ ?_
  refine aB ?_
  refine aS rfl ?_
  simp (disch := omega) only [cN, bV, bK, bQ, Tryz.f74, go_sem, ↓reduceIte]
 ·cases hg
theorem ok76 : bX Tryz.prog GLh 74 (.pure true beqG) := ⟨⟨_, Tryz.func74, rfl, rfl⟩, beq_ok⟩
end Go.AX
namespace Go.AX
open Go Go.Proofs
def c16 (l : List T16) : List AV := l.map .w16
theorem cA_toArray (l : List T16) : cA l.toArray = c16 l := (rfl)
theorem c16_len (l : List T16) : (c16 l).length = l.length := List.length_map ..
theorem c16_head (l : List T16) (k : Nat) (h : k < l.length) : ((c16 l).drop k).head? = some (.w16 (l.getD k 0#16)) := by
 rw [List.head?_drop]; simp [c16, List.getElem?_map, List.getElem?_eq_getElem h]
theorem c16_drop (l : List T16) (k : Nat) : (c16 l).drop k = c16 (l.drop k) := by simp [c16, List.map_drop]
theorem c16_take (l : List T16) (k : Nat) : (c16 l).take k = c16 (l.take k) := by simp [c16, List.map_take]
theorem c16_headd (l : List T16) (k : Nat) (h : k < l.length) : (c16 (l.drop k)).head? = some (.w16 (l.getD k 0#16)) := by rw [← c16_drop]; exact c16_head l k h
theorem c16_head0 (l : List T16) (h : 0 < l.length) : (c16 l).head? = some (.w16 (l.getD 0 0#16)) := c16_head l 0 h
theorem c16_noOwn (l : List T16) : dB (c16 l) = true := by
 simp only [dB, c16, List.all_eq_true, List.mem_map]
 rintro _ ⟨x, _, rfl⟩; rfl
theorem c16_noOs (l : List T16) : gH (c16 l) = true := by
 simp only [gH, c16, Bool.not_eq_true', List.any_eq_false, List.mem_map]
 rintro _ ⟨x, _, rfl⟩
 simp [isOs]
theorem c16_nm (l : List T16) : AV.noMem.noMemL (c16 l) = true := by
 induction l with
 | nil => rfl
 | cons x l ih => show (AV.noMem (.w16 x) && AV.noMem.noMemL (c16 l)) = true; rw [ih]; rfl
theorem c16_app (l m : List T16) : c16 l ++ c16 m = c16 (l ++ m) := by simp [c16]
theorem c16_app1 (l : List T16) (x : T16) : c16 l ++ [AV.w16 x] = c16 (l ++ [x]) := by simp [c16]
theorem c16_cons (x : T16) (l : List T16) : AV.w16 x :: c16 l = c16 (x :: l) := rfl
theorem c16_take_all (l : List T16) (k : Nat) (h : l.length ≤ k) : (c16 l).take k = c16 l := List.take_of_length_le (by rw [c16_len]; exact h)
theorem unA_c16 (l : List T16) : unA (c16 l) = some l := by have := unA_cA l.toArray; rwa [cA_toArray] at this
theorem gU {xs : List AV} {l : List T16} (h : unA xs = some l) : xs = c16 l := by rw [dO h, cA_toArray]
attribute [go_sem] cA_toArray c16_len c16_head c16_headd c16_head0 c16_drop c16_take c16_noOwn c16_noOs c16_nm c16_app c16_app1 unA_c16
theorem take_next16 {a b : List T16} {k : Nat} (ha : k < a.length) (hb : k < b.length) (h : a.take k = b.take k) (e : a.getD k 0#16 = b.getD k 0#16) : a.take (k + 1) = b.take (k + 1) := by
 rw [List.take_succ_eq_append_getElem ha, List.take_succ_eq_append_getElem hb, h]
 rw [List.getD_eq_getElem?_getD, List.getD_eq_getElem?_getD, List.getElem?_eq_getElem ha, List.getElem?_eq_getElem hb] at e
 simp only [Option.getD_some] at e
 rw [e]
def typG : List AV → Option AV
 | [.sl n xs, .sl m ys] => aK (unA xs) fun a => aK (unA ys) fun b => aN (a.length = n ∧ b.length = m ∧ n ≤ 9223372036854775807 ∧ m ≤ 9223372036854775807) (some (.b (decide (a = b))))
 | _ => none
theorem typG_eq (n m : Nat) (xs ys : List AV) : typG [.sl n xs, .sl m ys] = aK (unA xs) fun a => aK (unA ys) fun b => aN (a.length = n ∧ b.length = m ∧ n ≤ 9223372036854775807 ∧ m ≤ 9223372036854775807) (some (.b (decide (a = b)))) := (rfl)
attribute [go_sem] typG_eq
theorem compL_len : ∀ l : List T16, (dL l).length ≤ l.length
 | [] => Nat.le_refl _
 | [x] => Nat.le_refl _
 | x :: y :: r => by
  have h := compL_len (y :: r)
  rw [dL]
  split
  ·simp only [List.length_cons] at h ⊢; omega
  ·simp only [List.length_cons] at h ⊢; omega
theorem cleanL_len (l : List T16) : (eA l).length ≤ l.length := by
 have := compL_len (sortL l); rw [sortL_len] at this; exact this
def clnG : List AV → Option (Nat × Nat × List AV)
 | [.sl n xs] => aK (unA xs) fun l => aN (l.length = n ∧ n ≤ 1000000) (some ((eA l).length, 1, c16 (eA l)))
 | _ => none
theorem clnG_eq (n : Nat) (xs : List AV) : clnG [.sl n xs] = aK (unA xs) fun l => aN (l.length = n ∧ n ≤ 1000000) (some ((eA l).length, 1, c16 (eA l))) := (rfl)
attribute [go_sem] clnG_eq
set_option maxHeartbeats 1000000 in
theorem cln_ok : dH Tryz.prog GLh 78 clnG := by
 refine cT Tryz.func78 (aT rfl) ?_
 intro args r hg
 unfold clnG at hg
 split at hg
 ·rename_i n xs
  replace hg := aJ hg; obtain ⟨l, hl, hg⟩ := hg
  replace hg := aP hg; obtain ⟨⟨hn, hbig⟩, hg⟩ := hg
  obtain rfl := Option.some.inj hg
  have := gU hl; subst this
  refine ⟨Nat.le_of_ble_eq_true rfl, fun nx => ?_⟩
  have hsl : (sortL l).length = n := by rw [sortL_len]; exact hn
  have hcl : dL (sortL l) = eA l := rfl
  clear hl hg
  refine aA rfl ?_
  refine aC (Γ := aL) [0] (aD _ _) rfl rfl rfl (fun K hK => ?_)
  simp (disch := omega) only [Tryz.f78, go_sem, ↓reduceIte]
  refine hK _ ?_
  refine aB ?_
  refine aA rfl ?_
  refine aC (Γ := bC [(81, .pure false valG), (80, .fresh false srdG), (79, .heap (dP cmpG))]) [2] (aH ok84 (aH ok83 (aH ok82 aO))) rfl rfl rfl (fun K hK => ?_)
  simp (disch := omega) only [Tryz.f78, go_sem, Nat.reduceAdd, ↓reduceIte, hn, hsl, hcl]
  refine hK _ ?_
  refine aB ?_
  refine aS rfl ?_
  simp (disch := omega) only [fE, eO, bV, bK, bQ, Tryz.f78, go_sem, ↓reduceIte]
 ·cases hg
theorem ok77 : bX Tryz.prog GLh 78 (.fresh true clnG) := ⟨⟨_, Tryz.func78, rfl, rfl⟩, cln_ok⟩
theorem takeW_at {α : Type} (p : α → Bool) (d : α) : ∀ (l : List α) (k : Nat), k ≤ l.length → (∀ j, j < k → p (l.getD j d) = true) → (k = l.length ∨ p (l.getD k d) = false) → l.takeWhile p = l.take k ∧ l.dropWhile p = l.drop k
 | [], k, hk, _, _ => by simp
 | x :: l, 0, _, _, h => by
  rcases h with h | h
  ·simp at h
  ·simp only [List.getD_cons_zero] at h
   simp [h]
 | x :: l, k + 1, hk, ha, h => by
  have h0 := ha 0 (by omega)
  simp only [List.getD_cons_zero] at h0
  obtain ⟨h1, h2⟩ := takeW_at p d l k (by simpa using hk) (fun j hj => by have := ha (j + 1) (by omega); simpa using this) (by
   rcases h with h | h
   ·left; simpa using h
   ·right; simpa using h)
  simp [h0, h1, h2]
theorem insL_at (out : List T16) (x : T16) (k : Nat) (hk : k ≤ out.length) (ha : ∀ j, j < k → (out.getD j 0#16).toNat < x.toNat) (h : k = out.length ∨ ¬ (out.getD k 0#16).toNat < x.toNat) :
  insL out x = if k < out.length ∧ out.getD k 0#16 = x then out else out.take k ++ x :: out.drop k := by
 obtain ⟨h1, h2⟩ := takeW_at (fun y : T16 => decide (y.toNat < x.toNat)) 0#16 out k hk (fun j hj => decide_eq_true (ha j hj)) (h.imp id fun h => decide_eq_false h)
 unfold insL
 rw [h1, h2]
 by_cases hlt : k < out.length
 ·have e : (out.drop k).head? = some (out.getD k 0#16) := by rw [List.head?_drop, List.getD_eq_getElem?_getD, List.getElem?_eq_getElem hlt]; rfl
  rw [e]
  by_cases e2 : out.getD k 0#16 = x
  ·rw [if_pos (by rw [e2]), if_pos ⟨hlt, e2⟩, List.append_nil, List.take_append_drop]
  ·rw [if_neg (fun h => e2 (Option.some.inj h)), if_neg (fun h => e2 h.2)]; simp
 ·have e : out.drop k = [] := List.drop_eq_nil_of_le (by omega)
  rw [e, if_neg (by simp), if_neg (fun h => hlt h.1)]; simp
theorem insL_len (out : List T16) (x : T16) : (insL out x).length ≤ out.length + 1 := by
 unfold insL
 have := congrArg List.length (List.takeWhile_append_dropWhile (p := fun y : T16 => decide (y.toNat < x.toNat)) (l := out))
 simp only [List.length_append] at this ⊢
 split <;> simp <;> omega
theorem foldIns_len : ∀ (l : List T16) (out : List T16), (l.foldl insL out).length ≤ out.length + l.length
 | [], out => by simp
 | x :: l, out => by
  have h1 := foldIns_len l (insL out x)
  have h2 := insL_len out x
  simp only [List.foldl_cons, List.length_cons]; omega
def refT (l : List T16) (k : Nat) : List T16 := (l.take k).foldl insL []
theorem refT_succ (l : List T16) (k : Nat) (h : k < l.length) : refT l (k + 1) = insL (refT l k) (l.getD k 0#16) := by
 unfold refT
 rw [List.take_succ_eq_append_getElem h, List.foldl_append, List.getD_eq_getElem?_getD, List.getElem?_eq_getElem h]; rfl
theorem refT_len (l : List T16) (k : Nat) : (refT l k).length ≤ k := by
 have := foldIns_len (l.take k) []
 rw [List.length_take, List.length_nil] at this
 unfold refT; omega
theorem w16_lt (a b : T16) : a < b ↔ a.toNat < b.toNat := BitVec.lt_def
structure KAIC where
 k : Nat
 j : Nat
 id : Nat
 c : Nat
end Go.AX
