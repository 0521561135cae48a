/-
  Keys, part uK: a map's keys, collected, at numbers of 32 bits (the kit's own walk, for ranges over a function). Keys, part uL: contracts of a map's keys, sorted, at numbers of 32 bits.
-/
import Derived.RangeFuncBox
import Derived.RangeFuncLeaves
import Derived.RangeFuncStops
import Derived.Lib.SlKeysI
import Derived.Sort.MapsRangeIn
import Derived.Shelf.Abstract
import Derived.WalkKit
import Derived.OwnWalkIn
import Derived.TacticsInMore
import Derived.RegionIn
import Derived.LoopNIn
import Derived.LoopIn
import Derived.Maps.AppendAt
import Derived.Test.YtkpgebeipmedeaaDoorProg
import Derived.KernelRfl
import Derived.Test.YtkpgebeipmedeaaDoorUB
namespace Go.AX
open Go Go.Proofs Go.RowKit Go.Shelf Go.Maps Go.Sort

abbrev encU : Int → Value := Value.int .u32
theorem encU_inj {x y : Int} (h : encU x = encU y) : x = y := by simpa [encU] using h
theorem keyOf_u32 {P : Program} {k : TypeId} (hk : P.underlying k = some (.int .u32)) {key : Value} {kl : Lit} (h : keyOf P k key = some kl) : ∃ x : Int, key = encU x ∧ kl = .int .u32 x ∧ (Lit.int .u32 x).wf = true := by
  cases key <;> simp [keyOf, hk, mapKey] at h
  rename_i q a
  obtain ⟨⟨rfl, hw⟩, rfl⟩ := h
  exact ⟨a, rfl, rfl, hw⟩
theorem perm_keysU {H : Type} {es : List (Lit × DataW H)} (hp : es.Pairwise (fun p q => p.1 ≠ q.1)) (hk : ∀ p ∈ es, ∃ x, p.1 = .int .u32 x) {ss : List Int} (hnd : ss.Nodup) (hm : ∀ x, x ∈ ss ↔ has (.map es) (.int .u32 x) = true) :
    ss.Perm (intKeys (.map es)) := by
  refine (List.perm_ext_iff_of_nodup hnd ?_).2 fun x => ?_
  · show (es.map fun p => intOf p.1).Nodup
    refine List.pairwise_map.2 (hp.imp_of_mem fun {p q} hp' hq' hne e => hne ?_)
    obtain ⟨a, ha⟩ := hk p hp'
    obtain ⟨b, hb⟩ := hk q hq'
    rw [ha, hb] at e ⊢
    exact congrArg _ e
  · rw [hm x, has_eq, List.any_eq_true]
    show _ ↔ x ∈ es.map fun p => intOf p.1
    rw [List.mem_map]
    constructor
    · rintro ⟨p, hp', hs⟩
      obtain ⟨a, ha⟩ := hk p hp'
      rw [ha] at hs
      exact ⟨p, hp', by rw [ha]; simpa [Lit.sameKey, intOf] using hs⟩
    · rintro ⟨p, hp', rfl⟩
      obtain ⟨a, ha⟩ := hk p hp'
      exact ⟨p, hp', by rw [ha]; simp [Lit.sameKey, intOf]⟩
def CollU {H : Type} (D0 : DataW H) (left : Lit → Bool) (ss : List Int) : Prop := ss.Nodup ∧ ∀ x, x ∈ ss ↔ (has D0 (.int .u32 x) = true ∧ left (.int .u32 x) = false)
section
variable {H : Type} {D0 : DataW H} {left : Lit → Bool} {ss : List Int}
theorem CollU.start (D0 : DataW H) : CollU D0 (has D0) [] := ⟨List.nodup_nil, fun x => by cases has D0 (.int .u32 x) <;> simp⟩
theorem CollU.step (h : CollU D0 left ss) {x : Int} {y : DataW H} (hlk : left (.int .u32 x) = true) (hat : ∀ zd, D0.atKey (.int .u32 x) zd = y) : CollU D0 (fun z => left z && !z.sameKey (.int .u32 x)) (ss ++ [x]) := by
  have hhas : has D0 (.int .u32 x) = true := has_true_of_atKey hat
  have hnew : x ∉ ss := fun hx => by have := ((h.2 x).1 hx).2; rw [hlk] at this; cases this
  refine ⟨List.nodup_append.2 ⟨h.1, by simp, fun a ha b hb => by simp at hb; subst hb; exact fun e => hnew (e ▸ ha)⟩, fun y => ?_⟩
  by_cases hy : y = x
  · subst hy; simp [hhas, Lit.sameKey]
  · simp [h.2 y, hy, Lit.sameKey]
variable {P : Program} {k : TypeId} {R : Value → Option (DataW H × List MemPlace)} {w : World} {b n : Nat}
theorem CollU.perm (h : CollU D0 left ss) (hown : w.ownsMap P k R b n D0) (K : Keyed P k) (hk : P.underlying k = some (.int .u32)) (hl : ∀ kl, left kl = false) : ss.Perm (intKeys D0) := by
  obtain ⟨es, hD, hpw, _⟩ := hown.entries K
  obtain ⟨es', hD', hko⟩ := hown.keysOf
  obtain rfl : es = es' := by rw [hD] at hD'; simpa using hD'
  subst hD
  exact perm_keysU hpw (fun p hp => by obtain ⟨v, hv⟩ := hko p hp; obtain ⟨x, _, hx, _⟩ := keyOf_u32 hk hv; exact ⟨x, hx⟩) h.1 (fun x => by rw [h.2 x, hl]; simp)
end

attribute [local go_sem] Oper.semAt_some
set_option maxRecDepth 100000 in
set_option maxHeartbeats 2000000 in
/-- A map's keys come, each once; or a round says that it is enough. -/
theorem keysU_in {H : Type} (F : Fence) (n : Nat) (h10 : F.fn 56) (hro : F.round = none) (hn : 1 ≤ n) (l Bm ob b nn : Nat) (D0 : DataW H) {R : Value → Option (DataW H × List MemPlace)} (J Jx : List Int → World → Prop)
    (hY : ∀ pre x W, J pre W → pre.length < Maps.size D0 → YieldAt F (n - 1) Tryd.prog l #[encU x] W fun e W' =>
      (e = .returned (.bool true) ∧ J (pre ++ [x]) W' ∧ KeepsWalks W W') ∨ (e = .returned (.bool false) ∧ Jx (pre ++ [x]) W'))
    (W : World) (hJ : AbidesFrom W.heap.size J) (hm : W.cell? ⟨Bm, ob, none⟩ = some (.map (some b))) (hown : W.ownsMap Tryd.prog 29 R b nn D0) (h0 : J [] W) :
    CallsIn F n Tryd.prog 56 #[.func (.yield l) #[] #[], .pointer (some ⟨Bm, ob, none⟩)] W fun e W' => (∃ v, e = .returned v) ∧
      ((∃ ss : List Int, ss.Perm (intKeys D0) ∧ J ss W') ∨ (∃ pre : List Int, True ∧ Jx pre W')) := by
  refine callsIn_of_wp Tryd.func56 rfl h10 ?_ hro
  simp only [Tryd.ntmps56, List.size_toArray, List.length_cons, List.length_nil, Nat.reduceAdd, Nat.reduceSub, Array.replicate_succ, Array.replicate_zero, List.push_toArray, List.append_toArray, List.nil_append, List.cons_append]
  gi_wp2_with (first
    | (gi_at_range; refine wpListIn_range_own _ rfl _ 73 rfl 29 49 (int_keyed Tryd.underlying29) Tryd.underlying73 _ b nn _ rfl hown ?_; intro w0 hrg0 hg0 hs0)
    | gi_in)
  go_frame
  gi_loopw [3] (fun _ wr => ∃ (left : Lit → Bool) (cnt : Nat) (ss : List Int), wr.ranges Tryd.prog 29 R b W.heap.size nn D0 left cnt ∧ ss.length + cnt ≤ Maps.size D0 ∧ CollU D0 left ss ∧ J ss wr)
    (fun _ wr => wr.rangeLeft b W.heap.size)
  case atStart =>
    exact ⟨_, _, [], hrg0, by simp, CollU.start D0, hJ [] W w0 none h0 hg0 (fun r e => by cases e)⟩
  case round =>
    obtain ⟨left, cnt, ss, hrg, hcs, hC, hJs⟩ := hrel
    gi_wp2_with (first
      | (gi_at_next; refine wpListIn_next_ranges _ rfl _ rfl 29 (int_keyed Tryd.underlying29) R encU id (fun key kl hk => by obtain ⟨x, hx, _⟩ := keyOf_u32 Tryd.underlying29 hk; exact ⟨x, hx⟩) (fun v _ _ => ⟨v, rfl⟩) b W.heap.size nn _ _ _ rfl hrg ?_ ?_)
      | gi_in)
    · intro hc0 hl0
      gi_wp2
      go_end0
      exact ⟨⟨_, rfl⟩, .inl ⟨ss, hC.perm hown (int_keyed Tryd.underlying29) Tryd.underlying29 hl0, hJs⟩⟩
    · intro x c kl yd yp w2 cnt2 hkey hlk hv hat hrg2 hlt hg2 hs2 hen
      obtain ⟨x', ex, rfl, _⟩ := keyOf_u32 Tryd.underlying29 hkey
      obtain rfl : x = x' := encU_inj ex
      have hJ2 : J ss w2 := hJ ss wr w2 (some W.heap.size) hJs hg2 (fun r e => by cases e; exact ⟨Nat.le_refl _, hrg.iter_walk⟩)
      obtain ⟨fn, tmps, assign, body, hy, hR⟩ := hY ss x w2 hJ2 (by omega)
      clear hs2
      gi_wp2
      refine hR.mono ?_
      have hC2 := hC.step hlk hat
      rintro e W3 (⟨rfl, hJ3, hk3⟩ | ⟨rfl, hJx3⟩)
      · gi_wp2
        have hrg3 := hrg2.of_walks hk3
        go_roundw
        case rel => exact ⟨_, cnt2, ss ++ [x], hrg3, by simp; omega, hC2, hJ3⟩
        case measure => rw [hrg3.left_eq, hrg.left_eq]; exact hlt
      · gi_wp2
        refine bodyPost_ret (results_none rfl _ _ _) rfl ?_
        exact ⟨⟨_, rfl⟩, .inr ⟨ss ++ [x], trivial, hJx3⟩⟩
theorem keysU_stops {H : Type} (F : Fence) (n : Nat) (h10 : F.fn 56) (hro : F.round = none) (hn : 1 ≤ n) (Bm ob b nn : Nat) (D0 : DataW H) {R : Value → Option (DataW H × List MemPlace)} (w : World) (hBm : Bm < w.heap.size)
    (hm : w.cell? ⟨Bm, ob, none⟩ = some (.map (some b))) (hown : w.ownsMap Tryd.prog 29 R b nn D0) :
    SeqStopsK F n Tryd.prog 56 #[.pointer (some ⟨Bm, ob, none⟩)] (fun x : Int => #[encU x]) KeepsWalks (fun ss => ss.Perm (intKeys D0)) (fun _ => True) (Maps.size D0) w := fun l J Jx W hW hJ _ hY h0 => by
  have hown' : W.ownsMap Tryd.prog 29 R b nn D0 := by
    have hbl := hown.lt
    obtain ⟨es, clock, hb, Ft, hs, hD⟩ := hown
    exact ⟨es, clock, (hW.block b hbl).trans hb, Ft, hs, hD⟩
  exact keysU_in F n h10 hro hn l Bm ob b nn D0 J Jx hY W hJ ((hW.cell (p := ⟨Bm, ob, none⟩) hBm).trans hm) hown' h0

theorem infoU : (Tryd.prog.info? 29).map (fun i => (i.zero, i.size, i.bytes)) = some (some (.int .u32 0), 1, 4) := by kernel_rfl
theorem row_not_walk {W : World} {base : Nat} {e : TypeId} {size : Nat} {v : Value} {k : Nat} {xs : List Value} (h : W.ownsRow base e size v k xs) : ∀ (j : Nat) (o : Obj), v.ownBlock = some j → W.heap[j]? = some o → o.isWalk = false := by
  intro j o hj ho
  rcases h.2 with ⟨rfl, _⟩ | ⟨g, cap, cur, rfl, _, hgb, _⟩
  · simp [Value.ownBlock] at hj
  · have : g = j := by simpa [Value.ownBlock] using hj
    subst this; rw [hgb] at ho; cases ho; rfl
set_option maxRecDepth 100000 in
set_option maxHeartbeats 2000000 in
theorem appU_in {H : Type} (F : Fence) (n : Nat) (h3 : F.fn 68) (h5 : F.fn 56) (hro : F.round = none) (hn : 3 ≤ n) (Bm ob b nn : Nat) (D0 : DataW H) (R : Value → Option (DataW H × List MemPlace)) (hlen : Maps.size D0 ≤ 1000000) (w : World) (hBm : Bm < w.heap.size)
    (hm : w.cell? ⟨Bm, ob, none⟩ = some (.map (some b))) (hown : w.ownsMap Tryd.prog 29 R b nn D0) :
    CallsIn F n Tryd.prog 68 #[.slice none 0 0, .func (.func 56) #[] #[.pointer (some ⟨Bm, ob, none⟩)]] w fun e W' => ∃ (v : Value) (ss : List Int), e = .returned v ∧ ss.Perm (intKeys D0) ∧ W'.ownsRow w.heap.size 29 1 v ss.length (ss.map encU) ∧ (v = .slice none 0 0 ↔ ss = []) ∧ Below w.heap.size w W' := by
  have h1 : 1 ≤ n := by omega
  obtain ⟨i0, hi, hz0, hz1, hz2⟩ := info_parts infoU
  refine callsIn_of_wp_marks Tryd.func68 rfl h3 ?_ hro
  simp only [Tryd.ntmps68, List.size_toArray, List.length_cons, List.length_nil, Nat.reduceAdd, Nat.reduceSub, Array.replicate_succ, Array.replicate_zero, List.push_toArray, List.append_toArray, List.nil_append, List.cons_append]
  gi_wp2
  have bO := Boxed.new w 89 (.slice none 0 0)
  have hB0 : Below w.heap.size w (w.alloc (.cells #[.slice none 0 0] 89)) := (Below.refl _ w).alloc (Nat.le_refl _) _
  have hown0 : (w.alloc (.cells #[.slice none 0 0] 89)).ownsMap Tryd.prog 29 R b nn D0 := by
    have hbl := hown.lt
    obtain ⟨es, clock, hb, Ft, hs, hD⟩ := hown
    exact ⟨es, clock, (hB0.block b hbl).trans hb, Ft, hs, hD⟩
  refine wpIn_rangeFunc_ownG hro h1 (gf := 56) (lb := #[.pointer (some ⟨Bm, ob, none⟩)]) rfl h5 (enters_of Tryd.func56 (by kernel_rfl) rfl)
    (keysU_stops F (n - 1) h5 hro (by omega) Bm ob b nn D0 _ (by simp; omega) ((hB0.cell (p := ⟨Bm, ob, none⟩) hBm).trans hm) hown0) walksK_t walksK_b (Below.refl _ _) (fun _ => rfl)
    (fun pre W => (∃ v, Boxed W w.heap.size 89 v ∧ W.ownsRow w.heap.size 29 1 v pre.length (pre.map encU) ∧ (v = .slice none 0 0 ↔ pre = [])) ∧ Below w.heap.size w W)
    (fun _ _ _ => False)
    (OwnFrom.and (Own.from (holdsRow_own w.heap.size w.heap.size 89 29 1 (fun pre => pre.length) (fun pre => pre.map encU) (fun pre v => v = .slice none 0 0 ↔ pre = [])) _) (ownFrom_below (Nat.le_refl _) (by simp)))
    (fun _ _ _ _ _ hs _ _ => hs)
    ⟨⟨_, bO, World.ownsRow_nil _ _ _ _, by simp⟩, hB0⟩
    (fun x => { tmps := #[.slice none 0 0, .func (.func 56) #[] #[.pointer (some ⟨Bm, ob, none⟩)], .pointer (some ⟨w.heap.size, 0, none⟩), undef, .slice none 0 0, .int .u32 x, .func (.func 56) #[] #[.pointer (some ⟨Bm, ob, none⟩)], .int .u32 x, undef, undef, undef, undef, undef], defers := [] }) ?assign ?body ?done ?stop
  case assign =>
    intro l x W K hK
    gi_wp2
    exact hK
  case body =>
    rintro l pre x W ⟨⟨v, hv, hrow, hnil⟩, hB⟩ hlt
    have hc := hv.cell
    gi_wp2_with (gi_at_builtin; refine wpListIn_append_own _ rfl _ _ 89 rfl w.heap.size 29 i0 (.int .u32 0) 1 4 Tryd.underlying89 hi hz0 hz1 hz2 rfl (by decide) _ _ _ rfl (hrow.alloc _) ⟨W.heap.size, 0, none⟩ 1 1 [.int .u32 x] rfl rfl (cell_one_new _ _ _) (by simp [Value.oneCell']) (by simp [maxLen]; omega) (by omega) (by have := hB.size; simp; omega) ?_; intro v' w1 hown' hgrow _; obtain ⟨g', cap', rfl⟩ := ownsRow_succ hown'; obtain ⟨hv1, hv2, hr2, hk2, hb2⟩ := hv.appended (by decide) hrow hB.size (Nat.le_refl _) hown' hgrow; have hc1 := hv1.cell; have hf1 := hv1.frozen)
    exact ⟨hk2.from _, ((KeepsWalks.alloc _ _).trans (KeepsWalks.of_grownBy hgrow (row_not_walk (hrow.alloc _)))).trans (KeepsWalks.setCell _ _ _), ⟨_, hv2, by simpa using hr2, by simp⟩, hB.trans hb2⟩
  case done =>
    rintro D ys W hD hp ⟨⟨v, hv, hrow, hnil⟩, hB⟩ hK
    have hc := hv.cell
    gi_wp2
    refine ⟨by simp, .inl ⟨_, _, rfl, run_takeDeferred hK, ?_⟩⟩
    exact ⟨_, results_tmp rfl _ _ _, v, ys, rfl, hp, ownsRow_putObj hrow _ hK rfl, hnil, hB.trans (belowK_b (w := w) (Nat.le_refl _) W D _ _ (by simp at hD; omega) hK rfl rfl)⟩
  case stop =>
    rintro D c pre W _ _ h _
    exact h.elim
set_option maxHeartbeats 1000000 in
theorem collU_in {H : Type} (F : Fence) (n : Nat) (h8 : F.fn 54) (h3 : F.fn 68) (h5 : F.fn 56) (hro : F.round = none) (hn : 4 ≤ n) (Bm ob b nn : Nat) (D0 : DataW H) (R : Value → Option (DataW H × List MemPlace)) (hlen : Maps.size D0 ≤ 1000000) (w : World) (hBm : Bm < w.heap.size)
    (hm : w.cell? ⟨Bm, ob, none⟩ = some (.map (some b))) (hown : w.ownsMap Tryd.prog 29 R b nn D0) :
    CallsIn F n Tryd.prog 54 #[.func (.func 56) #[] #[.pointer (some ⟨Bm, ob, none⟩)]] w fun e W' => ∃ (v : Value) (ss : List Int), e = .returned v ∧ ss.Perm (intKeys D0) ∧ W'.ownsRow w.heap.size 29 1 v ss.length (ss.map encU) ∧ (v = .slice none 0 0 ↔ ss = []) ∧ Below w.heap.size w W' := by
  have h1 : 1 ≤ n := by omega
  refine callsIn_of_wp Tryd.func54 rfl h8 ?_ hro
  simp only [Tryd.ntmps54, List.size_toArray, List.length_cons, List.length_nil, Nat.reduceAdd, Nat.reduceSub, Array.replicate_succ, Array.replicate_zero, List.push_toArray, List.append_toArray, List.nil_append, List.cons_append]
  gi_wp2_with (gi_at_call 68; refine (appU_in F (n - 1) h3 h5 hro (by omega) Bm ob b nn D0 R hlen _ hBm hm hown).mono ?_; rintro e w' ⟨v, ss, rfl, hp, hrow, hnil, hb⟩)
  go_ret
  exact ⟨v, ss, rfl, hp, hrow, hnil, hb⟩
end Go.AX

namespace Go.AX
open Go Go.Proofs
open Go.WideElems (Fit rd rg)

theorem sortL_of_perm {l l' : List T32} (h : l.Perm l') : sortL l = sortL l' := by
  refine List.Perm.eq_of_pairwise (le := fun a b => a.toNat ≤ b.toNat) (fun a b _ _ h1 h2 => BitVec.eq_of_toNat_eq (Nat.le_antisymm h1 h2)) (sortL_sorted l) (sortL_sorted l') (((sortL_perm l).trans h).trans (sortL_perm l').symm)
def keysG : List AV → H → Nat → Option (AV × H × Nat)
  | [.mp m], hp, nx => some (.fn 56 [.op nx 0], upd hp nx (.cells [.mp m] true), nx + 10)
  | _, _, _ => none
theorem keysG_eq (m : Nat) (hp : H) (nx : Nat) : keysG [.mp m] hp nx = some (.fn 56 [.op nx 0], upd hp nx (.cells [.mp m] true), nx + 10) := (rfl)
attribute [go_sem] keysG_eq
theorem keys_ok : HeapOK Tryd.prog GLh 36 keysG := by
  refine heap_of_awp Tryd.func36 (bodyOf_some rfl) ?_
  intro args hp nx r hp' nx' hg
  unfold keysG at hg
  split at hg
  · rename_i m
    simp only [Option.some.injEq, Prod.mk.injEq] at hg; obtain ⟨rfl, rfl, rfl⟩ := hg
    refine ⟨Nat.le_of_ble_eq_true rfl, by omega, fun hnone => ?_⟩
    refine awp_seqP rfl ?_
    refine awp_regP (Γ := noEnv) [1] (noEnv_ok _ _) rfl rfl rfl (fun K hK => ?_)
    simp (disch := omega) only [Tryd.f36, go_sem, Nat.reduceAdd, ↓reduceIte]
    refine hK _ ?_
    clear hK K
    refine nx_then ?_
    refine awp_seqP rfl ?_
    refine awp_regP (Γ := noEnv) [2] (noEnv_ok _ _) rfl rfl rfl (fun K hK => ?_)
    simp (disch := omega) only [Tryd.f36, go_sem, Nat.reduceAdd, ↓reduceIte]
    refine hK _ ?_
    clear hK K
    refine nx_then ?_
    refine awp_retP rfl ?_
    exact ⟨rfl, fun j o h => h, by simp only; omega⟩
  · cases hg
theorem okd36 : EntOK Tryd.prog GLh 36 (.heap keysG) := ⟨⟨_, Tryd.func36, rfl, rfl⟩, keys_ok⟩

def keysU : List (AV × AV) → Option (List T32)
  | [] => some []
  | p :: r => match p.1 with
    | .w32 k => obind (keysU r) fun l => some (k :: l)
    | _ => none
theorem keysU_B (l : List (W32 × KY)) : keysU (encB l) = some (l.map (·.1)) := by
  induction l with
  | nil => rfl
  | cons p r ih => simp only [encB, List.map_cons, keysU] at ih ⊢; rw [ih]; rfl
theorem keysU_inv : ∀ {es : List (AV × AV)} {ks : List T32}, keysU es = some ks → ks.length = es.length ∧ ∀ i (h : i < es.length), es[i].1 = .w32 (ks.getD i 0#32)
  | [], ks, h => by obtain rfl := Option.some.inj h; exact ⟨rfl, fun i h => by simp at h⟩
  | p :: r, ks, h => by
    simp only [keysU] at h
    split at h
    · rename_i k e
      replace h := obind_inv h; obtain ⟨l, hl, h⟩ := h
      obtain rfl := Option.some.inj h
      obtain ⟨i1, i2⟩ := keysU_inv hl
      refine ⟨by simp [i1], fun i hi => ?_⟩
      cases i with
      | zero => exact e
      | succ i => simpa using i2 i (by simpa using hi)
    · cases h
def sdO (nx : Nat) (hp : H) : AO → Option (AV × H × Nat)
  | .mapo es _ => obind (keysU es) fun ks => guardO (ks.length ≤ 1000000) (some (.os nx 0 ks.length 1 true, upd hp nx (.cells (c32 (sortL ks)) true), nx + 1))
  | _ => none
def sdP (nx : Nat) (hp : H) : AO → Option (AV × H × Nat)
  | .cells [.mp m] _ => obind (hp m) (sdO nx hp)
  | _ => none
def sdG : List AV → H → Nat → Option (AV × H × Nat)
  | [.fn 56 [.op b 0]], hp, nx => obind (hp b) (sdP nx hp)
  | _, _, _ => none
theorem sdG_eq (b : Nat) (hp : H) (nx : Nat) : sdG [.fn 56 [.op b 0]] hp nx = obind (hp b) (sdP nx hp) := (rfl)
theorem sdP_eq (m nx : Nat) (hp : H) (mt : Bool) : sdP nx hp (.cells [.mp m] mt) = obind (hp m) (sdO nx hp) := (rfl)
theorem sdO_eq (nx : Nat) (hp : H) (es : List (AV × AV)) (mt : Bool) : sdO nx hp (.mapo es mt) = obind (keysU es) fun ks => guardO (ks.length ≤ 1000000) (some (.os nx 0 ks.length 1 true, upd hp nx (.cells (c32 (sortL ks)) true), nx + 1)) := (rfl)
attribute [go_sem] sdG_eq sdP_eq sdO_eq keysU_B
def oneRU : Value → Option (DataW Unit × List MemPlace) := fun _ => some (.lit (.bool true), [])
theorem ins_permU (x : Lit × DataW Unit) : ∀ l, (DataW.insert x l).Perm (x :: l)
  | [] => List.Perm.refl _
  | y :: r => by
    simp only [DataW.insert]
    split
    · exact List.Perm.refl _
    · exact ((ins_permU x r).cons y).trans (List.Perm.swap x y r)
theorem foldr_permU : ∀ l : List (Lit × DataW Unit), (l.foldr DataW.insert []).Perm l
  | [] => List.Perm.refl _
  | x :: r => (ins_permU x _).trans ((foldr_permU r).cons x)
theorem rw32_inv {σ : Nat → Loc} {I : Nat → Prop} {w : World} {n : W32} {v : Value} (h : Rel σ I w (.w32 n) v) : v = .int .u32 (n.toNat : Int) := by cases h; rfl
theorem wf_u32 (k : W32) : (Lit.int .u32 (k.toNat : Int)).wf = true := by
  have := k.isLt
  simp [Lit.wf, IntKind.min, IntKind.max, IntKind.signed, IntKind.bits]
  omega
/-- An own map, as the kit's contracts ask for it. -/
theorem owns_of_rowU {σ : Nat → Loc} {I : Nat → Prop} {w : World} {es : List (AV × AV)} {blk : Nat} {ks : List T32} (h : MapRow σ I w es blk) (hk : keysU es = some ks) (hlen : ks.length ≤ 1000000) :
    ∃ D : DataW Unit, w.ownsMap Tryd.prog 29 oneRU blk ks.length D ∧ (intKeys D).Perm (ks.map fun k => (k.toNat : Int)) ∧ Maps.size D = ks.length := by
  obtain ⟨⟨ents, cl, h1, h2, h3, h4⟩⟩ := h
  obtain ⟨k1, k2⟩ := keysU_inv hk
  have hkey : ∀ i (hi : i < ents.size), ents[i].key = .int .u32 ((ks.getD i 0#32).toNat : Int) := by
    intro i hi
    have := (h4 i (by omega)).2.1
    rw [k2 i (by omega)] at this
    have e : ents.getD i default = ents[i] := by rw [Array.getD_eq_getD_getElem?, Array.getElem?_eq_getElem hi]; rfl
    rw [e] at this
    exact rw32_inv this
  have hrd : ∀ i (hi : i < ents.size), rd Tryd.prog 29 oneRU ents[i] = some (.int .u32 ((ks.getD i 0#32).toNat : Int), .lit (.bool true)) := by
    intro i hi
    have hw := wf_u32 (ks.getD i 0#32)
    have hk := hkey i hi
    generalize ks.getD i 0#32 = k at hw hk ⊢
    simp [rd, hk, keyOf, mapKey, Tryd.underlying29, hw, oneRU]
  have hmap : ents.toList.map (rg Tryd.prog 29 oneRU) = ks.map fun k => (.int .u32 (k.toNat : Int), .lit (.bool true)) := by
    apply List.ext_getElem
    · simp [h2, k1]
    · intro i hi1 hi2
      simp at hi1 hi2
      simp only [List.getElem_map, Array.getElem_toList, rg, hrd i hi1, Option.getD_some]
      rw [List.getD_eq_getElem?_getD, List.getElem?_eq_getElem hi2]; rfl
  refine ⟨.map ((ents.toList.map (rg Tryd.prog 29 oneRU)).foldr DataW.insert []), ⟨ents, cl, h1, ⟨by simp only [maxLen]; omega, h3, fun x hx => ?_⟩, by omega, rfl⟩, ?_, ?_⟩
  · obtain ⟨i, hi, rfl⟩ := List.getElem_of_mem hx
    exact ⟨_, hrd i (by simpa using hi)⟩
  · rw [hmap]
    simp only [intKeys]
    refine ((foldr_permU _).map _).trans (List.Perm.of_eq ?_)
    rw [List.map_map]
    rfl
  · rw [hmap, Maps.size_eq, (foldr_permU _).length_eq, List.length_map]
attribute [local go_sem] Oper.semAt_some
set_option maxRecDepth 100000 in
set_option maxHeartbeats 2000000 in
theorem sortedU_in {H : Type} (F : Fence) (n : Nat) (h6 : F.fn 35) (h8 : F.fn 54) (h9 : F.fn 55) (h3 : F.fn 68) (h5 : F.fn 56) (hro : F.round = none) (hn : 5 ≤ n) (Bm ob b nn : Nat) (D0 : DataW H) (R : Value → Option (DataW H × List MemPlace)) (hlen : Maps.size D0 ≤ 1000000) (w : World) (hBm : Bm < w.heap.size)
    (hm : w.cell? ⟨Bm, ob, none⟩ = some (.map (some b))) (hown : w.ownsMap Tryd.prog 29 R b nn D0) (Post : Value → World → Prop)
    (hsort : ∀ (v : Value) (ss : List Int) (w1 : World), ss.Perm (intKeys D0) → w1.ownsRow w.heap.size 29 1 v ss.length (ss.map encU) → (v = .slice none 0 0 ↔ ss = []) → RowKit.Below w.heap.size w w1 → CallsIn F (n - 1) Tryd.prog 55 #[v] w1 fun e w2 => e = .returned (.tuple #[]) ∧ Post v w2) :
    CallsIn F n Tryd.prog 35 #[.func (.func 56) #[] #[.pointer (some ⟨Bm, ob, none⟩)]] w fun e w' => ∃ v, e = .returned v ∧ Post v w' := by
  have h1 : 1 ≤ n := by omega
  refine callsIn_of_wp Tryd.func35 rfl h6 ?_ hro
  simp only [Tryd.ntmps35, List.size_toArray, List.length_cons, List.length_nil, Nat.reduceAdd, Nat.reduceSub, Array.replicate_succ, Array.replicate_zero, List.push_toArray, List.append_toArray, List.nil_append, List.cons_append]
  gi_wp2_with (gi_at_call 54; refine (collU_in F (n - 1) h8 h3 h5 hro (by omega) Bm ob b nn D0 R hlen _ hBm hm hown).mono ?_; rintro e w1 ⟨v, ss, rfl, hp, hrow, hnil, hb⟩)
  gi_wp2_with (gi_at_call 55; refine (hsort v ss w1 hp hrow hnil hb).mono ?_; rintro e w2 ⟨rfl, hpost⟩)
  go_ret
  exact ⟨v, rfl, hpost⟩
theorem sortedU_calls {H : Type} (Bm ob b nn : Nat) (D0 : DataW H) (R : Value → Option (DataW H × List MemPlace)) (hlen : Maps.size D0 ≤ 1000000) (w : World) (hBm : Bm < w.heap.size)
    (hm : w.cell? ⟨Bm, ob, none⟩ = some (.map (some b))) (hown : w.ownsMap Tryd.prog 29 R b nn D0) (Post : Value → World → Prop)
    (hsort : ∀ (v : Value) (ss : List Int) (w1 : World), ss.Perm (intKeys D0) → w1.ownsRow w.heap.size 29 1 v ss.length (ss.map encU) → (v = .slice none 0 0 ↔ ss = []) → RowKit.Below w.heap.size w w1 → Calls Tryd.prog 55 #[v] w1 fun e w2 => e = .returned (.tuple #[]) ∧ Post v w2) :
    Calls Tryd.prog 35 #[.func (.func 56) #[] #[.pointer (some ⟨Bm, ob, none⟩)]] w fun e w' => ∃ v, e = .returned v ∧ Post v w' :=
  callsIn_wide.1 (sortedU_in Fence.wide 6 trivial trivial trivial trivial trivial rfl (by omega) Bm ob b nn D0 R hlen w hBm hm hown Post (fun v ss w1 a b c d => callsIn_wide.2 (hsort v ss w1 a b c d)))

set_option maxHeartbeats 1000000 in
theorem sd_ok : HeapOK Tryd.prog GLh 35 sdG := by
  intro c σ I w hp nx args vals r hp' nx' hGL hi hs hr hg
  unfold sdG at hg
  split at hg
  · rename_i b
    replace hg := obind_inv hg; obtain ⟨o, ho, hg⟩ := hg
    unfold sdP at hg
    split at hg
    · rename_i m mt
      replace hg := obind_inv hg; obtain ⟨o2, ho2, hg⟩ := hg
      cases o2 with
      | cells xs mt2 => cases hg
      | mapo es mt2 =>
      rw [sdO_eq] at hg
      replace hg := obind_inv hg; obtain ⟨ks, hks, hg⟩ := hg
      replace hg := guardO_inv hg; obtain ⟨hlen, hg⟩ := hg
      simp only [Option.some.injEq, Prod.mk.injEq] at hg; obtain ⟨rfl, rfl, rfl⟩ := hg
      refine ⟨by omega, ?_⟩
      have hr0 := hr 0 (by simp)
      simp only [List.getElem_cons_zero] at hr0
      generalize hv0 : vals.getD 0 undef = v0 at hr0
      cases hr0 with
      | fn f xs vs hvs hrel =>
      have hrp := hrel 0 (by simp)
      simp only [List.getElem_cons_zero] at hrp
      obtain ⟨blk, base, sz, hl, hp0⟩ := op_inv hrp
      have hvs1 : vs = #[.pointer (some ⟨blk, base + 0, none⟩)] := by
        apply Array.ext
        · rw [hvs]; rfl
        · intro i h1 h2
          obtain rfl : i = 0 := by simp at h2; omega
          have : vs.getD 0 undef = vs[0] := by simp [Array.getD, h1]
          rw [← this]; simpa using hp0
      have hvals : vals = #[.func (.func 56) #[] #[.pointer (some ⟨blk, base + 0, none⟩)]] := by
        apply Array.ext
        · rw [hs]; rfl
        · intro i h1 h2
          obtain rfl : i = 0 := by simp at h2; omega
          have : vals.getD 0 undef = vals[0] := by simp [Array.getD, h1]
          rw [← this, hv0, hvs1]; rfl
      have hob := hi.own b _ ho
      have hrow := own_row hob hl
      obtain ⟨v1, hc1, _, hr1⟩ := hrow.get 0 (by simp)
      simp only [List.getElem_cons_zero] at hr1
      obtain ⟨mb, e1, hmr, _⟩ := hi.own m _ ho2
      obtain rfl := mp_at hr1 e1
      have hlt : blk < w.heap.size := hob.lt hl
      obtain ⟨D, d1, d2, d3⟩ := owns_of_rowU hmr hks hlen
      rw [hvals]
      refine (sortedU_calls blk (base + 0) mb ks.length D oneRU (by omega) w hlt hc1 d1 (fun v w2 => ∃ σ' I', Inv c σ' I' w2 (upd hp nx (.cells (c32 (sortL ks)) true)) (fun id => nx + 1 ≤ id) ∧ Rel σ' I' w2 (.os nx 0 ks.length 1 true) v ∧ Grow σ I w σ' I' w2 ∧ (∀ id, id < nx → σ id = .unset → σ' id = .unset)) ?_).mono ?_
      · intro v ss w' hperm hrow2 hnil hb
        have hp2 := hperm.trans d2
        have hsl : ss.length = ks.length := by rw [hp2.length_eq, List.length_map]
        have hinr : ∀ x ∈ ss, (((BitVec.ofInt 32 x).toNat : Nat) : Int) = x := by
          intro x hx
          obtain ⟨k, _, rfl⟩ := List.mem_map.1 (hp2.mem_iff.1 hx)
          have := k.isLt
          rw [BitVec.toNat_ofInt]
          omega
        obtain ⟨l, hl2⟩ : ∃ l, l = ss.map (BitVec.ofInt 32) := ⟨_, rfl⟩
        have hss : ss = l.map fun k => (k.toNat : Int) := by
          rw [hl2, List.map_map]
          exact (List.map_id' ss).symm.trans (List.map_congr_left fun x hx => (hinr x hx).symm)
        have hlp : l.Perm ks := by
          rw [hl2]
          refine (hp2.map _).trans (List.Perm.of_eq ?_)
          rw [List.map_map]
          refine (List.map_congr_left fun k _ => ?_).trans (List.map_id' ks)
          apply BitVec.eq_of_toNat_eq
          have := k.isLt
          simp only [Function.comp, BitVec.toNat_ofInt]
          omega
        have hll : l.length = ks.length := hlp.length_eq
        rw [hss, List.length_map, List.map_map, hll] at hrow2
        have hext := hi.extend hb.os hb.tape hb.output hb.size (fun k hk => hb.block k hk) I (fun _ h => h) (fun k hk => .inl hk)
        have hun : ∀ id, (nx + 1 ≤ id ∨ (id = nx ∨ (id < nx ∧ σ id = .unset))) → σ id = .unset := by
          intro id h
          rcases h with h | h | h
          · exact hi.un id (by omega)
          · exact hi.un id (by omega)
          · exact h.2
        have hext2 : Inv c σ I w' hp (fun k => nx + 1 ≤ k ∨ (k = nx ∨ (k < nx ∧ σ k = .unset))) := { hext with un := hun }
        obtain ⟨v2, σ2, I2, a1, a2, a3, a4⟩ := freshFin (I := I) (Iw := I) (w := w) (cx := nx + 1) (un := fun k => k = nx ∨ (k < nx ∧ σ k = .unset)) (id := nx) (nn := ks.length) (ee := 1) (xs := c32 l) (v := v) (I1 := I) hext2 (.inl rfl) hi.size (fun k hk => hi.ilt k hk)
          (fun k o blk base sz h1 h2 => (hi.own k o h1).lt h2) ⟨fun _ _ => rfl, fun _ h => h, fun k hk => hb.block k (hi.ilt k hk)⟩ (by
            rcases hrow2.2 with ⟨rfl, h0⟩ | ⟨g, cap, cur, rfl, hbg, hgb, hcap, hmax, hsz, htake⟩
            · left
              refine ⟨.inl rfl, h0, ?_⟩
              rw [h0] at hll
              rw [List.eq_nil_of_length_eq_zero hll]; rfl
            · right
              refine ⟨g, 0, cap, cap, rfl, hcap, by omega, hbg, fun hI5 => absurd (hi.ilt g hI5) (by omega), ⟨cur, 29, 0, 0, hgb, by omega, by rw [c32_len]; omega, ⟨Nat.le_refl _, fun _ _ => by omega⟩, fun i hi5 => ?_⟩, fun i hi5 => ?_⟩
              · have hil : i < l.length := by rw [c32_len] at hi5; exact hi5
                have e5 : (c32 l)[i]'hi5 = .w32 l[i] := by simp [c32]
                rw [e5]
                have h6 : (cur.toList.take (ks.length * 1))[i]? = some (.int .u32 (l[i].toNat : Int)) := by rw [htake]; simp [hil]
                rw [List.getElem?_take_of_lt (by omega)] at h6
                have e6 : cur.getD (0 + i) undef = .int .u32 (l[i].toNat : Int) := by
                  rw [Nat.zero_add, Array.getD_eq_getD_getElem?, ← Array.getElem?_toList, h6]; rfl
                rw [e6]; exact .w32 _
              · have hil : i < l.length := by rw [c32_len] at hi5; exact hi5
                have e5 : (c32 l)[i]'hi5 = .w32 l[i] := by simp [c32]
                rw [e5]; rfl) (fun k h => by omega)
        cases a1
        have hca : c32 l = cA l.toArray := by simp [cA, c32]
        have hmut : mutH srtG [.os nx 0 ks.length 1 true] (upd hp nx (.cells (c32 l) true)) (nx + 1) = some (.tup [], upd hp nx (.cells (c32 (sortL ks)) true), nx + 1) := by
          rw [mutH_os, upd_apply, if_pos rfl, obind_some, mutO_c, guardO_true _ rfl, srtG_eq, hca, unA_cA, obind_some, guardO_true _ ⟨by simpa using hll, hlen⟩, obind_some]
          have e7 : sortL l = sortL ks := sortL_of_perm hlp
          have e8 : cA (sortL ks).toArray = c32 (sortL ks) := by simp [cA, c32]
          simp only [Option.some.injEq, Prod.mk.injEq, true_and, and_true]
          rw [e7, e8]
          funext k
          simp only [upd_apply]
          split <;> rfl
        obtain ⟨_, hcall⟩ := srt_ok c σ2 I2 w' (upd hp nx (.cells (c32 l) true)) (nx + 1) [.os nx 0 ks.length 1 true] #[v] _ _ _ hGL (a2.mono_un (fun k hk => .inl hk)) rfl (fun i hi6 => by
          obtain rfl : i = 0 := by simp at hi6; omega
          exact a3) hmut
        refine hcall.mono ?_
        rintro e w2 ⟨v3, σ3, I3, rfl, b2, b3, b4, b5⟩
        have hv3 : v3 = .tuple #[] := by
          cases b3 with
          | tup xs vs h1 h2 =>
            have : vs = #[] := Array.eq_empty_of_size_eq_zero h1
            rw [this]
        rw [hv3]
        exact ⟨rfl, σ3, I3, b2, a3.grow b4, a4.trans b4, fun id hid hun2 => b5 id (by omega) (a2.un id (.inr ⟨.inr ⟨hid, hun2⟩, by omega⟩))⟩
      · rintro e w2 ⟨v, rfl, σ', I', b2, b3, b4, b5⟩
        exact ⟨v, σ', I', rfl, b2, b3, b4, b5⟩
    · cases hg
  · cases hg
theorem okd35 : EntOK Tryd.prog GLh 35 (.heap sdG) := ⟨⟨_, Tryd.func35, rfl, rfl⟩, sd_ok⟩
end Go.AX
