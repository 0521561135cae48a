/-
  Sort, part A: rows of numbers of 32 bits, as the sort's plain text has them. Sort, part B: comparing, sorting by insertion, at numbers of 32 bits. Sort, part C: the heap's sort, at numbers of 32 bits. Sort, part D: choosing a pivot, at numbers of 32 bits. Sort, part E: turning a range about, breaking patterns, at numbers of 32 bits.
-/
import Derived.Test.YtkpgebeipmedeaaDoorBE
import Derived.Test.YtkpgebeipmedeaaDoorKB
import Derived.Sort.AssemblyPlain
namespace Go.AX
open Go Go.Proofs

abbrev T32 := BitVec 32
def ltN (x y : T32) : Bool := decide (x.toNat < y.toNat)
def cA (d : Array T32) : List AV := d.toList.map .w32
theorem cA_len (d : Array T32) : (cA d).length = d.size := by simp [cA]
theorem cA_head (d : Array T32) (k : Nat) (h : k < d.size) : ((cA d).drop k).head? = some (.w32 d[k]!) := by
  rw [List.head?_drop, cA, List.getElem?_map, Array.getElem?_toList, Array.getElem?_eq_getElem h, getElem!_pos d k h]; rfl
theorem cA_head0 (d : Array T32) (h : 0 < d.size) : (cA d).head? = some (.w32 d[0]!) := by
  have := cA_head d 0 h
  rwa [List.drop_zero] at this
theorem cA_set (d : Array T32) (k : Nat) (x : T32) : (cA d).set k (.w32 x) = cA (d.setIfInBounds k x) := by
  simp [cA, List.map_set]
theorem cA_nm (d : Array T32) : AV.noMem.noMemL (cA d) = true := by
  unfold cA
  generalize d.toList = l
  induction l with
  | nil => rfl
  | cons x l ih => show (AV.noMem (.w32 x) && AV.noMem.noMemL (l.map .w32)) = true; rw [ih]; rfl
theorem cA_noOwn (d : Array T32) : noOwn (cA d) = true := by
  simp only [noOwn, cA, List.all_eq_true, List.mem_map]
  rintro _ ⟨x, _, rfl⟩; rfl
theorem cA_noOs (d : Array T32) : noOs (cA d) = true := by
  simp only [noOs, cA, Bool.not_eq_true', List.any_eq_false, List.mem_map]
  rintro _ ⟨x, _, rfl⟩
  simp [isOs]
def unA : List AV → Option (List T32)
  | [] => some []
  | .w32 x :: r => obind (unA r) fun l => some (x :: l)
  | _ => none
theorem unA_inv : ∀ {xs : List AV} {l : List T32}, unA xs = some l → xs = cA l.toArray
  | [], l, h => by obtain rfl := Option.some.inj h; rfl
  | x :: r, l, h => by
    cases x <;> simp only [unA] at h <;> first | (cases h; done) | skip
    replace h := obind_inv h; obtain ⟨m, hm, h⟩ := h
    obtain rfl := Option.some.inj h
    have := unA_inv hm
    rw [this]; simp [cA]
theorem unA_cA (d : Array T32) : unA (cA d) = some d.toList := by
  unfold cA
  generalize d.toList = l
  induction l with
  | nil => rfl
  | cons x l ih => show obind (unA (l.map .w32)) (fun l => some (x :: l)) = _; rw [ih, obind_some]
theorem swp_size (d : Array T32) (i j : Nat) : (Sort.swp d i j).size = d.size := by simp [Sort.swp]
theorem ltN_swo : Sort.SWO ltN where
  irrefl x := by simp [ltN]
  trans x y z h1 h2 := by simp only [ltN, decide_eq_true_eq] at *; omega
  ntrans x y z h1 h2 := by simp only [ltN, decide_eq_false_iff_not] at *; omega
/-- The list, sorted. -/
def sortL (l : List T32) : List T32 := (Sort.sort ltN l.toArray).toList
theorem sortL_perm (l : List T32) : (sortL l).Perm l := by
  have h := (Sort.sort_sorts ltN ltN_swo l.toArray).1
  obtain ⟨h1, _, h3⟩ := h
  unfold sortL
  have e1 : (Sort.sort ltN l.toArray).extract 0 l.toArray.size = Sort.sort ltN l.toArray := by rw [← h1]; exact Array.extract_size
  rw [e1, Array.extract_size] at h3
  exact h3
theorem sortL_len (l : List T32) : (sortL l).length = l.length := (sortL_perm l).length_eq
theorem sortL_sorted (l : List T32) : (sortL l).Pairwise fun a b => a.toNat ≤ b.toNat := by
  have h := (Sort.sort_sorts ltN ltN_swo l.toArray)
  obtain ⟨⟨h1, _, _⟩, h2⟩ := h
  rw [List.pairwise_iff_getElem]
  intro i j hi hj hij
  have hs : (sortL l).length = l.toArray.size := by rw [sortL_len]; simp
  have := h2 i j (Nat.zero_le _) hij (by omega)
  have e : ∀ k (hk : k < (sortL l).length), (Sort.sort ltN l.toArray)[k]! = (sortL l)[k] := by
    intro k hk
    rw [getElem!_pos _ k (by rw [h1]; omega)]; rfl
  rw [e j hj, e i hi] at this
  simp only [ltN, decide_eq_false_iff_not] at this
  omega
attribute [go_sem] Array.size_setIfInBounds swp_size cA_len cA_head cA_head0 cA_set cA_nm cA_noOwn cA_noOs unA_cA
end Go.AX

namespace Go.AX
open Go Go.Proofs

structure SDC where
  k : Nat
  d : Array T32
  c : Nat
theorem ltN_eq (x y : T32) : decide (x < y) = ltN x y := by
  unfold ltN; rw [decide_eq_decide, BitVec.lt_def]
def nanG : List AV → Option AV
  | [.w32 _] => some (.b false)
  | _ => none
theorem nanG_eq (x : T32) : nanG [.w32 x] = some (.b false) := (rfl)
def lessG : List AV → Option AV
  | [.w32 x, .w32 y] => some (.b (ltN x y))
  | _ => none
theorem lessG_eq (x y : T32) : lessG [.w32 x, .w32 y] = some (.b (ltN x y)) := (rfl)
attribute [go_sem] nanG_eq lessG_eq
set_option maxHeartbeats 1000000 in
theorem nan_ok : PureOK Tryd.prog GLh 96 nanG := by
  refine pure_of_awp Tryd.func96 (bodyOf_some rfl) ?_
  intro args r hg
  unfold nanG at hg
  split at hg
  · rename_i x
    obtain rfl := Option.some.inj hg
    refine ⟨Nat.le_of_ble_eq_true rfl, fun nx => ?_⟩
    refine awp_seqP rfl ?_
    refine awp_regP (Γ := noEnv) [0] (noEnv_ok _ _) rfl rfl rfl (fun K hK => ?_)
    simp (disch := omega) only [Tryd.f96, go_sem, ↓reduceIte]
    refine hK _ ?_
    refine nx_then ?_
    refine awp_seqP rfl ?_
    refine awp_regP (Γ := noEnv) [2] (noEnv_ok _ _) rfl rfl rfl (fun K hK => ?_)
    simp (disch := omega) only [Tryd.f96, go_sem, Nat.reduceAdd, ↓reduceIte, decide_true, Bool.not_true]
    refine hK _ ?_
    refine nx_then ?_
    refine awp_retP rfl ?_
    simp (disch := omega) only [pureQ, resA, resAL, resA1, Tryd.f96, go_sem, ↓reduceIte]
  · cases hg
theorem oku109 : EntOK Tryd.prog GLh 96 (.pure true nanG) := ⟨⟨_, Tryd.func96, rfl, rfl⟩, nan_ok⟩

set_option maxHeartbeats 1000000 in
theorem less_ok : PureOK Tryd.prog GLh 84 lessG := by
  refine pure_of_awp Tryd.func84 (bodyOf_some rfl) ?_
  intro args r hg
  unfold lessG at hg
  split at hg
  · rename_i x y
    obtain rfl := Option.some.inj hg
    refine ⟨Nat.le_of_ble_eq_true rfl, fun nx => ?_⟩
    refine awp_seqP rfl ?_
    refine awp_regP (Γ := noEnv) [0, 1] (noEnv_ok _ _) rfl rfl rfl (fun K hK => ?_)
    simp (disch := omega) only [Tryd.f84, go_sem, ↓reduceIte]
    refine hK _ ?_
    refine nx_then ?_
    refine awp_seqP rfl ?_
    refine awp_regP (Γ := envL [(96, .pure true nanG)]) [4] (envOK_cons oku109 envOK_nil) rfl rfl rfl (fun K hK => ?_)
    simp (disch := omega) only [Tryd.f84, go_sem, Nat.reduceAdd, reduceCtorEq, ↓reduceIte, ltN_eq]
    refine hK _ ?_
    refine nx_then ?_
    refine awp_retP rfl ?_
    simp (disch := omega) only [pureQ, resA, resAL, resA1, Tryd.f84, go_sem, ↓reduceIte]
  · cases hg
theorem oku99 : EntOK Tryd.prog GLh 84 (.pure true lessG) := ⟨⟨_, Tryd.func84, rfl, rfl⟩, less_ok⟩

def insG : List AV → List AV → Option (AV × List AV)
  | [.os _ 0 n 1 _, .i a, .i b], xs => obind (unA xs) fun l => guardO (l.length = n ∧ 0 ≤ a ∧ a ≤ b ∧ b ≤ n ∧ n ≤ 1000000) (some (.tup [], cA (Sort.insertionSort ltN l.toArray a.toNat b.toNat)))
  | _, _ => none
theorem insG_eq (id n : Nat) (gg : Bool) (a b : Int) (xs : List AV) : insG [.os id 0 n 1 gg, .i a, .i b] xs = obind (unA xs) fun l => guardO (l.length = n ∧ 0 ≤ a ∧ a ≤ b ∧ b ≤ n ∧ n ≤ 1000000) (some (.tup [], cA (Sort.insertionSort ltN l.toArray a.toNat b.toNat))) := (rfl)
attribute [go_sem] insG_eq
theorem insI_s (a j : Nat) (d : Array T32) : Sort.insInner ltN a (j + 1) d = if j + 1 > a && ltN d[j + 1]! d[j]! then Sort.insInner ltN a j (Sort.swp d (j + 1) j) else d := by rw [Sort.insInner]

set_option maxHeartbeats 1000000 in
theorem ins_ok : HeapOK Tryd.prog GLh 78 (mutH insG) := by
  refine mut_of_awp Tryd.func78 (bodyOf_some rfl) ?_
  intro id off n e gg rest nx xs r ys hg
  unfold insG at hg
  split at hg
  · rename_i id2 n2 gg2 a0 b0 heq
    simp only [List.cons.injEq, AV.os.injEq] at heq
    obtain ⟨⟨rfl, rfl, rfl, rfl, rfl⟩, rfl⟩ := heq
    replace hg := obind_inv hg; obtain ⟨l, hl, hg⟩ := hg
    replace hg := guardO_inv hg; obtain ⟨⟨hn, ha, hab, hbn, hbig⟩, hg⟩ := hg
    simp only [Option.some.injEq, Prod.mk.injEq] at hg; obtain ⟨rfl, rfl⟩ := hg
    have := unA_inv hl; subst this
    obtain ⟨a, rfl⟩ := Int.eq_ofNat_of_zero_le ha
    obtain ⟨b, rfl⟩ := Int.eq_ofNat_of_zero_le (show 0 ≤ b0 by omega)
    simp only [Int.toNat_natCast] at *
    obtain ⟨d, hd⟩ : ∃ d, l.toArray = d := ⟨_, rfl⟩
    have hds : d.size = n := by rw [← hd]; simpa using hn
    rw [hd]
    refine ⟨Nat.le_of_ble_eq_true rfl, fun hid => ?_⟩
    obtain ⟨R, hR⟩ : ∃ R, Sort.insertionSort ltN d a b = R := ⟨_, rfl⟩
    have hR0 : Sort.insOuter ltN a b (a + 1) d = R := hR
    rw [hR]
    have hab2 : a ≤ b := by omega
    have hbn2 : b ≤ n := by omega
    clear hR hl hn ha hab hbn
    refine awp_seqP rfl ?_
    refine awp_regP (Γ := noEnv) [0, 1, 2, 6] (noEnv_ok _ _) rfl rfl rfl (fun K hK => ?_)
    simp (disch := omega) only [Tryd.f78, go_sem, Nat.reduceAdd, ↓reduceIte]
    refine hK _ ?_
    refine nx_then ?_
    refine awp_blockN 0 rfl rfl ?_
    refine awp_loopP (fun p : SDC => { fr := [(0, .os id 0 n 1 gg), (1, .i a), (2, .i b), (6, .i p.k)], hp := upd (fun _ => none) id (.cells (cA p.d) true), nx := 0, cx := p.c }) (fun p => Sort.insOuter ltN a b p.k p.d = R ∧ p.d.size = n ∧ a < p.k ∧ id < p.c) (fun p => b - p.k) rfl ⟨⟨a + 1, d, _⟩, ⟨hR0, hds, Nat.lt_succ_self _, by simp only; omega⟩, sub_same (by simp only [Int.natCast_add, Int.natCast_one]) rfl (Nat.le_refl _)⟩ ?_
    rintro ⟨k, d1, c⟩ ⟨hr1, hs1, hk, hc⟩ n0
    simp only at hr1 hs1 hk hc ⊢
    refine awp_seqP rfl ?_
    refine awp_seqP rfl ?_
    refine awp_regP (Γ := noEnv) [12, 0, 1, 2, 6] (noEnv_ok _ _) rfl rfl rfl (fun K hK => ?_)
    simp (disch := omega) only [Tryd.f78, go_sem, Nat.reduceAdd, ↓reduceIte]
    refine hK _ ?_
    refine nx_then ?_
    refine awp_ifD (.tmp 12) rfl rfl rfl (fun h => ?_) (fun h => ?_)
    · skip
      refine awp_drop rfl ?_
      have hkb : k < b := by omega
      rw [Sort.insOuter, if_pos hkb] at hr1
      obtain ⟨R2, hR2⟩ : ∃ R2, Sort.insInner ltN a k d1 = R2 := ⟨_, rfl⟩
      rw [hR2] at hr1
      refine awp_skipP rfl ?_
      refine nx_then ?_
      refine awp_seqP rfl ?_
      refine awp_blockN 1 rfl rfl ?_
      refine awp_seqP rfl ?_
      refine awp_regP (Γ := noEnv) [0, 1, 2, 6, 7] (noEnv_ok _ _) rfl rfl rfl (fun K hK => ?_)
      simp (disch := omega) only [Tryd.f78, go_sem, Nat.reduceAdd, ↓reduceIte]
      refine hK _ ?_
      refine nx_then ?_
      refine awp_blockN 2 rfl rfl ?_
      refine awp_loopP (fun q : SDC => { fr := [(0, .os id 0 n 1 gg), (1, .i a), (2, .i b), (6, .i k), (7, .i q.k)], hp := upd (fun _ => none) id (.cells (cA q.d) true), nx := 0, cx := q.c }) (fun q => Sort.insInner ltN a q.k q.d = R2 ∧ q.d.size = n ∧ q.k ≤ k ∧ id < q.c) (fun q => q.k) rfl ⟨⟨k, d1, _⟩, ⟨hR2, hs1, Nat.le_refl _, by simp only; omega⟩, sub_same rfl rfl (Nat.le_refl _)⟩ ?_
      rintro ⟨j, d2, c2⟩ ⟨hr2, hs2, hj, hc2⟩ n0
      simp only at hr2 hs2 hj hc2 ⊢
      by_cases hja : a < j
      · skip
        obtain ⟨i, rfl⟩ : ∃ i, j = i + 1 := ⟨j - 1, by omega⟩
        have hd1 : decide ((a : Int) < ((i + 1 : Nat) : Int)) = true := decide_eq_true (by omega)
        have e1 : ((i + 1 : Nat) : Int) - 1 = (i : Int) := by omega
        have hgt : (decide (i + 1 > a)) = true := decide_eq_true (by omega)
        rw [insI_s, hgt, Bool.true_and] at hr2
        obtain ⟨v, hv⟩ : ∃ v, ltN d2[i + 1]! d2[i]! = v := ⟨_, rfl⟩
        rw [hv] at hr2
        refine awp_seqP rfl ?_
        refine awp_seqP rfl ?_
        refine awp_drwP (Γ := envL [(84, .pure true lessG)]) (fun k => if k = 13 then 0 else 2) [30, 0, 1, 2, 6, 7] mixed (envOK_cons oku99 envOK_nil) rfl rfl rfl (by kernel_rfl) (fun K hK => ?_)
        simp (disch := omega) only [Tryd.f78, go_sem, Nat.reduceAdd, ↓reduceIte, hd1, e1, hv, Int.toNat_natCast]
        refine hK _ ?_
        refine nx_then ?_
        cases v
        · skip
          simp only [Bool.false_eq_true, if_false] at hr2
          refine awp_ifB (.tmp 30) rfl rfl rfl (fun h => ?_) (fun h => ?_)
          · skip
            refine awp_drop rfl ?_
            cases h
          · skip
            refine awp_drop rfl ?_
            refine awp_exitN 2 rfl rfl ?_
            refine nx_ex_then (nx_ex_loop (nx_ex_blk ?_))
            refine nx_blk (nx_then ?_)
            subst hr2
            refine awp_regP (Γ := noEnv) [0, 1, 2, 6] (noEnv_ok _ _) rfl rfl rfl (fun K hK => ?_)
            simp (disch := omega) only [Tryd.f78, go_sem, Nat.reduceAdd, ↓reduceIte]
            refine hK _ ?_
            refine nx_loop ?_
            refine ⟨⟨k + 1, d2, _⟩, ⟨hr1, hs2, by simp only; omega, by simp only; omega⟩, by simp only; omega, sub_same (by simp only [Int.natCast_add, Int.natCast_one]) rfl (Nat.le_refl _)⟩
        · skip
          simp only [if_true] at hr2
          have hsw : (d2.setIfInBounds (i + 1) d2[i]!).setIfInBounds i d2[i + 1]! = Sort.swp d2 (i + 1) i := rfl
          refine awp_ifB (.tmp 30) rfl rfl rfl (fun h => ?_) (fun h => ?_)
          · skip
            refine awp_skipP rfl ?_
            refine nx_then ?_
            refine awp_seqP rfl ?_
            refine awp_blockN 3 rfl rfl ?_
            refine awp_drwP (Γ := noEnv) (fun _ => 2) [0, 1, 2, 6, 7] mixed (noEnv_ok _ _) rfl rfl rfl (by kernel_rfl) (fun K hK => ?_)
            simp (disch := omega) only [Tryd.f78, go_sem, Nat.reduceAdd, ↓reduceIte, e1, hsw, Int.toNat_natCast]
            refine hK _ ?_
            refine nx_blk (nx_then ?_)
            refine awp_regP (Γ := noEnv) [0, 1, 2, 6, 7] (noEnv_ok _ _) rfl rfl rfl (fun K hK => ?_)
            simp (disch := omega) only [Tryd.f78, go_sem, Nat.reduceAdd, ↓reduceIte, e1]
            refine hK _ ?_
            refine nx_loop ?_
            refine ⟨⟨i, Sort.swp d2 (i + 1) i, _⟩, ⟨hr2, by simp only [swp_size]; exact hs2, by simp only; omega, by simp only; omega⟩, by simp only; omega, ⟨fun _ => .inr rfl, hsub_cons (by simp (disch := omega) only [up_app, ↓reduceIte, eq_self]) hsub_nil, Nat.le_refl _⟩⟩
          · skip
            cases h
      · skip
        have hd1 : decide ((a : Int) < (j : Int)) = false := decide_eq_false (by omega)
        have hr3 : d2 = R2 := by
          rw [← hr2]
          cases j with
          | zero => rfl
          | succ i =>
            have hgt : (decide (i + 1 > a)) = false := decide_eq_false (by omega)
            rw [insI_s, hgt]; rfl
        subst hr3
        refine awp_seqP rfl ?_
        refine awp_seqP rfl ?_
        refine awp_drwP (Γ := envL [(84, .pure true lessG)]) (fun k => if k = 13 then 0 else 2) [30, 0, 1, 2, 6, 7] mixed (envOK_cons oku99 envOK_nil) rfl rfl rfl (by kernel_rfl) (fun K hK => ?_)
        simp (disch := omega) only [Tryd.f78, go_sem, Nat.reduceAdd, reduceCtorEq, ↓reduceIte, hd1]
        refine hK _ ?_
        refine nx_then ?_
        refine awp_ifB (.tmp 30) rfl rfl rfl (fun h => ?_) (fun h => ?_)
        · skip
          refine awp_drop rfl ?_
          cases h
        · skip
          refine awp_drop rfl ?_
          refine awp_exitN 2 rfl rfl ?_
          refine nx_ex_then (nx_ex_loop (nx_ex_blk ?_))
          refine nx_blk (nx_then ?_)
          refine awp_regP (Γ := noEnv) [0, 1, 2, 6] (noEnv_ok _ _) rfl rfl rfl (fun K hK => ?_)
          simp (disch := omega) only [Tryd.f78, go_sem, Nat.reduceAdd, ↓reduceIte]
          refine hK _ ?_
          refine nx_loop ?_
          refine ⟨⟨k + 1, d2, _⟩, ⟨hr1, hs2, by simp only; omega, by simp only; omega⟩, by simp only; omega, sub_same (by simp only [Int.natCast_add, Int.natCast_one]) rfl (Nat.le_refl _)⟩
    · skip
      refine awp_drop rfl ?_
      refine awp_exitN 0 rfl rfl ?_
      refine nx_ex_then (nx_ex_loop (nx_ex_blk ?_))
      have hkb : ¬ k < b := by omega
      rw [Sort.insOuter, if_neg hkb] at hr1
      subst hr1
      exact ⟨rfl, by simp only [up_app, if_true], rfl, cA_nm _⟩
  · cases hg
theorem oku93 : EntOK Tryd.prog GLh 78 (.heap (mutH insG)) := ⟨⟨_, Tryd.func78, rfl, rfl⟩, ins_ok⟩
end Go.AX

namespace Go.AX
open Go Go.Proofs

theorem sift_end (hi first root : Nat) (d : Array T32) (h : hi ≤ 2 * root + 1) : Sort.siftDown ltN hi first root d = d := by rw [Sort.siftDown, dif_pos h]
theorem sift_two (hi first root : Nat) (d : Array T32) (h : 2 * root + 2 < hi) (hl : ltN d[first + (2 * root + 1)]! d[first + (2 * root + 2)]! = true) : Sort.siftDown ltN hi first root d = if !ltN d[first + root]! d[first + (2 * root + 2)]! then d else Sort.siftDown ltN hi first (2 * root + 2) (Sort.swp d (first + root) (first + (2 * root + 2))) := by
  rw [Sort.siftDown, dif_neg (by omega), if_pos (by rw [show first + (2 * root + 1) + 1 = first + (2 * root + 2) by omega, hl, Bool.and_true]; exact decide_eq_true (by omega)), dif_pos h]
theorem sift_one (hi first root : Nat) (d : Array T32) (h : 2 * root + 1 < hi) (hl : (decide (2 * root + 2 < hi) && ltN d[first + (2 * root + 1)]! d[first + (2 * root + 2)]!) = false) : Sort.siftDown ltN hi first root d = if !ltN d[first + root]! d[first + (2 * root + 1)]! then d else Sort.siftDown ltN hi first (2 * root + 1) (Sort.swp d (first + root) (first + (2 * root + 1))) := by
  rw [Sort.siftDown, dif_neg (by omega), if_neg (by rw [show first + (2 * root + 1) + 1 = first + (2 * root + 2) by omega, show 2 * root + 1 + 1 = 2 * root + 2 by omega, hl]; simp)]
def sifG : List AV → List AV → Option (AV × List AV)
  | [.os _ 0 n 1 _, .i lo, .i hi, .i first], xs => obind (unA xs) fun l => guardO (l.length = n ∧ 0 ≤ lo ∧ lo ≤ n ∧ 0 ≤ hi ∧ 0 ≤ first ∧ first + hi ≤ n ∧ n ≤ 1000000) (some (.tup [], cA (Sort.siftDown ltN hi.toNat first.toNat lo.toNat l.toArray)))
  | _, _ => none
theorem sifG_eq (id n : Nat) (gg : Bool) (lo hi first : Int) (xs : List AV) : sifG [.os id 0 n 1 gg, .i lo, .i hi, .i first] xs = obind (unA xs) fun l => guardO (l.length = n ∧ 0 ≤ lo ∧ lo ≤ n ∧ 0 ≤ hi ∧ 0 ≤ first ∧ first + hi ≤ n ∧ n ≤ 1000000) (some (.tup [], cA (Sort.siftDown ltN hi.toNat first.toNat lo.toNat l.toArray))) := (rfl)
attribute [go_sem] sifG_eq
set_option maxHeartbeats 2000000 in
theorem sif_ok : HeapOK Tryd.prog GLh 91 (mutH sifG) := by
  refine mut_of_awp Tryd.func91 (bodyOf_some rfl) ?_
  intro id off n e gg rest nx xs r ys hg
  unfold sifG at hg
  split at hg
  · rename_i id2 n2 gg2 lo0 hi0 first0 heq
    simp only [List.cons.injEq, AV.os.injEq] at heq
    obtain ⟨⟨rfl, rfl, rfl, rfl, rfl⟩, rfl⟩ := heq
    replace hg := obind_inv hg; obtain ⟨l, hl, hg⟩ := hg
    replace hg := guardO_inv hg; obtain ⟨⟨hn, hlo, hlon, hhi, hfi, hfn, hbig⟩, hg⟩ := hg
    simp only [Option.some.injEq, Prod.mk.injEq] at hg; obtain ⟨rfl, rfl⟩ := hg
    have := unA_inv hl; subst this
    obtain ⟨lo, rfl⟩ := Int.eq_ofNat_of_zero_le hlo
    obtain ⟨hi, rfl⟩ := Int.eq_ofNat_of_zero_le hhi
    obtain ⟨first, rfl⟩ := Int.eq_ofNat_of_zero_le hfi
    simp only [Int.toNat_natCast] at *
    obtain ⟨d, hd⟩ : ∃ d, l.toArray = d := ⟨_, rfl⟩
    have hds : d.size = n := by rw [← hd]; simpa using hn
    have hlon2 : lo ≤ n := by omega
    have hfn2 : first + hi ≤ n := by omega
    rw [hd]
    refine ⟨Nat.le_of_ble_eq_true rfl, fun hid => ?_⟩
    obtain ⟨R, hR⟩ : ∃ R, Sort.siftDown ltN hi first lo d = R := ⟨_, rfl⟩
    rw [hR]
    clear hl hn hlo hlon hhi hfi hfn
    refine awp_seqP rfl ?_
    refine awp_regP (Γ := noEnv) [0, 2, 3, 8] (noEnv_ok _ _) rfl rfl rfl (fun K hK => ?_)
    simp (disch := omega) only [Tryd.f91, go_sem, Nat.reduceAdd, ↓reduceIte]
    refine hK _ ?_
    refine nx_then ?_
    refine awp_blockN 0 rfl rfl ?_
    refine awp_loopP (fun p : SDC => { fr := [(0, .os id 0 n 1 gg), (2, .i hi), (3, .i first), (8, .i p.k)], hp := upd (fun _ => none) id (.cells (cA p.d) true), nx := 0, cx := p.c }) (fun p => Sort.siftDown ltN hi first p.k p.d = R ∧ p.d.size = n ∧ p.k ≤ n ∧ id < p.c) (fun p => 2 * n - p.k) rfl ⟨⟨lo, d, _⟩, ⟨hR, hds, hlon2, by simp only; omega⟩, sub_same rfl rfl (Nat.le_refl _)⟩ ?_
    rintro ⟨k, d1, c⟩ ⟨hr1, hs1, hk, hc⟩ n0
    simp only at hr1 hs1 hk hc ⊢
    refine awp_blockN 1 rfl rfl ?_
    refine awp_seqP rfl ?_
    refine awp_regP (Γ := noEnv) [0, 2, 3, 8, 9] (noEnv_ok _ _) rfl rfl rfl (fun K hK => ?_)
    simp (disch := omega) only [Tryd.f91, go_sem, Nat.reduceAdd, ↓reduceIte]
    refine hK _ ?_
    refine nx_then ?_
    refine awp_seqP rfl ?_
    refine awp_seqP rfl ?_
    refine awp_regP (Γ := noEnv) [16, 0, 2, 3, 8, 9] (noEnv_ok _ _) rfl rfl rfl (fun K hK => ?_)
    simp (disch := omega) only [Tryd.f91, go_sem, Nat.reduceAdd, ↓reduceIte]
    refine hK _ ?_
    refine nx_then ?_
    refine awp_ifD (.tmp 16) rfl rfl rfl (fun h => ?_) (fun h => ?_)
    · skip
      refine awp_drop rfl ?_
      have hke : hi ≤ 2 * k + 1 := by omega
      rw [sift_end _ _ _ _ hke] at hr1
      subst hr1
      refine awp_exitN 0 rfl rfl ?_
      refine nx_ex_then (nx_ex_out (nx_ex_loop (nx_ex_blk ?_)) rfl)
      exact ⟨rfl, by simp only [up_app, if_true], rfl, cA_nm _⟩
    · skip
      refine awp_drop rfl ?_
      refine awp_skipP rfl ?_
      refine nx_then ?_
      refine awp_seqP rfl ?_
      refine awp_seqP rfl ?_
      have hk1 : 2 * k + 1 < hi := by omega
      clear h
      have e9 : (first : Int) + (2 * (k : Int) + 1) = ((first + (2 * k + 1) : Nat) : Int) := by omega
      have e9b : ((first + (2 * k + 1) : Nat) : Int) + 1 = ((first + (2 * k + 2) : Nat) : Int) := by omega
      by_cases hk2 : 2 * k + 2 < hi
      · skip
        have hd1 : decide (2 * (k : Int) + 1 + 1 < (hi : Int)) = true := decide_eq_true (by omega)
        have hb1 : first + (2 * k + 1) < n := by omega
        have hb2 : first + (2 * k + 2) < n := by omega
        obtain ⟨u, hu⟩ : ∃ u, ltN d1[first + (2 * k + 1)]! d1[first + (2 * k + 2)]! = u := ⟨_, rfl⟩
        refine awp_drwP (Γ := envL [(84, .pure true lessG)]) (fun k => if k = 18 then 0 else 2) [36, 0, 2, 3, 8, 9] mixed (envOK_cons oku99 envOK_nil) rfl rfl rfl (by kernel_rfl) (fun K hK => ?_)
        simp (disch := omega) only [Tryd.f91, go_sem, Nat.reduceAdd, ↓reduceIte, hd1, e9, e9b, hu, Int.toNat_natCast]
        refine hK _ ?_
        refine nx_then ?_
        cases u
        · skip
          rw [sift_one _ _ _ _ hk1 (by rw [hu, Bool.and_false])] at hr1
          refine awp_ifB (.tmp 36) rfl rfl rfl (fun h => ?_) (fun h => ?_)
          · skip
            refine awp_drop rfl ?_
            cases h
          · skip
            refine awp_drop rfl ?_
            refine awp_skipP rfl ?_
            refine nx_then ?_
            refine awp_seqP rfl ?_
            refine awp_seqP rfl ?_
            obtain ⟨ch, hch⟩ : ∃ ch, 2 * k + 1 = ch := ⟨_, rfl⟩
            have ech : 2 * (k : Int) + 1 = (ch : Int) := by omega
            rw [hch] at hr1
            rw [ech]
            clear e9 e9b hu
            have hchn : first + ch < n := by omega
            have hkn : first + k < n := by omega
            obtain ⟨v, hv⟩ : ∃ v, ltN d1[first + k]! d1[first + ch]! = v := ⟨_, rfl⟩
            rw [hv] at hr1
            have e2 : ((first : Int) + (k : Int)).toNat = first + k := by omega
            have e3 : ((first : Int) + (ch : Int)).toNat = first + ch := by omega
            refine awp_drwP (Γ := envL [(84, .pure true lessG)]) (fun k => if k = 12 then 0 else 2) [52, 0, 2, 3, 8, 9] mixed (envOK_cons oku99 envOK_nil) rfl rfl rfl (by kernel_rfl) (fun K hK => ?_)
            simp (disch := omega) only [Tryd.f91, go_sem, Nat.reduceAdd, ↓reduceIte, e2, e3, hv]
            refine hK _ ?_
            refine nx_then ?_
            cases v
            · skip
              simp only [Bool.not_false, if_true] at hr1
              subst hr1
              refine awp_ifB (.tmp 52) rfl rfl rfl (fun h => ?_) (fun h => ?_)
              · skip
                refine awp_drop rfl ?_
                refine awp_retP rfl ?_
                refine nx_ret_then (nx_ret_blk (nx_ret_loop (nx_ret_blk ?_)))
                exact ⟨rfl, by simp only [up_app, if_true], rfl, cA_nm _⟩
              · skip
                refine awp_drop rfl ?_
                cases h
            · skip
              simp only [Bool.not_true, Bool.false_eq_true, if_false] at hr1
              refine awp_ifB (.tmp 52) rfl rfl rfl (fun h => ?_) (fun h => ?_)
              · skip
                cases h
              · skip
                refine awp_skipP rfl ?_
                refine nx_then ?_
                refine awp_seqP rfl ?_
                have hsw : (d1.setIfInBounds (first + k) d1[first + ch]!).setIfInBounds (first + ch) d1[first + k]! = Sort.swp d1 (first + k) (first + ch) := rfl
                refine awp_drwP (Γ := noEnv) (fun _ => 2) [0, 2, 3, 9] mixed (noEnv_ok _ _) rfl rfl rfl (by kernel_rfl) (fun K hK => ?_)
                simp (disch := omega) only [Tryd.f91, go_sem, Nat.reduceAdd, ↓reduceIte, e2, e3, hsw]
                refine hK _ ?_
                refine nx_then ?_
                refine awp_regP (Γ := noEnv) [0, 2, 3, 8] (noEnv_ok _ _) rfl rfl rfl (fun K hK => ?_)
                simp (disch := omega) only [Tryd.f91, go_sem, Nat.reduceAdd, ↓reduceIte]
                refine hK _ ?_
                refine nx_blk (nx_loop ?_)
                refine ⟨⟨ch, Sort.swp d1 (first + k) (first + ch), _⟩, ⟨hr1, by simp only [swp_size]; exact hs1, by simp only; omega, by simp only; omega⟩, by simp only; omega, ⟨fun _ => .inr rfl, hsub_cons (by simp (disch := omega) only [up_app, ↓reduceIte, eq_self]) hsub_nil, Nat.le_refl _⟩⟩
        · skip
          rw [sift_two _ _ _ _ hk2 hu] at hr1
          refine awp_ifB (.tmp 36) rfl rfl rfl (fun h => ?_) (fun h => ?_)
          · skip
            refine awp_regP (Γ := noEnv) [0, 2, 3, 8, 9] (noEnv_ok _ _) rfl rfl rfl (fun K hK => ?_)
            simp (disch := omega) only [Tryd.f91, go_sem, Nat.reduceAdd, ↓reduceIte]
            refine hK _ ?_
            refine nx_then ?_
            obtain ⟨ch, hch⟩ : ∃ ch, 2 * k + 2 = ch := ⟨_, rfl⟩
            have ech : 2 * (k : Int) + 1 + 1 = (ch : Int) := by omega
            rw [hch] at hr1
            rw [ech]
            clear e9 e9b hu
            have hchn : first + ch < n := by omega
            have hkn : first + k < n := by omega
            obtain ⟨v, hv⟩ : ∃ v, ltN d1[first + k]! d1[first + ch]! = v := ⟨_, rfl⟩
            rw [hv] at hr1
            have e2 : ((first : Int) + (k : Int)).toNat = first + k := by omega
            have e3 : ((first : Int) + (ch : Int)).toNat = first + ch := by omega
            refine awp_seqP rfl ?_
            refine awp_seqP rfl ?_
            refine awp_drwP (Γ := envL [(84, .pure true lessG)]) (fun k => if k = 12 then 0 else 2) [52, 0, 2, 3, 8, 9] mixed (envOK_cons oku99 envOK_nil) rfl rfl rfl (by kernel_rfl) (fun K hK => ?_)
            simp (disch := omega) only [Tryd.f91, go_sem, Nat.reduceAdd, ↓reduceIte, e2, e3, hv]
            refine hK _ ?_
            refine nx_then ?_
            cases v
            · skip
              simp only [Bool.not_false, if_true] at hr1
              subst hr1
              refine awp_ifB (.tmp 52) rfl rfl rfl (fun h => ?_) (fun h => ?_)
              · skip
                refine awp_drop rfl ?_
                refine awp_retP rfl ?_
                refine nx_ret_then (nx_ret_blk (nx_ret_loop (nx_ret_blk ?_)))
                exact ⟨rfl, by simp only [up_app, if_true], rfl, cA_nm _⟩
              · skip
                refine awp_drop rfl ?_
                cases h
            · skip
              simp only [Bool.not_true, Bool.false_eq_true, if_false] at hr1
              refine awp_ifB (.tmp 52) rfl rfl rfl (fun h => ?_) (fun h => ?_)
              · skip
                cases h
              · skip
                refine awp_skipP rfl ?_
                refine nx_then ?_
                refine awp_seqP rfl ?_
                have hsw : (d1.setIfInBounds (first + k) d1[first + ch]!).setIfInBounds (first + ch) d1[first + k]! = Sort.swp d1 (first + k) (first + ch) := rfl
                refine awp_drwP (Γ := noEnv) (fun _ => 2) [0, 2, 3, 9] mixed (noEnv_ok _ _) rfl rfl rfl (by kernel_rfl) (fun K hK => ?_)
                simp (disch := omega) only [Tryd.f91, go_sem, Nat.reduceAdd, ↓reduceIte, e2, e3, hsw]
                refine hK _ ?_
                refine nx_then ?_
                refine awp_regP (Γ := noEnv) [0, 2, 3, 8] (noEnv_ok _ _) rfl rfl rfl (fun K hK => ?_)
                simp (disch := omega) only [Tryd.f91, go_sem, Nat.reduceAdd, ↓reduceIte]
                refine hK _ ?_
                refine nx_blk (nx_loop ?_)
                refine ⟨⟨ch, Sort.swp d1 (first + k) (first + ch), _⟩, ⟨hr1, by simp only [swp_size]; exact hs1, by simp only; omega, by simp only; omega⟩, by simp only; omega, ⟨fun _ => .inr rfl, hsub_cons (by simp (disch := omega) only [up_app, ↓reduceIte, eq_self]) hsub_nil, Nat.le_refl _⟩⟩
          · skip
            cases h
      · skip
        have hd1 : decide (2 * (k : Int) + 1 + 1 < (hi : Int)) = false := decide_eq_false (by omega)
        refine awp_drwP (Γ := envL [(84, .pure true lessG)]) (fun k => if k = 18 then 0 else 2) [36, 0, 2, 3, 8, 9] mixed (envOK_cons oku99 envOK_nil) rfl rfl rfl (by kernel_rfl) (fun K hK => ?_)
        simp (disch := omega) only [Tryd.f91, go_sem, Nat.reduceAdd, reduceCtorEq, ↓reduceIte, hd1]
        refine hK _ ?_
        refine nx_then ?_
        rw [sift_one _ _ _ _ hk1 (by rw [decide_eq_false (by omega : ¬ 2 * k + 2 < hi), Bool.false_and])] at hr1
        refine awp_ifB (.tmp 36) rfl rfl rfl (fun h => ?_) (fun h => ?_)
        · skip
          refine awp_drop rfl ?_
          cases h
        · skip
          refine awp_drop rfl ?_
          refine awp_skipP rfl ?_
          refine nx_then ?_
          refine awp_seqP rfl ?_
          refine awp_seqP rfl ?_
          obtain ⟨ch, hch⟩ : ∃ ch, 2 * k + 1 = ch := ⟨_, rfl⟩
          have ech : 2 * (k : Int) + 1 = (ch : Int) := by omega
          rw [hch] at hr1
          rw [ech]
          clear e9 e9b
          have hchn : first + ch < n := by omega
          have hkn : first + k < n := by omega
          obtain ⟨v, hv⟩ : ∃ v, ltN d1[first + k]! d1[first + ch]! = v := ⟨_, rfl⟩
          rw [hv] at hr1
          have e2 : ((first : Int) + (k : Int)).toNat = first + k := by omega
          have e3 : ((first : Int) + (ch : Int)).toNat = first + ch := by omega
          refine awp_drwP (Γ := envL [(84, .pure true lessG)]) (fun k => if k = 12 then 0 else 2) [52, 0, 2, 3, 8, 9] mixed (envOK_cons oku99 envOK_nil) rfl rfl rfl (by kernel_rfl) (fun K hK => ?_)
          simp (disch := omega) only [Tryd.f91, go_sem, Nat.reduceAdd, ↓reduceIte, e2, e3, hv]
          refine hK _ ?_
          refine nx_then ?_
          cases v
          · skip
            simp only [Bool.not_false, if_true] at hr1
            subst hr1
            refine awp_ifB (.tmp 52) rfl rfl rfl (fun h => ?_) (fun h => ?_)
            · skip
              refine awp_drop rfl ?_
              refine awp_retP rfl ?_
              refine nx_ret_then (nx_ret_blk (nx_ret_loop (nx_ret_blk ?_)))
              exact ⟨rfl, by simp only [up_app, if_true], rfl, cA_nm _⟩
            · skip
              refine awp_drop rfl ?_
              cases h
          · skip
            simp only [Bool.not_true, Bool.false_eq_true, if_false] at hr1
            refine awp_ifB (.tmp 52) rfl rfl rfl (fun h => ?_) (fun h => ?_)
            · skip
              cases h
            · skip
              refine awp_skipP rfl ?_
              refine nx_then ?_
              refine awp_seqP rfl ?_
              have hsw : (d1.setIfInBounds (first + k) d1[first + ch]!).setIfInBounds (first + ch) d1[first + k]! = Sort.swp d1 (first + k) (first + ch) := rfl
              refine awp_drwP (Γ := noEnv) (fun _ => 2) [0, 2, 3, 9] mixed (noEnv_ok _ _) rfl rfl rfl (by kernel_rfl) (fun K hK => ?_)
              simp (disch := omega) only [Tryd.f91, go_sem, Nat.reduceAdd, ↓reduceIte, e2, e3, hsw]
              refine hK _ ?_
              refine nx_then ?_
              refine awp_regP (Γ := noEnv) [0, 2, 3, 8] (noEnv_ok _ _) rfl rfl rfl (fun K hK => ?_)
              simp (disch := omega) only [Tryd.f91, go_sem, Nat.reduceAdd, ↓reduceIte]
              refine hK _ ?_
              refine nx_blk (nx_loop ?_)
              refine ⟨⟨ch, Sort.swp d1 (first + k) (first + ch), _⟩, ⟨hr1, by simp only [swp_size]; exact hs1, by simp only; omega, by simp only; omega⟩, by simp only; omega, ⟨fun _ => .inr rfl, hsub_cons (by simp (disch := omega) only [up_app, ↓reduceIte, eq_self]) hsub_nil, Nat.le_refl _⟩⟩
  · cases hg
theorem oku104 : EntOK Tryd.prog GLh 91 (.heap (mutH sifG)) := ⟨⟨_, Tryd.func91, rfl, rfl⟩, sif_ok⟩

theorem sif_size0 (hi first : Nat) : ∀ (m root : Nat) (d : Array T32), hi - root ≤ m → (Sort.siftDown ltN hi first root d).size = d.size := by
  intro m
  induction m with
  | zero => intro root d h; rw [sift_end _ _ _ _ (by omega)]
  | succ m ih =>
    intro root d h
    rw [Sort.siftDown]
    split
    · rfl
    split
    · split
      · rfl
      split
      · rw [ih _ _ (by omega), swp_size]
      · rfl
    · split
      · rfl
      · rw [ih _ _ (by omega), swp_size]
theorem sif_size (hi first root : Nat) (d : Array T32) : (Sort.siftDown ltN hi first root d).size = d.size := sif_size0 hi first _ root d (Nat.le_refl _)
def hepG : List AV → List AV → Option (AV × List AV)
  | [.os _ 0 n 1 _, .i a, .i b], xs => obind (unA xs) fun l => guardO (l.length = n ∧ 0 ≤ a ∧ a < b ∧ b ≤ n ∧ n ≤ 1000000) (some (.tup [], cA (Sort.heapSort ltN l.toArray a.toNat b.toNat)))
  | _, _ => none
theorem hepG_eq (id n : Nat) (gg : Bool) (a b : Int) (xs : List AV) : hepG [.os id 0 n 1 gg, .i a, .i b] xs = obind (unA xs) fun l => guardO (l.length = n ∧ 0 ≤ a ∧ a < b ∧ b ≤ n ∧ n ≤ 1000000) (some (.tup [], cA (Sort.heapSort ltN l.toArray a.toNat b.toNat))) := (rfl)
attribute [go_sem] hepG_eq sif_size Array.toArray_toList Array.length_toList
set_option maxHeartbeats 2000000 in
theorem hep_ok : HeapOK Tryd.prog GLh 79 (mutH hepG) := by
  refine mut_of_awp Tryd.func79 (bodyOf_some rfl) ?_
  intro id off n e gg rest nx xs r ys hg
  unfold hepG at hg
  split at hg
  · rename_i id2 n2 gg2 a0 b0 heq
    simp only [List.cons.injEq, AV.os.injEq] at heq
    obtain ⟨⟨rfl, rfl, rfl, rfl, rfl⟩, rfl⟩ := heq
    replace hg := obind_inv hg; obtain ⟨l, hl, hg⟩ := hg
    replace hg := guardO_inv hg; obtain ⟨⟨hn, ha, hab, hbn, hbig⟩, hg⟩ := hg
    simp only [Option.some.injEq, Prod.mk.injEq] at hg; obtain ⟨rfl, rfl⟩ := hg
    have := unA_inv hl; subst this
    obtain ⟨a, rfl⟩ := Int.eq_ofNat_of_zero_le ha
    obtain ⟨b, rfl⟩ := Int.eq_ofNat_of_zero_le (show 0 ≤ b0 by omega)
    simp only [Int.toNat_natCast] at *
    obtain ⟨d, hd⟩ : ∃ d, l.toArray = d := ⟨_, rfl⟩
    have hds : d.size = n := by rw [← hd]; simpa using hn
    have hab2 : a < b := by omega
    have hbn2 : b ≤ n := by omega
    rw [hd]
    refine ⟨Nat.le_of_ble_eq_true rfl, fun hid => ?_⟩
    obtain ⟨R, hR⟩ : ∃ R, Sort.heapSort ltN d a b = R := ⟨_, rfl⟩
    obtain ⟨H, hH⟩ : ∃ H : Nat, b - a = H := ⟨_, rfl⟩
    obtain ⟨B, hB⟩ : ∃ B, Sort.heapBuild ltN H a ((H - 1) / 2 + 1) d = B := ⟨_, rfl⟩
    rw [hR]
    rw [Sort.heapSort, hH, hB] at hR
    have eH : (b : Int) - (a : Int) = (H : Int) := by omega
    have eq2 : ((H : Int) - 1).tdiv 2 = (((H - 1) / 2 : Nat) : Int) := by rw [Int.tdiv_eq_ediv_of_nonneg (by omega)]; omega
    clear hl hn ha hab hbn
    refine awp_seqP rfl ?_
    refine awp_regP (Γ := noEnv) [0, 1, 2, 6] (noEnv_ok _ _) rfl rfl rfl (fun K hK => ?_)
    simp (disch := omega) only [Tryd.f79, go_sem, Nat.reduceAdd, ↓reduceIte]
    refine hK _ ?_
    refine nx_then ?_
    refine awp_seqP rfl ?_
    refine awp_regP (Γ := noEnv) [0, 1, 2, 6, 7] (noEnv_ok _ _) rfl rfl rfl (fun K hK => ?_)
    simp (disch := omega) only [Tryd.f79, go_sem, ↓reduceIte]
    refine hK _ ?_
    refine nx_then ?_
    refine awp_seqP rfl ?_
    refine awp_regP (Γ := noEnv) [0, 6, 7, 8] (noEnv_ok _ _) rfl rfl rfl (fun K hK => ?_)
    simp (disch := omega) only [Tryd.f79, go_sem, Nat.reduceAdd, ↓reduceIte, eH]
    refine hK _ ?_
    refine nx_then ?_
    refine awp_seqP rfl ?_
    refine awp_seqP rfl ?_
    refine awp_regP (Γ := noEnv) [0, 6, 7, 8, 9] (noEnv_ok _ _) rfl rfl rfl (fun K hK => ?_)
    simp (disch := omega) only [Tryd.f79, go_sem, Nat.reduceAdd, Int.reduceEq, ↓reduceIte, eq2]
    refine hK _ ?_
    refine nx_then ?_
    refine awp_blockN 0 rfl rfl ?_
    refine awp_loopP (fun p : SDC => { fr := [(0, .os id 0 n 1 gg), (6, .i a), (7, .i 0), (8, .i H), (9, .i ((p.k : Int) - 1))], hp := upd (fun _ => none) id (.cells (cA p.d) true), nx := 0, cx := p.c }) (fun p => Sort.heapBuild ltN H a p.k p.d = B ∧ p.d.size = n ∧ p.k ≤ H ∧ id < p.c) (fun p => p.k) rfl ⟨⟨(H - 1) / 2 + 1, d, _⟩, ⟨hB, hds, by simp only; omega, by simp only; omega⟩, sub_same (by simp only [Int.natCast_add, Int.natCast_one, Int.add_sub_cancel]) rfl (Nat.le_refl _)⟩ ?_
    rintro ⟨k, d1, c⟩ ⟨hr1, hs1, hk, hc⟩ n0
    simp only at hr1 hs1 hk hc ⊢
    refine awp_seqP rfl ?_
    refine awp_seqP rfl ?_
    refine awp_regP (Γ := noEnv) [19, 0, 6, 7, 8, 9] (noEnv_ok _ _) rfl rfl rfl (fun K hK => ?_)
    simp (disch := omega) only [Tryd.f79, go_sem, Nat.reduceAdd, ↓reduceIte]
    refine hK _ ?_
    refine nx_then ?_
    refine awp_ifD (.tmp 19) rfl rfl rfl (fun h => ?_) (fun h => ?_)
    · skip
      refine awp_drop rfl ?_
      obtain ⟨i, rfl⟩ : ∃ i, k = i + 1 := ⟨k - 1, by omega⟩
      have e1 : ((i + 1 : Nat) : Int) - 1 = (i : Int) := by omega
      rw [Sort.heapBuild] at hr1
      refine awp_skipP rfl ?_
      refine nx_then ?_
      refine awp_seqP rfl ?_
      refine awp_blockN 1 rfl rfl ?_
      refine awp_regP (Γ := envL [(91, .heap (mutH sifG))]) [0, 6, 7, 8, 9] (envOK_cons oku104 envOK_nil) rfl rfl rfl (fun K hK => ?_)
      simp (disch := omega) only [Tryd.f79, go_sem, Nat.reduceAdd, ↓reduceIte, e1, hs1, Int.toNat_natCast]
      refine hK _ ?_
      refine nx_blk (nx_then ?_)
      refine awp_regP (Γ := noEnv) [0, 6, 7, 8, 9] (noEnv_ok _ _) rfl rfl rfl (fun K hK => ?_)
      simp (disch := omega) only [Tryd.f79, go_sem, Nat.reduceAdd, ↓reduceIte]
      refine hK _ ?_
      refine nx_loop ?_
      refine ⟨⟨i, Sort.siftDown ltN H a i d1, _⟩, ⟨hr1, by simp only [sif_size]; exact hs1, by simp only; omega, by simp only; omega⟩, by simp only; omega, ⟨fun _ => .inr rfl, hsub_cons (by simp (disch := omega) only [up_app, ↓reduceIte, eq_self]) hsub_nil, Nat.le_refl _⟩⟩
    · skip
      refine awp_drop rfl ?_
      refine awp_exitN 0 rfl rfl ?_
      refine nx_ex_then (nx_ex_loop (nx_ex_blk ?_))
      refine nx_then ?_
      refine awp_seqP rfl ?_
      obtain rfl : k = 0 := by omega
      rw [Sort.heapBuild] at hr1
      subst hr1
      refine awp_regP (Γ := noEnv) [0, 6, 7, 10] (noEnv_ok _ _) rfl rfl rfl (fun K hK => ?_)
      simp (disch := omega) only [Tryd.f79, go_sem, Nat.reduceAdd, ↓reduceIte]
      refine hK _ ?_
      refine nx_then ?_
      refine awp_blockN 2 rfl rfl ?_
      refine awp_loopP (fun p : SDC => { fr := [(0, .os id 0 n 1 gg), (6, .i a), (7, .i 0), (10, .i ((p.k : Int) - 1))], hp := upd (fun _ => none) id (.cells (cA p.d) true), nx := 0, cx := p.c }) (fun p => Sort.heapPop ltN a p.k p.d = R ∧ p.d.size = n ∧ p.k ≤ H ∧ id < p.c) (fun p => p.k) rfl ⟨⟨H, d1, _⟩, ⟨hR, hs1, Nat.le_refl _, by simp only; omega⟩, sub_same rfl rfl (Nat.le_refl _)⟩ ?_
      rintro ⟨k, d2, c2⟩ ⟨hr2, hs2, hk2, hc2⟩ n0
      simp only at hr2 hs2 hk2 hc2 ⊢
      refine awp_seqP rfl ?_
      refine awp_seqP rfl ?_
      refine awp_regP (Γ := noEnv) [30, 0, 6, 7, 10] (noEnv_ok _ _) rfl rfl rfl (fun K hK => ?_)
      simp (disch := omega) only [Tryd.f79, go_sem, Nat.reduceAdd, ↓reduceIte]
      refine hK _ ?_
      refine nx_then ?_
      refine awp_ifD (.tmp 30) rfl rfl rfl (fun h => ?_) (fun h => ?_)
      · skip
        refine awp_drop rfl ?_
        obtain ⟨i, rfl⟩ : ∃ i, k = i + 1 := ⟨k - 1, by omega⟩
        have e1 : ((i + 1 : Nat) : Int) - 1 = (i : Int) := by omega
        have e2 : ((a : Int) + (i : Int)).toNat = a + i := by omega
        have hsw : (d2.setIfInBounds a d2[a + i]!).setIfInBounds (a + i) d2[a]! = Sort.swp d2 a (a + i) := rfl
        have hss : (Sort.swp d2 a (a + i)).size = n := by rw [swp_size]; exact hs2
        rw [Sort.heapPop] at hr2
        refine awp_skipP rfl ?_
        refine nx_then ?_
        refine awp_seqP rfl ?_
        refine awp_blockN 3 rfl rfl ?_
        refine awp_seqP rfl ?_
        refine awp_drwP (Γ := noEnv) (fun _ => 2) [0, 6, 7, 10] mixed (noEnv_ok _ _) rfl rfl rfl (by kernel_rfl) (fun K hK => ?_)
        simp (disch := omega) only [Tryd.f79, go_sem, Nat.reduceAdd, ↓reduceIte, e1, e2, hsw]
        refine hK _ ?_
        refine nx_then ?_
        refine awp_regP (Γ := envL [(91, .heap (mutH sifG))]) [0, 6, 7, 10] (envOK_cons oku104 envOK_nil) rfl rfl rfl (fun K hK => ?_)
        simp (disch := omega) only [Tryd.f79, go_sem, Nat.reduceAdd, Int.reduceLE, Int.reduceToNat, ↓reduceIte, hss, Int.toNat_natCast]
        refine hK _ ?_
        refine nx_blk (nx_then ?_)
        refine awp_regP (Γ := noEnv) [0, 6, 7, 10] (noEnv_ok _ _) rfl rfl rfl (fun K hK => ?_)
        simp (disch := omega) only [Tryd.f79, go_sem, Nat.reduceAdd, ↓reduceIte]
        refine hK _ ?_
        refine nx_loop ?_
        refine ⟨⟨i, Sort.siftDown ltN i a 0 (Sort.swp d2 a (a + i)), _⟩, ⟨hr2, by simp only [sif_size]; exact hss, by simp only; omega, by simp only; omega⟩, by simp only; omega, ⟨fun _ => .inr rfl, hsub_cons (by simp (disch := omega) only [up_app, ↓reduceIte, eq_self]) hsub_nil, Nat.le_refl _⟩⟩
      · skip
        refine awp_drop rfl ?_
        refine awp_exitN 2 rfl rfl ?_
        refine nx_ex_then (nx_ex_loop (nx_ex_blk ?_))
        obtain rfl : k = 0 := by omega
        rw [Sort.heapPop] at hr2
        subst hr2
        exact ⟨rfl, by simp only [up_app, if_true], rfl, cA_nm _⟩
  · cases hg
theorem oku94 : EntOK Tryd.prog GLh 79 (.heap (mutH hepG)) := ⟨⟨_, Tryd.func79, rfl, rfl⟩, hep_ok⟩
end Go.AX

namespace Go.AX
open Go Go.Proofs

def rowO : AO → Option (List AV)
  | .cells xs mt => guardO (mt = true) (some xs)
  | .mapo _ _ => none
theorem rowO_c (xs : List AV) (mt : Bool) : rowO (.cells xs mt) = guardO (mt = true) (some xs) := (rfl)
theorem rowO_inv {o : AO} {xs : List AV} (h : rowO o = some xs) : o = .cells xs true := by
  obtain ⟨ys, mt, rfl⟩ : ∃ ys mt, o = .cells ys mt := by cases o with | cells ys mt => exact ⟨ys, mt, rfl⟩ | mapo _ _ => cases h
  obtain ⟨hm, h⟩ := guardO_inv h
  obtain rfl := Option.some.inj h
  rw [hm]
def oneI : List AV → Option Int
  | [.i s] => some s
  | _ => none
theorem oneI_eq (s : Int) : oneI [.i s] = some s := (rfl)
theorem oneI_inv {xs : List AV} {s : Int} (h : oneI xs = some s) : xs = [.i s] := by
  unfold oneI at h
  split at h
  · obtain rfl := Option.some.inj h; rfl
  · cases h
attribute [go_sem] rowO_c oneI_eq List.head?_cons List.set_cons_zero
theorem hsub_same {hp : H} {q : Nat} {a : AO} (h : hp q = some a) : ∀ j o, upd hp q a j = some o → hp j = some o := by
  intro j o hj
  rw [upd_apply] at hj
  split at hj
  · rename_i e; rw [e, h]; exact hj
  · exact hj
theorem hsub_up {hp t : H} {q : Nat} {a : AO} (h1 : t q = some a) (h2 : ∀ j, j ≠ q → t j = hp j) : ∀ j o, upd hp q a j = some o → t j = some o := by
  intro j o hj
  rw [upd_apply] at hj
  split at hj
  · rename_i e; rw [e, h1]; exact hj
  · rename_i e; rw [h2 j e]; exact hj

def ordH : List AV → H → Nat → Option (AV × H × Nat)
  | [.os id 0 n 1 _, .i a, .i b, .op q 0], hp, nx => obind (hp id) fun o => obind (rowO o) fun xs => obind (unA xs) fun l => obind (hp q) fun o2 => obind (rowO o2) fun ys => obind (oneI ys) fun s => guardO (id ≠ q ∧ l.length = n ∧ 0 ≤ a ∧ a < n ∧ 0 ≤ b ∧ b < n ∧  n ≤ 1000000 ∧ 0 ≤ s ∧ s ≤ 1000) (some (.tup [.i (Sort.order2 ltN l.toArray a.toNat b.toNat s.toNat).1, .i (Sort.order2 ltN l.toArray a.toNat b.toNat s.toNat).2.1], upd hp q (.cells [.i (Sort.order2 ltN l.toArray a.toNat b.toNat s.toNat).2.2] true), nx + 60))
  | _, _, _ => none
theorem ordH_eq (id n q : Nat) (gg : Bool) (a b : Int) (hp : H) (nx : Nat) : ordH [.os id 0 n 1 gg, .i a, .i b, .op q 0] hp nx = obind (hp id) fun o => obind (rowO o) fun xs => obind (unA xs) fun l => obind (hp q) fun o2 => obind (rowO o2) fun ys => obind (oneI ys) fun s => guardO (id ≠ q ∧ l.length = n ∧ 0 ≤ a ∧ a < n ∧ 0 ≤ b ∧ b < n ∧  n ≤ 1000000 ∧ 0 ≤ s ∧ s ≤ 1000) (some (.tup [.i (Sort.order2 ltN l.toArray a.toNat b.toNat s.toNat).1, .i (Sort.order2 ltN l.toArray a.toNat b.toNat s.toNat).2.1], upd hp q (.cells [.i (Sort.order2 ltN l.toArray a.toNat b.toNat s.toNat).2.2] true), nx + 60)) := (rfl)
attribute [go_sem] ordH_eq
set_option maxHeartbeats 1000000 in
theorem ord_ok : HeapOK Tryd.prog GLh 99 ordH := by
  refine heap_of_awp Tryd.func99 (bodyOf_some rfl) ?_
  intro args hp nx r hp' nx' hg
  unfold ordH at hg
  split at hg
  · rename_i hp0 nx0 id n gg a0 b0 q
    replace hg := obind_inv hg; obtain ⟨o, ho, hg⟩ := hg
    replace hg := obind_inv hg; obtain ⟨xs, hxs, hg⟩ := hg
    obtain rfl := rowO_inv hxs
    replace hg := obind_inv hg; obtain ⟨l, hl, hg⟩ := hg
    replace hg := obind_inv hg; obtain ⟨o2, ho2, hg⟩ := hg
    replace hg := obind_inv hg; obtain ⟨ys, hys, hg⟩ := hg
    obtain rfl := rowO_inv hys
    replace hg := obind_inv hg; obtain ⟨s0, hs0, hg⟩ := hg
    obtain rfl := oneI_inv hs0
    replace hg := guardO_inv hg; obtain ⟨⟨hne, hn, hal, hau, hbl, hbu, hbig, hsl, hsu⟩, hg⟩ := hg
    simp only [Option.some.injEq, Prod.mk.injEq] at hg; obtain ⟨rfl, rfl, rfl⟩ := hg
    have := unA_inv hl; subst this
    obtain ⟨a, rfl⟩ := Int.eq_ofNat_of_zero_le hal
    obtain ⟨b, rfl⟩ := Int.eq_ofNat_of_zero_le hbl
    obtain ⟨s, rfl⟩ := Int.eq_ofNat_of_zero_le hsl
    simp only [Int.toNat_natCast] at *
    obtain ⟨d, hd⟩ : ∃ d, l.toArray = d := ⟨_, rfl⟩
    have hds : d.size = n := by rw [← hd]; simpa using hn
    rw [hd] at ho ⊢
    have hqi : q ≠ id := fun e => hne e.symm
    refine ⟨Nat.le_of_ble_eq_true rfl, by omega, fun hnone => ?_⟩
    have hidn : id < nx := by
      apply Classical.byContradiction; intro hc; rw [hnone id (by omega)] at ho; cases ho
    have hqn : q < nx := by
      apply Classical.byContradiction; intro hc; rw [hnone q (by omega)] at ho2; cases ho2
    obtain ⟨v, hv⟩ : ∃ v, ltN d[b]! d[a]! = v := ⟨_, rfl⟩
    simp only [Sort.order2, hv]
    refine awp_seqP rfl ?_
    refine awp_regP (Γ := noEnv) [0, 1, 2, 3] (noEnv_ok _ _) rfl rfl rfl (fun K hK => ?_)
    simp (disch := omega) only [Tryd.f99, go_sem, Nat.reduceAdd, ↓reduceIte]
    refine hK _ ?_
    refine nx_then ?_
    refine awp_seqP rfl ?_
    refine awp_seqP rfl ?_
    refine awp_drwP (Γ := envL [(84, .pure true lessG)]) (fun k => if k = 8 then 0 else 2) [18, 1, 2, 3] mixed (envOK_cons oku99 envOK_nil) rfl rfl rfl (by kernel_rfl) (fun K hK => ?_)
    simp (disch := omega) only [Tryd.f99, go_sem, Nat.reduceAdd, ↓reduceIte, ho, hv, Int.toNat_natCast]
    refine hK _ ?_
    refine nx_then ?_
    cases v
    · skip
      refine awp_ifB (.tmp 18) rfl rfl rfl (fun h => ?_) (fun h => ?_)
      · skip
        refine awp_drop rfl ?_
        cases h
      · skip
        refine awp_drop rfl ?_
        refine awp_skipP rfl ?_
        refine nx_then ?_
        refine awp_seqP rfl ?_
        refine awp_regP (Γ := noEnv) [8, 9] (noEnv_ok _ _) rfl rfl rfl (fun K hK => ?_)
        simp (disch := omega) only [Tryd.f99, go_sem, Nat.reduceAdd, ↓reduceIte]
        refine hK _ ?_
        refine nx_then ?_
        refine awp_retP rfl ?_
        exact ⟨rfl, hsub_same ho2, by simp only; omega⟩
    · skip
      refine awp_ifB (.tmp 18) rfl rfl rfl (fun h => ?_) (fun h => ?_)
      · skip
        refine awp_seqP rfl ?_
        refine awp_regP (Γ := noEnv) [1, 2] (noEnv_ok _ _) rfl rfl rfl (fun K hK => ?_)
        simp (disch := omega) only [Tryd.f99, go_sem, Nat.reduceAdd, Nat.reduceLeDiff, ↓reduceIte, ho2]
        refine hK _ ?_
        refine nx_then ?_
        refine awp_seqP rfl ?_
        refine awp_regP (Γ := noEnv) [8, 9] (noEnv_ok _ _) rfl rfl rfl (fun K hK => ?_)
        simp (disch := omega) only [Tryd.f99, go_sem, Nat.reduceAdd, ↓reduceIte]
        refine hK _ ?_
        refine nx_then ?_
        refine awp_retP rfl ?_
        refine nx_ret_then ?_
        refine ⟨rfl, hsub_up (by simp only [up_app, if_true, Int.natCast_add, Int.natCast_one]; try rfl) (fun j hj => by simp only [up_app, if_neg hj]), by simp only; omega⟩
      · skip
        cases h
  · cases hg
theorem oku110 : EntOK Tryd.prog GLh 99 (.heap ordH) := ⟨⟨_, Tryd.func99, rfl, rfl⟩, ord_ok⟩
theorem ord_facts {d : Array T32} {a b s x y t : Nat} (h : Sort.order2 ltN d a b s = (x, y, t)) : ((x = a ∧ y = b) ∨ (x = b ∧ y = a)) ∧ t ≤ s + 1 := by
  unfold Sort.order2 at h
  split at h <;> (simp only [Prod.mk.injEq] at h; obtain ⟨rfl, rfl, rfl⟩ := h; omega)
theorem med_facts {d : Array T32} {a b c s x t : Nat} (h : Sort.median ltN d a b c s = (x, t)) : (x = a ∨ x = b ∨ x = c) ∧ t ≤ s + 3 := by
  obtain ⟨⟨x1, y1, s1⟩, h1⟩ : ∃ r, Sort.order2 ltN d a b s = r := ⟨_, rfl⟩
  have f1 := ord_facts h1
  obtain ⟨⟨x2, y2, s2⟩, h2⟩ : ∃ r, Sort.order2 ltN d y1 c s1 = r := ⟨_, rfl⟩
  have f2 := ord_facts h2
  obtain ⟨⟨x3, y3, s3⟩, h3⟩ : ∃ r, Sort.order2 ltN d x1 x2 s2 = r := ⟨_, rfl⟩
  have f3 := ord_facts h3
  simp only [Sort.median, h1, h2, h3, Prod.mk.injEq] at h
  omega
attribute [go_sem] Array.toArray_toList Array.length_toList
def medH : List AV → H → Nat → Option (AV × H × Nat)
  | [.os id 0 n 1 _, .i a, .i b, .i c, .op q 0], hp, nx => obind (hp id) fun o => obind (rowO o) fun xs => obind (unA xs) fun l => obind (hp q) fun o2 => obind (rowO o2) fun ys => obind (oneI ys) fun s => guardO (id ≠ q ∧ l.length = n ∧ 0 ≤ a ∧ a < n ∧ 0 ≤ b ∧ b < n ∧ 0 ≤ c ∧ c < n ∧  n ≤ 1000000 ∧ 0 ≤ s ∧ s ≤ 900) (some (.i (Sort.median ltN l.toArray a.toNat b.toNat c.toNat s.toNat).1, upd hp q (.cells [.i (Sort.median ltN l.toArray a.toNat b.toNat c.toNat s.toNat).2] true), nx + 300))
  | _, _, _ => none
theorem medH_eq (id n q : Nat) (gg : Bool) (a b c : Int) (hp : H) (nx : Nat) : medH [.os id 0 n 1 gg, .i a, .i b, .i c, .op q 0] hp nx = obind (hp id) fun o => obind (rowO o) fun xs => obind (unA xs) fun l => obind (hp q) fun o2 => obind (rowO o2) fun ys => obind (oneI ys) fun s => guardO (id ≠ q ∧ l.length = n ∧ 0 ≤ a ∧ a < n ∧ 0 ≤ b ∧ b < n ∧ 0 ≤ c ∧ c < n ∧  n ≤ 1000000 ∧ 0 ≤ s ∧ s ≤ 900) (some (.i (Sort.median ltN l.toArray a.toNat b.toNat c.toNat s.toNat).1, upd hp q (.cells [.i (Sort.median ltN l.toArray a.toNat b.toNat c.toNat s.toNat).2] true), nx + 300)) := (rfl)
attribute [go_sem] medH_eq
set_option maxHeartbeats 1000000 in
theorem med_ok : HeapOK Tryd.prog GLh 95 medH := by
  refine heap_of_awp Tryd.func95 (bodyOf_some rfl) ?_
  intro args hp nx r hp' nx' hg
  unfold medH at hg
  split at hg
  · rename_i hp0 nx0 id n gg a0 b0 c0 q
    replace hg := obind_inv hg; obtain ⟨o, ho, hg⟩ := hg
    replace hg := obind_inv hg; obtain ⟨xs, hxs, hg⟩ := hg
    obtain rfl := rowO_inv hxs
    replace hg := obind_inv hg; obtain ⟨l, hl, hg⟩ := hg
    replace hg := obind_inv hg; obtain ⟨o2, ho2, hg⟩ := hg
    replace hg := obind_inv hg; obtain ⟨ys, hys, hg⟩ := hg
    obtain rfl := rowO_inv hys
    replace hg := obind_inv hg; obtain ⟨s0, hs0, hg⟩ := hg
    obtain rfl := oneI_inv hs0
    replace hg := guardO_inv hg; obtain ⟨⟨hne, hn, hal, hau, hbl, hbu, hcl, hcu, hbig, hsl, hsu⟩, hg⟩ := hg
    simp only [Option.some.injEq, Prod.mk.injEq] at hg; obtain ⟨rfl, rfl, rfl⟩ := hg
    have := unA_inv hl; subst this
    obtain ⟨a, rfl⟩ := Int.eq_ofNat_of_zero_le hal
    obtain ⟨b, rfl⟩ := Int.eq_ofNat_of_zero_le hbl
    obtain ⟨c, rfl⟩ := Int.eq_ofNat_of_zero_le hcl
    obtain ⟨s, rfl⟩ := Int.eq_ofNat_of_zero_le hsl
    simp only [Int.toNat_natCast] at *
    obtain ⟨d, hd⟩ : ∃ d, l.toArray = d := ⟨_, rfl⟩
    have hds : d.size = n := by rw [← hd]; simpa using hn
    rw [hd] at ho ⊢
    have hqi : q ≠ id := fun e => hne e.symm
    refine ⟨Nat.le_of_ble_eq_true rfl, by omega, fun hnone => ?_⟩
    have hidn : id < nx := by
      apply Classical.byContradiction; intro hc; rw [hnone id (by omega)] at ho; cases ho
    have hqn : q < nx := by
      apply Classical.byContradiction; intro hc; rw [hnone q (by omega)] at ho2; cases ho2
    obtain ⟨⟨x1, y1, s1⟩, h1⟩ : ∃ r, Sort.order2 ltN d a b s = r := ⟨_, rfl⟩
    have f1 := ord_facts h1
    obtain ⟨⟨x2, y2, s2⟩, h2⟩ : ∃ r, Sort.order2 ltN d y1 c s1 = r := ⟨_, rfl⟩
    have f2 := ord_facts h2
    obtain ⟨⟨x3, y3, s3⟩, h3⟩ : ∃ r, Sort.order2 ltN d x1 x2 s2 = r := ⟨_, rfl⟩
    have f3 := ord_facts h3
    have hx1 : x1 < n := by omega
    have hy1 : y1 < n := by omega
    have hx2 : x2 < n := by omega
    simp only [Sort.median, h1, h2, h3]
    refine awp_seqP rfl ?_
    refine awp_regP (Γ := noEnv) [0, 1, 2, 3, 4] (noEnv_ok _ _) rfl rfl rfl (fun K hK => ?_)
    simp (disch := omega) only [Tryd.f95, go_sem, Nat.reduceAdd, ↓reduceIte]
    refine hK _ ?_
    refine nx_then ?_
    refine awp_seqP rfl ?_
    refine awp_regP (Γ := envL [(99, .heap ordH)]) [0, 1, 2, 3, 4] (envOK_cons oku110 envOK_nil) rfl rfl rfl (fun K hK => ?_)
    simp (disch := omega) only [Tryd.f95, go_sem, Nat.reduceAdd, ↓reduceIte, ho, ho2, hds, h1, Int.toNat_natCast, Int.natCast_nonneg]
    refine hK _ ?_
    refine nx_then ?_
    refine awp_seqP rfl ?_
    refine awp_regP (Γ := envL [(99, .heap ordH)]) [0, 1, 2, 4] (envOK_cons oku110 envOK_nil) rfl rfl rfl (fun K hK => ?_)
    simp (disch := omega) only [Tryd.f95, go_sem, Nat.reduceAdd, ↓reduceIte, ho, hds, h2, hne, Int.toNat_natCast]
    refine hK _ ?_
    refine nx_then ?_
    refine awp_seqP rfl ?_
    refine awp_regP (Γ := envL [(99, .heap ordH)]) [2] (envOK_cons oku110 envOK_nil) rfl rfl rfl (fun K hK => ?_)
    simp (disch := omega) only [Tryd.f95, go_sem, Nat.reduceAdd, ↓reduceIte, ho, hds, h3, hne, Int.toNat_natCast]
    refine hK _ ?_
    refine nx_then ?_
    refine awp_seqP rfl ?_
    refine awp_regP (Γ := noEnv) [10] (noEnv_ok _ _) rfl rfl rfl (fun K hK => ?_)
    simp (disch := omega) only [Tryd.f95, go_sem, Nat.reduceAdd, ↓reduceIte]
    refine hK _ ?_
    refine nx_then ?_
    refine awp_retP rfl ?_
    refine ⟨rfl, hsub_up (by simp only [up_app, if_true]) (fun j hj => by simp only [up_app, if_neg hj]), by simp only; omega⟩
  · cases hg
theorem oku108 : EntOK Tryd.prog GLh 95 (.heap medH) := ⟨⟨_, Tryd.func95, rfl, rfl⟩, med_ok⟩

theorem adj_facts {d : Array T32} {a s x t : Nat} (h : Sort.medianAdjacent ltN d a s = (x, t)) : (x = a - 1 ∨ x = a ∨ x = a + 1) ∧ t ≤ s + 3 := med_facts h
def adjH : List AV → H → Nat → Option (AV × H × Nat)
  | [.os id 0 n 1 _, .i a, .op q 0], hp, nx => obind (hp id) fun o => obind (rowO o) fun xs => obind (unA xs) fun l => obind (hp q) fun o2 => obind (rowO o2) fun ys => obind (oneI ys) fun s => guardO (id ≠ q ∧ l.length = n ∧ 1 ≤ a ∧ a + 1 < n ∧  n ≤ 1000000 ∧ 0 ≤ s ∧ s ≤ 800) (some (.i (Sort.medianAdjacent ltN l.toArray a.toNat s.toNat).1, upd hp q (.cells [.i (Sort.medianAdjacent ltN l.toArray a.toNat s.toNat).2] true), nx + 400))
  | _, _, _ => none
theorem adjH_eq (id n q : Nat) (gg : Bool) (a : Int) (hp : H) (nx : Nat) : adjH [.os id 0 n 1 gg, .i a, .op q 0] hp nx = obind (hp id) fun o => obind (rowO o) fun xs => obind (unA xs) fun l => obind (hp q) fun o2 => obind (rowO o2) fun ys => obind (oneI ys) fun s => guardO (id ≠ q ∧ l.length = n ∧ 1 ≤ a ∧ a + 1 < n ∧  n ≤ 1000000 ∧ 0 ≤ s ∧ s ≤ 800) (some (.i (Sort.medianAdjacent ltN l.toArray a.toNat s.toNat).1, upd hp q (.cells [.i (Sort.medianAdjacent ltN l.toArray a.toNat s.toNat).2] true), nx + 400)) := (rfl)
attribute [go_sem] adjH_eq
set_option maxHeartbeats 1000000 in
theorem adj_ok : HeapOK Tryd.prog GLh 94 adjH := by
  refine heap_of_awp Tryd.func94 (bodyOf_some rfl) ?_
  intro args hp nx r hp' nx' hg
  unfold adjH at hg
  split at hg
  · rename_i hp0 nx0 id n gg a0 q
    replace hg := obind_inv hg; obtain ⟨o, ho, hg⟩ := hg
    replace hg := obind_inv hg; obtain ⟨xs, hxs, hg⟩ := hg
    obtain rfl := rowO_inv hxs
    replace hg := obind_inv hg; obtain ⟨l, hl, hg⟩ := hg
    replace hg := obind_inv hg; obtain ⟨o2, ho2, hg⟩ := hg
    replace hg := obind_inv hg; obtain ⟨ys, hys, hg⟩ := hg
    obtain rfl := rowO_inv hys
    replace hg := obind_inv hg; obtain ⟨s0, hs0, hg⟩ := hg
    obtain rfl := oneI_inv hs0
    replace hg := guardO_inv hg; obtain ⟨⟨hne, hn, hal1, hau, hbig, hsl, hsu⟩, hg⟩ := hg
    simp only [Option.some.injEq, Prod.mk.injEq] at hg; obtain ⟨rfl, rfl, rfl⟩ := hg
    have := unA_inv hl; subst this
    have hal : 0 ≤ a0 := by omega
    obtain ⟨a, rfl⟩ := Int.eq_ofNat_of_zero_le hal
    obtain ⟨s, rfl⟩ := Int.eq_ofNat_of_zero_le hsl
    simp only [Int.toNat_natCast] at *
    obtain ⟨d, hd⟩ : ∃ d, l.toArray = d := ⟨_, rfl⟩
    have hds : d.size = n := by rw [← hd]; simpa using hn
    rw [hd] at ho ⊢
    have hqi : q ≠ id := fun e => hne e.symm
    refine ⟨Nat.le_of_ble_eq_true rfl, by omega, fun hnone => ?_⟩
    have hidn : id < nx := by
      apply Classical.byContradiction; intro hc; rw [hnone id (by omega)] at ho; cases ho
    have hqn : q < nx := by
      apply Classical.byContradiction; intro hc; rw [hnone q (by omega)] at ho2; cases ho2
    obtain ⟨⟨x1, s1⟩, h1⟩ : ∃ r, Sort.median ltN d (a - 1) a (a + 1) s = r := ⟨_, rfl⟩
    simp only [Sort.medianAdjacent, h1]
    have e1 : (a : Int) - 1 = ((a - 1 : Nat) : Int) := by omega
    have e2 : (a : Int) + 1 = ((a + 1 : Nat) : Int) := by omega
    refine awp_seqP rfl ?_
    refine awp_regP (Γ := noEnv) [0, 1, 2] (noEnv_ok _ _) rfl rfl rfl (fun K hK => ?_)
    simp (disch := omega) only [Tryd.f94, go_sem, Nat.reduceAdd, ↓reduceIte]
    refine hK _ ?_
    refine nx_then ?_
    refine awp_seqP rfl ?_
    refine awp_regP (Γ := envL [(95, .heap medH)]) [6] (envOK_cons oku108 envOK_nil) rfl rfl rfl (fun K hK => ?_)
    simp (disch := omega) only [Tryd.f94, go_sem, Nat.reduceAdd, ↓reduceIte, ho, ho2, hds, h1, e1, e2, Int.toNat_natCast]
    refine hK _ ?_
    refine nx_then ?_
    refine awp_retP rfl ?_
    refine ⟨rfl, hsub_up (by simp only [up_app, if_true]) (fun j hj => by simp only [up_app, if_neg hj]), by simp only; omega⟩
  · cases hg
theorem oku107 : EntOK Tryd.prog GLh 94 (.heap adjH) := ⟨⟨_, Tryd.func94, rfl, rfl⟩, adj_ok⟩

def hintI : Sort.Hint → Int
  | .unknown => 0
  | .increasing => 1
  | .decreasing => 2
def chG : List AV → List AV → Option (AV × List AV)
  | [.os _ 0 n 1 _, .i a, .i b], xs => obind (unA xs) fun l => guardO (l.length = n ∧ 0 ≤ a ∧ a < b ∧ b ≤ n ∧ n ≤ 1000000) (some (.tup [.i (Sort.choosePivot ltN l.toArray a.toNat b.toNat).1, .i (hintI (Sort.choosePivot ltN l.toArray a.toNat b.toNat).2)], cA l.toArray))
  | _, _ => none
theorem chG_eq (id n : Nat) (gg : Bool) (a b : Int) (xs : List AV) : chG [.os id 0 n 1 gg, .i a, .i b] xs = obind (unA xs) fun l => guardO (l.length = n ∧ 0 ≤ a ∧ a < b ∧ b ≤ n ∧ n ≤ 1000000) (some (.tup [.i (Sort.choosePivot ltN l.toArray a.toNat b.toNat).1, .i (hintI (Sort.choosePivot ltN l.toArray a.toNat b.toNat).2)], cA l.toArray)) := (rfl)
attribute [go_sem] chG_eq
set_option maxHeartbeats 2000000 in
theorem ch_ok : HeapOK Tryd.prog GLh 81 (mutH chG) := by
  refine mut_of_awp Tryd.func81 (bodyOf_some rfl) ?_
  intro id off n e gg rest nx xs r ys hg
  unfold chG at hg
  split at hg
  · rename_i id2 n2 gg2 a0 b0 heq
    simp only [List.cons.injEq, AV.os.injEq] at heq
    obtain ⟨⟨rfl, rfl, rfl, rfl, rfl⟩, rfl⟩ := heq
    replace hg := obind_inv hg; obtain ⟨l, hl, hg⟩ := hg
    replace hg := guardO_inv hg; obtain ⟨⟨hn, ha, hab, hbn, hbig⟩, hg⟩ := hg
    simp only [Option.some.injEq, Prod.mk.injEq] at hg; obtain ⟨rfl, rfl⟩ := hg
    have := unA_inv hl; subst this
    obtain ⟨a, rfl⟩ := Int.eq_ofNat_of_zero_le ha
    obtain ⟨b, rfl⟩ := Int.eq_ofNat_of_zero_le (show 0 ≤ b0 by omega)
    simp only [Int.toNat_natCast] at *
    obtain ⟨d, hd⟩ : ∃ d, l.toArray = d := ⟨_, rfl⟩
    have hds : d.size = n := by rw [← hd]; simpa using hn
    have hab2 : a < b := by omega
    have hbn2 : b ≤ n := by omega
    rw [hd]
    refine ⟨Nat.le_of_ble_eq_true rfl, fun hid => ?_⟩
    clear hl hn ha hab hbn
    have eq4 : (((b : Int) - (a : Int)).tdiv 4) = (((b - a) / 4 : Nat) : Int) := by rw [Int.tdiv_eq_ediv_of_nonneg (by omega)]; omega
    obtain ⟨L, hL⟩ : ∃ L : Nat, b - a = L := ⟨_, rfl⟩
    obtain ⟨Q, hQ⟩ : ∃ Q : Nat, (b - a) / 4 = Q := ⟨_, rfl⟩
    have ebL : (b : Int) - (a : Int) = (L : Int) := by omega
    rw [ebL, hQ] at eq4
    have ei : (a : Int) + (Q : Int) * 1 = ((a + Q * 1 : Nat) : Int) := by omega
    have ej : (a : Int) + (Q : Int) * 2 = ((a + Q * 2 : Nat) : Int) := by omega
    have ek : (a : Int) + (Q : Int) * 3 = ((a + Q * 3 : Nat) : Int) := by omega
    obtain ⟨CP, hCP⟩ : ∃ CP, Sort.choosePivot ltN d a b = CP := ⟨_, rfl⟩
    rw [hCP]
    refine awp_seqP rfl ?_
    refine awp_regP (Γ := noEnv) [0, 1, 2] (noEnv_ok _ _) rfl rfl rfl (fun K hK => ?_)
    simp (disch := omega) only [Tryd.f81, go_sem, Nat.reduceAdd, ↓reduceIte]
    refine hK _ ?_
    refine nx_then ?_
    refine awp_seqP rfl ?_
    refine awp_regP (Γ := noEnv) [0, 1, 8] (noEnv_ok _ _) rfl rfl rfl (fun K hK => ?_)
    simp (disch := omega) only [Tryd.f81, go_sem, Nat.reduceAdd, ↓reduceIte, ebL]
    refine hK _ ?_
    refine nx_then ?_
    refine awp_seqP rfl ?_
    refine awp_regP (Γ := noEnv) [0, 1, 8, 9] (noEnv_ok _ _) rfl rfl rfl (fun K hK => ?_)
    simp (disch := omega) only [Tryd.f81, go_sem, ↓reduceIte]
    refine hK _ ?_
    refine nx_then ?_
    refine awp_seqP rfl ?_
    refine awp_regP (Γ := noEnv) [0, 1, 8, 9, 10] (noEnv_ok _ _) rfl rfl rfl (fun K hK => ?_)
    simp (disch := omega) only [Tryd.f81, go_sem, Nat.reduceAdd, Int.reduceEq, ↓reduceIte, eq4, ei]
    refine hK _ ?_
    refine nx_then ?_
    refine awp_seqP rfl ?_
    refine awp_regP (Γ := noEnv) [0, 1, 8, 9, 10, 11] (noEnv_ok _ _) rfl rfl rfl (fun K hK => ?_)
    simp (disch := omega) only [Tryd.f81, go_sem, Nat.reduceAdd, Int.reduceEq, ↓reduceIte, eq4, ej]
    refine hK _ ?_
    refine nx_then ?_
    refine awp_seqP rfl ?_
    refine awp_regP (Γ := noEnv) [0, 8, 9, 10, 11, 12] (noEnv_ok _ _) rfl rfl rfl (fun K hK => ?_)
    simp (disch := omega) only [Tryd.f81, go_sem, Nat.reduceAdd, Int.reduceEq, ↓reduceIte, eq4, ek]
    refine hK _ ?_
    refine nx_then ?_
    refine awp_seqP rfl ?_
    refine awp_seqP rfl ?_
    refine awp_regP (Γ := noEnv) [32, 0, 8, 9, 10, 11, 12] (noEnv_ok _ _) rfl rfl rfl (fun K hK => ?_)
    simp (disch := omega) only [Tryd.f81, go_sem, Nat.reduceAdd, ↓reduceIte]
    refine hK _ ?_
    refine nx_then ?_
    have hne : id ≠ nx + 6 := by omega
    have hQL : Q = L / 4 := by omega
    refine awp_ifD (.tmp 32) rfl rfl rfl (fun h => ?_) (fun h => ?_)
    · skip
      refine awp_drop rfl ?_
      have hL8 : 8 ≤ L := by omega
      refine awp_seqP rfl ?_
      refine awp_seqP rfl ?_
      refine awp_regP (Γ := noEnv) [34, 0, 9, 10, 11, 12] (noEnv_ok _ _) rfl rfl rfl (fun K hK => ?_)
      simp (disch := omega) only [Tryd.f81, go_sem, Nat.reduceAdd, ↓reduceIte]
      refine hK _ ?_
      refine nx_then ?_
      refine awp_ifD (.tmp 34) rfl rfl rfl (fun h => ?_) (fun h => ?_)
      · skip
        refine awp_drop rfl ?_
        have hL50 : 50 ≤ L := by omega
        obtain ⟨⟨x1, s1⟩, h1⟩ : ∃ r, Sort.medianAdjacent ltN d (a + Q) 0 = r := ⟨_, rfl⟩
        have f1 := adj_facts h1
        obtain ⟨⟨x2, s2⟩, h2⟩ : ∃ r, Sort.medianAdjacent ltN d (a + Q * 2) s1 = r := ⟨_, rfl⟩
        have f2 := adj_facts h2
        obtain ⟨⟨x3, s3⟩, h3⟩ : ∃ r, Sort.medianAdjacent ltN d (a + Q * 3) s2 = r := ⟨_, rfl⟩
        have f3 := adj_facts h3
        obtain ⟨⟨p, sw⟩, h4⟩ : ∃ r, Sort.median ltN d x1 x2 x3 s3 = r := ⟨_, rfl⟩
        obtain rfl : CP = (p, if sw = 0 then .increasing else if sw = 12 then .decreasing else .unknown) := by
          rw [← hCP]; unfold Sort.choosePivot
          simp only [hL, ← hQL, ge_iff_le, hL8, hL50, if_true, Nat.mul_one, h1, h2, h3, h4]
        have hx1 : x1 < n := by omega
        have hx2 : x2 < n := by omega
        have hx3 : x3 < n := by omega
        have g1 : a + Q + 1 < n := by omega
        have g2 : a + Q * 2 + 1 < n := by omega
        have g3 : a + Q * 3 + 1 < n := by omega
        refine awp_seqP rfl ?_
        refine awp_regP (Γ := envL [(94, .heap adjH)]) [0, 9, 10, 11, 12] (envOK_cons oku107 envOK_nil) rfl rfl rfl (fun K hK => ?_)
        simp (disch := omega) only [Tryd.f81, go_sem, Nat.reduceAdd, Int.reduceLE, ↓reduceIte, hds, h1, hne, Int.toNat_natCast, Int.toNat_zero]
        refine hK _ ?_
        refine nx_then ?_
        refine awp_seqP rfl ?_
        refine awp_regP (Γ := envL [(94, .heap adjH)]) [0, 9, 10, 11, 12] (envOK_cons oku107 envOK_nil) rfl rfl rfl (fun K hK => ?_)
        simp (disch := omega) only [Tryd.f81, go_sem, Nat.reduceAdd, ↓reduceIte, hds, h2, hne, Int.toNat_natCast]
        refine hK _ ?_
        refine nx_then ?_
        refine awp_regP (Γ := envL [(94, .heap adjH)]) [0, 9, 10, 11, 12] (envOK_cons oku107 envOK_nil) rfl rfl rfl (fun K hK => ?_)
        simp (disch := omega) only [Tryd.f81, go_sem, Nat.reduceAdd, ↓reduceIte, hds, h3, hne, Int.toNat_natCast]
        refine hK _ ?_
        refine nx_then ?_
        refine awp_regP (Γ := envL [(95, .heap medH)]) [9, 11] (envOK_cons oku108 envOK_nil) rfl rfl rfl (fun K hK => ?_)
        simp (disch := omega) only [Tryd.f81, go_sem, Nat.reduceAdd, ↓reduceIte, hds, h4, hne, Int.toNat_natCast]
        refine hK _ ?_
        refine nx_then ?_
        refine awp_seqP rfl ?_
        refine awp_regP (Γ := noEnv) [11, 49] (noEnv_ok _ _) rfl rfl rfl (fun K hK => ?_)
        simp (disch := omega) only [Tryd.f81, go_sem, ↓reduceIte]
        refine hK _ ?_
        refine nx_then ?_
        refine awp_blockN 0 rfl rfl ?_
        refine awp_seqP rfl ?_
        refine awp_regP (Γ := noEnv) [51, 11, 49] (noEnv_ok _ _) rfl rfl rfl (fun K hK => ?_)
        simp (disch := omega) only [Tryd.f81, go_sem, Nat.reduceAdd, ↓reduceIte]
        refine hK _ ?_
        refine nx_then ?_
        refine awp_ifD (.tmp 51) rfl rfl rfl (fun h => ?_) (fun h => ?_)
        · skip
          refine awp_drop rfl ?_
          have h0 : sw = 0 := by omega
          refine awp_seqP rfl ?_
          refine awp_regP (Γ := noEnv) [6, 7] (noEnv_ok _ _) rfl rfl rfl (fun K hK => ?_)
          simp (disch := omega) only [Tryd.f81, go_sem, Nat.reduceAdd, ↓reduceIte]
          refine hK _ ?_
          refine nx_then ?_
          refine awp_retP rfl ?_
          refine nx_ret_blk ?_
          exact ⟨by simp only [h0, if_true, hintI, resA]; rfl, by simp (disch := omega) only [up_app, nat_ne, if_true, if_false], rfl, cA_nm _⟩
        · skip
          refine awp_drop rfl ?_
          refine awp_seqP rfl ?_
          refine awp_regP (Γ := noEnv) [54, 11] (noEnv_ok _ _) rfl rfl rfl (fun K hK => ?_)
          simp (disch := omega) only [Tryd.f81, go_sem, Nat.reduceAdd, ↓reduceIte]
          refine hK _ ?_
          refine nx_then ?_
          refine awp_ifD (.tmp 54) rfl rfl rfl (fun h => ?_) (fun h => ?_)
          · skip
            refine awp_drop rfl ?_
            have h0 : sw = 12 := by omega
            refine awp_seqP rfl ?_
            refine awp_regP (Γ := noEnv) [6, 7] (noEnv_ok _ _) rfl rfl rfl (fun K hK => ?_)
            simp (disch := omega) only [Tryd.f81, go_sem, Nat.reduceAdd, ↓reduceIte]
            refine hK _ ?_
            refine nx_then ?_
            refine awp_retP rfl ?_
            refine nx_ret_blk ?_
            exact ⟨by simp only [h0, if_true, hintI, resA]; rfl, by simp (disch := omega) only [up_app, nat_ne, if_true, if_false], rfl, cA_nm _⟩
          · skip
            refine awp_drop rfl ?_
            have h0 : sw ≠ 0 := by omega
            have h1 : sw ≠ 12 := by omega
            refine awp_seqP rfl ?_
            refine awp_regP (Γ := noEnv) [6, 7] (noEnv_ok _ _) rfl rfl rfl (fun K hK => ?_)
            simp (disch := omega) only [Tryd.f81, go_sem, Nat.reduceAdd, ↓reduceIte]
            refine hK _ ?_
            refine nx_then ?_
            refine awp_retP rfl ?_
            refine nx_ret_blk ?_
            exact ⟨by simp only [h0, h1, if_false, hintI, resA]; rfl, by simp (disch := omega) only [up_app, nat_ne, if_true, if_false], rfl, cA_nm _⟩
      · skip
        refine awp_drop rfl ?_
        have hL50 : ¬ 50 ≤ L := by omega
        obtain ⟨⟨p, sw⟩, h4⟩ : ∃ r, Sort.median ltN d (a + Q) (a + Q * 2) (a + Q * 3) 0 = r := ⟨_, rfl⟩
        obtain rfl : CP = (p, if sw = 0 then .increasing else if sw = 12 then .decreasing else .unknown) := by
          rw [← hCP]; unfold Sort.choosePivot
          simp only [hL, ← hQL, ge_iff_le, hL8, hL50, if_true, if_false, Nat.mul_one, h4]
        have g1 : a + Q < n := by omega
        have g2 : a + Q * 2 < n := by omega
        have g3 : a + Q * 3 < n := by omega
        refine awp_skipP rfl ?_
        refine nx_then ?_
        refine awp_regP (Γ := envL [(95, .heap medH)]) [9, 11] (envOK_cons oku108 envOK_nil) rfl rfl rfl (fun K hK => ?_)
        simp (disch := omega) only [Tryd.f81, go_sem, Nat.reduceAdd, Int.reduceLE, ↓reduceIte, hds, h4, hne, Int.toNat_natCast, Int.toNat_zero]
        refine hK _ ?_
        refine nx_then ?_
        refine awp_seqP rfl ?_
        refine awp_regP (Γ := noEnv) [11, 49] (noEnv_ok _ _) rfl rfl rfl (fun K hK => ?_)
        simp (disch := omega) only [Tryd.f81, go_sem, ↓reduceIte]
        refine hK _ ?_
        refine nx_then ?_
        refine awp_blockN 0 rfl rfl ?_
        refine awp_seqP rfl ?_
        refine awp_regP (Γ := noEnv) [51, 11, 49] (noEnv_ok _ _) rfl rfl rfl (fun K hK => ?_)
        simp (disch := omega) only [Tryd.f81, go_sem, Nat.reduceAdd, ↓reduceIte]
        refine hK _ ?_
        refine nx_then ?_
        refine awp_ifD (.tmp 51) rfl rfl rfl (fun h => ?_) (fun h => ?_)
        · skip
          refine awp_drop rfl ?_
          have h0 : sw = 0 := by omega
          refine awp_seqP rfl ?_
          refine awp_regP (Γ := noEnv) [6, 7] (noEnv_ok _ _) rfl rfl rfl (fun K hK => ?_)
          simp (disch := omega) only [Tryd.f81, go_sem, Nat.reduceAdd, ↓reduceIte]
          refine hK _ ?_
          refine nx_then ?_
          refine awp_retP rfl ?_
          refine nx_ret_blk ?_
          exact ⟨by simp only [h0, if_true, hintI, resA]; rfl, by simp (disch := omega) only [up_app, nat_ne, if_true, if_false], rfl, cA_nm _⟩
        · skip
          refine awp_drop rfl ?_
          refine awp_seqP rfl ?_
          refine awp_regP (Γ := noEnv) [54, 11] (noEnv_ok _ _) rfl rfl rfl (fun K hK => ?_)
          simp (disch := omega) only [Tryd.f81, go_sem, Nat.reduceAdd, ↓reduceIte]
          refine hK _ ?_
          refine nx_then ?_
          refine awp_ifD (.tmp 54) rfl rfl rfl (fun h => ?_) (fun h => ?_)
          · skip
            refine awp_drop rfl ?_
            have h0 : sw = 12 := by omega
            refine awp_seqP rfl ?_
            refine awp_regP (Γ := noEnv) [6, 7] (noEnv_ok _ _) rfl rfl rfl (fun K hK => ?_)
            simp (disch := omega) only [Tryd.f81, go_sem, Nat.reduceAdd, ↓reduceIte]
            refine hK _ ?_
            refine nx_then ?_
            refine awp_retP rfl ?_
            refine nx_ret_blk ?_
            exact ⟨by simp only [h0, if_true, hintI, resA]; rfl, by simp (disch := omega) only [up_app, nat_ne, if_true, if_false], rfl, cA_nm _⟩
          · skip
            refine awp_drop rfl ?_
            have h0 : sw ≠ 0 := by omega
            have h1 : sw ≠ 12 := by omega
            refine awp_seqP rfl ?_
            refine awp_regP (Γ := noEnv) [6, 7] (noEnv_ok _ _) rfl rfl rfl (fun K hK => ?_)
            simp (disch := omega) only [Tryd.f81, go_sem, Nat.reduceAdd, ↓reduceIte]
            refine hK _ ?_
            refine nx_then ?_
            refine awp_retP rfl ?_
            refine nx_ret_blk ?_
            exact ⟨by simp only [h0, h1, if_false, hintI, resA]; rfl, by simp (disch := omega) only [up_app, nat_ne, if_true, if_false], rfl, cA_nm _⟩
    · skip
      refine awp_drop rfl ?_
      have hL8 : ¬ 8 ≤ L := by omega
      obtain rfl : CP = (a + Q * 2, .increasing) := by
        rw [← hCP]; unfold Sort.choosePivot
        simp only [hL, ← hQL, ge_iff_le, hL8, if_true, if_false]
      refine awp_skipP rfl ?_
      refine nx_then ?_
      refine awp_seqP rfl ?_
      refine awp_regP (Γ := noEnv) [11, 49] (noEnv_ok _ _) rfl rfl rfl (fun K hK => ?_)
      simp (disch := omega) only [Tryd.f81, go_sem, ↓reduceIte]
      refine hK _ ?_
      refine nx_then ?_
      refine awp_blockN 0 rfl rfl ?_
      refine awp_seqP rfl ?_
      refine awp_regP (Γ := noEnv) [51, 11, 49] (noEnv_ok _ _) rfl rfl rfl (fun K hK => ?_)
      simp (disch := omega) only [Tryd.f81, go_sem, Nat.reduceAdd, ↓reduceIte]
      refine hK _ ?_
      refine nx_then ?_
      refine awp_ifB (.tmp 51) rfl rfl rfl (fun h => ?_) (fun h => ?_)
      · skip
        refine awp_drop rfl ?_
        refine awp_seqP rfl ?_
        refine awp_regP (Γ := noEnv) [6, 7] (noEnv_ok _ _) rfl rfl rfl (fun K hK => ?_)
        simp (disch := omega) only [Tryd.f81, go_sem, Nat.reduceAdd, ↓reduceIte]
        refine hK _ ?_
        refine nx_then ?_
        refine awp_retP rfl ?_
        refine nx_ret_blk ?_
        exact ⟨rfl, by simp (disch := omega) only [up_app, nat_ne, if_true, if_false], rfl, cA_nm _⟩
      · skip
        refine awp_drop rfl ?_
        cases h
  · cases hg
theorem oku96 : EntOK Tryd.prog GLh 81 (.heap (mutH chG)) := ⟨⟨_, Tryd.func81, rfl, rfl⟩, ch_ok⟩
end Go.AX

namespace Go.AX
open Go Go.Proofs

structure SDJ where
  k : Nat
  j : Nat
  d : Array T32
  c : Nat
def revG : List AV → List AV → Option (AV × List AV)
  | [.os _ 0 n 1 _, .i a, .i b], xs => obind (unA xs) fun l => guardO (l.length = n ∧ 0 ≤ a ∧ a < b ∧ b ≤ n ∧ n ≤ 1000000) (some (.tup [], cA (Sort.reverseRange l.toArray a.toNat b.toNat)))
  | _, _ => none
theorem revG_eq (id n : Nat) (gg : Bool) (a b : Int) (xs : List AV) : revG [.os id 0 n 1 gg, .i a, .i b] xs = obind (unA xs) fun l => guardO (l.length = n ∧ 0 ≤ a ∧ a < b ∧ b ≤ n ∧ n ≤ 1000000) (some (.tup [], cA (Sort.reverseRange l.toArray a.toNat b.toNat))) := (rfl)
attribute [go_sem] revG_eq
set_option maxHeartbeats 2000000 in
theorem rev_ok : HeapOK Tryd.prog GLh 82 (mutH revG) := by
  refine mut_of_awp Tryd.func82 (bodyOf_some rfl) ?_
  intro id off n e gg rest nx xs r ys hg
  unfold revG at hg
  split at hg
  · rename_i id2 n2 gg2 a0 b0 heq
    simp only [List.cons.injEq, AV.os.injEq] at heq
    obtain ⟨⟨rfl, rfl, rfl, rfl, rfl⟩, rfl⟩ := heq
    replace hg := obind_inv hg; obtain ⟨l, hl, hg⟩ := hg
    replace hg := guardO_inv hg; obtain ⟨⟨hn, ha, hab, hbn, hbig⟩, hg⟩ := hg
    simp only [Option.some.injEq, Prod.mk.injEq] at hg; obtain ⟨rfl, rfl⟩ := hg
    have := unA_inv hl; subst this
    obtain ⟨a, rfl⟩ := Int.eq_ofNat_of_zero_le ha
    obtain ⟨b, rfl⟩ := Int.eq_ofNat_of_zero_le (show 0 ≤ b0 by omega)
    simp only [Int.toNat_natCast] at *
    obtain ⟨d, hd⟩ : ∃ d, l.toArray = d := ⟨_, rfl⟩
    have hds : d.size = n := by rw [← hd]; simpa using hn
    have hab2 : a < b := by omega
    have hbn2 : b ≤ n := by omega
    rw [hd]
    refine ⟨Nat.le_of_ble_eq_true rfl, fun hid => ?_⟩
    clear hl hn ha hab hbn
    obtain ⟨R, hR⟩ : ∃ R, Sort.reverseRange d a b = R := ⟨_, rfl⟩
    have hR0 : Sort.reverseLoop a (b - 1) d = R := hR
    rw [hR]
    clear hR
    have eb : (b : Int) - 1 = ((b - 1 : Nat) : Int) := by omega
    refine awp_seqP rfl ?_
    refine awp_regP (Γ := noEnv) [0, 2, 6] (noEnv_ok _ _) rfl rfl rfl (fun K hK => ?_)
    simp (disch := omega) only [Tryd.f82, go_sem, Nat.reduceAdd, ↓reduceIte]
    refine hK _ ?_
    refine nx_then ?_
    refine awp_seqP rfl ?_
    refine awp_regP (Γ := noEnv) [0, 6, 7] (noEnv_ok _ _) rfl rfl rfl (fun K hK => ?_)
    simp (disch := omega) only [Tryd.f82, go_sem, Nat.reduceAdd, ↓reduceIte, eb]
    refine hK _ ?_
    refine nx_then ?_
    refine awp_blockN 0 rfl rfl ?_
    refine awp_loopP (fun p : SDJ => { fr := [(0, .os id 0 n 1 gg), (6, .i p.k), (7, .i p.j)], hp := upd (fun _ => none) id (.cells (cA p.d) true), nx := 0, cx := p.c }) (fun p => Sort.reverseLoop p.k p.j p.d = R ∧ p.d.size = n ∧ p.j < n ∧ id < p.c) (fun p => p.j - p.k) rfl ⟨⟨a, b - 1, d, _⟩, ⟨hR0, hds, by simp only; omega, by simp only; omega⟩, sub_same rfl rfl (Nat.le_refl _)⟩ ?_
    rintro ⟨k, j, d1, c⟩ ⟨hr1, hs1, hj, hc⟩ n0
    simp only at hr1 hs1 hj hc ⊢
    refine awp_seqP rfl ?_
    refine awp_seqP rfl ?_
    refine awp_regP (Γ := noEnv) [13, 0, 6, 7] (noEnv_ok _ _) rfl rfl rfl (fun K hK => ?_)
    simp (disch := omega) only [Tryd.f82, go_sem, Nat.reduceAdd, ↓reduceIte]
    refine hK _ ?_
    refine nx_then ?_
    refine awp_ifD (.tmp 13) rfl rfl rfl (fun h => ?_) (fun h => ?_)
    · skip
      refine awp_drop rfl ?_
      have hkj : k < j := by omega
      rw [Sort.reverseLoop, if_pos hkj] at hr1
      have hkn : k < n := by omega
      have hsw : (d1.setIfInBounds k d1[j]!).setIfInBounds j d1[k]! = Sort.swp d1 k j := rfl
      have ej : (j : Int) - 1 = ((j - 1 : Nat) : Int) := by omega
      refine awp_skipP rfl ?_
      refine nx_then ?_
      refine awp_blockN 1 rfl rfl ?_
      refine awp_seqP rfl ?_
      refine awp_drwP (Γ := noEnv) (fun _ => 2) [0, 6, 7] mixed (noEnv_ok _ _) rfl rfl rfl (by kernel_rfl) (fun K hK => ?_)
      simp (disch := omega) only [Tryd.f82, go_sem, Nat.reduceAdd, ↓reduceIte, hsw, Int.toNat_natCast]
      refine hK _ ?_
      refine nx_then ?_
      refine awp_seqP rfl ?_
      refine awp_regP (Γ := noEnv) [0, 6, 7] (noEnv_ok _ _) rfl rfl rfl (fun K hK => ?_)
      simp (disch := omega) only [Tryd.f82, go_sem, Nat.reduceAdd, ↓reduceIte]
      refine hK _ ?_
      refine nx_then ?_
      refine awp_regP (Γ := noEnv) [0, 6, 7] (noEnv_ok _ _) rfl rfl rfl (fun K hK => ?_)
      simp (disch := omega) only [Tryd.f82, go_sem, Nat.reduceAdd, ↓reduceIte, ej]
      refine hK _ ?_
      refine nx_blk (nx_loop ?_)
      refine ⟨⟨k + 1, j - 1, Sort.swp d1 k j, _⟩, ⟨hr1, by simp only [swp_size]; exact hs1, by simp only; omega, by simp only; omega⟩, by simp only; omega, ⟨fun _ => .inr (by simp only [Int.natCast_add, Int.natCast_one]), hsub_cons (by simp (disch := omega) only [up_app, ↓reduceIte, eq_self]) hsub_nil, Nat.le_refl _⟩⟩
    · skip
      refine awp_drop rfl ?_
      refine awp_exitN 0 rfl rfl ?_
      refine nx_ex_then (nx_ex_loop (nx_ex_blk ?_))
      have hkj : ¬ k < j := by omega
      rw [Sort.reverseLoop, if_neg hkj] at hr1
      subst hr1
      exact ⟨rfl, by simp only [up_app, if_true], rfl, cA_nm _⟩
  · cases hg
theorem oku97 : EntOK Tryd.prog GLh 82 (.heap (mutH revG)) := ⟨⟨_, Tryd.func82, rfl, rfl⟩, rev_ok⟩

def one64 : List AV → Option (BitVec 64)
  | [.w64 s] => some s
  | _ => none
theorem one64_eq (s : BitVec 64) : one64 [.w64 s] = some s := (rfl)
theorem one64_inv {xs : List AV} {s : BitVec 64} (h : one64 xs = some s) : xs = [.w64 s] := by
  unfold one64 at h
  split at h
  · obtain rfl := Option.some.inj h; rfl
  · cases h
def xs64 (x : BitVec 64) : BitVec 64 := (Sort.xorNext (.ofBitVec x)).toBitVec
def nxtH : List AV → H → Nat → Option (AV × H × Nat)
  | [.op q 0], hp, nx => obind (hp q) fun o2 => obind (rowO o2) fun ys => obind (one64 ys) fun s => some (.w64 (xs64 s), upd hp q (.cells [.w64 (xs64 s)] true), nx + 60)
  | _, _, _ => none
theorem nxtH_eq (q : Nat) (hp : H) (nx : Nat) : nxtH [.op q 0] hp nx = obind (hp q) fun o2 => obind (rowO o2) fun ys => obind (one64 ys) fun s => some (.w64 (xs64 s), upd hp q (.cells [.w64 (xs64 s)] true), nx + 60) := (rfl)
attribute [go_sem] nxtH_eq one64_eq
set_option maxHeartbeats 1000000 in
theorem nxt_ok : HeapOK Tryd.prog GLh 93 nxtH := by
  refine heap_of_awp Tryd.func93 (bodyOf_some rfl) ?_
  intro args hp nx r hp' nx' hg
  unfold nxtH at hg
  split at hg
  · rename_i hp0 nx0 q
    replace hg := obind_inv hg; obtain ⟨o2, ho2, hg⟩ := hg
    replace hg := obind_inv hg; obtain ⟨ys, hys, hg⟩ := hg
    obtain rfl := rowO_inv hys
    replace hg := obind_inv hg; obtain ⟨s0, hs0, hg⟩ := hg
    obtain rfl := one64_inv hs0
    simp only [Option.some.injEq, Prod.mk.injEq] at hg; obtain ⟨rfl, rfl, rfl⟩ := hg
    refine ⟨Nat.le_of_ble_eq_true rfl, by omega, fun hnone => ?_⟩
    have hqn : q < nx := by
      apply Classical.byContradiction; intro hc; rw [hnone q (by omega)] at ho2; cases ho2
    refine awp_seqP rfl ?_
    refine awp_regP (Γ := noEnv) [0] (noEnv_ok _ _) rfl rfl rfl (fun K hK => ?_)
    simp (disch := omega) only [Tryd.f93, go_sem, Int.reduceLE, Int.reduceLT, BitVec.reduceOfInt, ↓reduceIte]
    refine hK _ ?_
    refine nx_then ?_
    refine awp_seqP rfl ?_
    refine awp_drwP (Γ := noEnv) (fun _ => 2) [0] mixed (noEnv_ok _ _) rfl rfl rfl (by kernel_rfl) (fun K hK => ?_)
    simp (disch := omega) only [Tryd.f93, go_sem, Nat.reduceAdd, Nat.reduceLeDiff, Int.reduceLE, Int.reduceLT, BitVec.reduceOfInt, BitVec.reduceToNat, ↓reduceIte, ho2]
    refine hK _ ?_
    refine nx_then ?_
    refine awp_seqP rfl ?_
    refine awp_drwP (Γ := noEnv) (fun _ => 2) [0] mixed (noEnv_ok _ _) rfl rfl rfl (by kernel_rfl) (fun K hK => ?_)
    simp (disch := omega) only [Tryd.f93, go_sem, Nat.reduceAdd, Nat.reduceLeDiff, Int.reduceLE, Int.reduceLT, BitVec.reduceOfInt, BitVec.reduceToNat, ↓reduceIte]
    refine hK _ ?_
    refine nx_then ?_
    refine awp_seqP rfl ?_
    refine awp_drwP (Γ := noEnv) (fun _ => 2) [0] mixed (noEnv_ok _ _) rfl rfl rfl (by kernel_rfl) (fun K hK => ?_)
    simp (disch := omega) only [Tryd.f93, go_sem, Nat.reduceAdd, Nat.reduceLeDiff, Int.reduceLE, Int.reduceLT, BitVec.reduceOfInt, BitVec.reduceToNat, ↓reduceIte]
    refine hK _ ?_
    refine nx_then ?_
    refine awp_seqP rfl ?_
    refine awp_regP (Γ := noEnv) [2] (noEnv_ok _ _) rfl rfl rfl (fun K hK => ?_)
    simp (disch := omega) only [Tryd.f93, go_sem, Nat.reduceAdd, ↓reduceIte]
    refine hK _ ?_
    refine nx_then ?_
    refine awp_retP rfl ?_
    refine ⟨rfl, hsub_up (by simp only [up_app, if_true]; rfl) (fun j hj => by simp only [up_app, if_neg hj]), by simp only; omega⟩
  · cases hg
theorem oku106 : EntOK Tryd.prog GLh 93 (.heap nxtH) := ⟨⟨_, Tryd.func93, rfl, rfl⟩, nxt_ok⟩

def L8 : List B8 := [0#8, 1#8, 2#8, 2#8, 3#8, 3#8, 3#8, 3#8, 4#8, 4#8, 4#8, 4#8, 4#8, 4#8, 4#8, 4#8, 5#8, 5#8, 5#8, 5#8, 5#8, 5#8, 5#8, 5#8, 5#8, 5#8, 5#8, 5#8, 5#8, 5#8, 5#8, 5#8, 6#8, 6#8, 6#8, 6#8, 6#8, 6#8, 6#8, 6#8, 6#8, 6#8, 6#8, 6#8, 6#8, 6#8, 6#8, 6#8, 6#8, 6#8, 6#8, 6#8, 6#8, 6#8, 6#8, 6#8, 6#8, 6#8, 6#8, 6#8, 6#8, 6#8, 6#8, 6#8, 7#8, 7#8, 7#8, 7#8, 7#8, 7#8, 7#8, 7#8, 7#8, 7#8, 7#8, 7#8, 7#8, 7#8, 7#8, 7#8, 7#8, 7#8, 7#8, 7#8, 7#8, 7#8, 7#8, 7#8, 7#8, 7#8, 7#8, 7#8, 7#8, 7#8, 7#8, 7#8, 7#8, 7#8, 7#8, 7#8, 7#8, 7#8, 7#8, 7#8, 7#8, 7#8, 7#8, 7#8, 7#8, 7#8, 7#8, 7#8, 7#8, 7#8, 7#8, 7#8, 7#8, 7#8, 7#8, 7#8, 7#8, 7#8, 7#8, 7#8, 7#8, 7#8, 7#8, 7#8, 8#8, 8#8, 8#8, 8#8, 8#8, 8#8, 8#8, 8#8, 8#8, 8#8, 8#8, 8#8, 8#8, 8#8, 8#8, 8#8, 8#8, 8#8, 8#8, 8#8, 8#8, 8#8, 8#8, 8#8, 8#8, 8#8, 8#8, 8#8, 8#8, 8#8, 8#8, 8#8, 8#8, 8#8, 8#8, 8#8, 8#8, 8#8, 8#8, 8#8, 8#8, 8#8, 8#8, 8#8, 8#8, 8#8, 8#8, 8#8, 8#8, 8#8, 8#8, 8#8, 8#8, 8#8, 8#8, 8#8, 8#8, 8#8, 8#8, 8#8, 8#8, 8#8, 8#8, 8#8, 8#8, 8#8, 8#8, 8#8, 8#8, 8#8, 8#8, 8#8, 8#8, 8#8, 8#8, 8#8, 8#8, 8#8, 8#8, 8#8, 8#8, 8#8, 8#8, 8#8, 8#8, 8#8, 8#8, 8#8, 8#8, 8#8, 8#8, 8#8, 8#8, 8#8, 8#8, 8#8, 8#8, 8#8, 8#8, 8#8, 8#8, 8#8, 8#8, 8#8, 8#8, 8#8, 8#8, 8#8, 8#8, 8#8, 8#8, 8#8, 8#8, 8#8, 8#8, 8#8, 8#8, 8#8, 8#8, 8#8, 8#8, 8#8, 8#8, 8#8, 8#8, 8#8, 8#8, 8#8]
set_option maxRecDepth 10000 in
theorem L8_s : ofV (Value.string ⟨((([0, 1, 2, 2, 3, 3, 3, 3, 4, 4, 4, 4, 4, 4, 4, 4, 5, 5, 5, 5, 5, 5, 5, 5, 5, 5, 5, 5, 5, 5, 5, 5, 6, 6, 6, 6, 6, 6, 6, 6, 6, 6, 6, 6, 6, 6, 6, 6, 6, 6, 6, 6, 6, 6, 6, 6, 6, 6, 6, 6, 6, 6, 6, 6] : List UInt8).append [7, 7, 7, 7, 7, 7, 7, 7, 7, 7, 7, 7, 7, 7, 7, 7, 7, 7, 7, 7, 7, 7, 7, 7, 7, 7, 7, 7, 7, 7, 7, 7, 7, 7, 7, 7, 7, 7, 7, 7, 7, 7, 7, 7, 7, 7, 7, 7, 7, 7, 7, 7, 7, 7, 7, 7, 7, 7, 7, 7, 7, 7, 7, 7]).append (([8, 8, 8, 8, 8, 8, 8, 8, 8, 8, 8, 8, 8, 8, 8, 8, 8, 8, 8, 8, 8, 8, 8, 8, 8, 8, 8, 8, 8, 8, 8, 8, 8, 8, 8, 8, 8, 8, 8, 8, 8, 8, 8, 8, 8, 8, 8, 8, 8, 8, 8, 8, 8, 8, 8, 8, 8, 8, 8, 8, 8, 8, 8, 8] : List UInt8).append [8, 8, 8, 8, 8, 8, 8, 8, 8, 8, 8, 8, 8, 8, 8, 8, 8, 8, 8, 8, 8, 8, 8, 8, 8, 8, 8, 8, 8, 8, 8, 8, 8, 8, 8, 8, 8, 8, 8, 8, 8, 8, 8, 8, 8, 8, 8, 8, 8, 8, 8, 8, 8, 8, 8, 8, 8, 8, 8, 8, 8, 8, 8, 8])).toArray⟩) = .s L8 := by rfl
theorem L8_all : ∀ k, k < 256 → L8[k]? = some (BitVec.ofNat 8 (Sort.bitsLen k)) := by decide +kernel
theorem L8_at (x : BitVec 64) (h : x.toNat < 256) : L8[(x.setWidth 8).toNat]? = some (BitVec.ofNat 8 (Sort.bitsLen x.toNat)) := by
  rw [BitVec.toNat_setWidth, Nat.mod_eq_of_lt (by omega)]; exact L8_all _ h
theorem bits8 {n : Nat} (h : n < 256) : Sort.bitsLen n ≤ 8 := (Sort.bitsLen_le_iff n 8).2 h
theorem bits8n {n : Nat} (h : n < 256) : (BitVec.ofNat 8 (Sort.bitsLen n)).toNat = Sort.bitsLen n := by have := bits8 h; rw [BitVec.toNat_ofNat]; exact Nat.mod_eq_of_lt (by omega)

theorem bits_shift (n k : Nat) (h : 2 ^ k ≤ n) : Sort.bitsLen n = k + Sort.bitsLen (n >>> k) := by
  have e1 : ∀ j, Sort.bitsLen n ≤ k + j ↔ Sort.bitsLen (n >>> k) ≤ j := fun j => by
    rw [Sort.bitsLen_le_iff, Sort.bitsLen_le_iff, Nat.shiftRight_eq_div_pow, Nat.div_lt_iff_lt_mul (Nat.two_pow_pos k), Nat.pow_add, Nat.mul_comm]
  have h1 : k < Sort.bitsLen n := Nat.lt_of_not_le fun hc => absurd ((Sort.bitsLen_le_iff n k).1 hc) (by omega)
  have h2 := (e1 (Sort.bitsLen n - k)).1 (by omega)
  have h3 := (e1 (Sort.bitsLen (n >>> k))).2 (Nat.le_refl _)
  omega
def blenG : List AV → Option AV
  | [.w64 x] => some (.i (Sort.bitsLen x.toNat))
  | _ => none
theorem blenG_eq (x : BitVec 64) : blenG [.w64 x] = some (.i (Sort.bitsLen x.toNat)) := (rfl)
attribute [go_sem] blenG_eq
set_option maxHeartbeats 1000000 in
theorem len_ok : PureOK Tryd.prog GLh 88 blenG := by
  refine pure_of_awp Tryd.func88 (bodyOf_some rfl) ?_
  intro args r hg
  unfold blenG at hg
  split at hg
  · rename_i x
    obtain rfl := Option.some.inj hg
    refine ⟨Nat.le_of_ble_eq_true rfl, fun nx => ?_⟩
    clear hg
    refine awp_seqP rfl ?_
    refine awp_regP (Γ := noEnv) [0, 2] (noEnv_ok _ _) rfl rfl rfl (fun K hK => ?_)
    simp (disch := omega) only [Tryd.f88, go_sem, ↓reduceIte]
    refine hK _ ?_
    refine nx_then ?_
    refine awp_seqP rfl ?_
    refine awp_seqP rfl ?_
    refine awp_regP (Γ := noEnv) [4, 0, 2] (noEnv_ok _ _) rfl rfl rfl (fun K hK => ?_)
    simp (disch := omega) only [Tryd.f88, go_sem, Nat.reduceAdd, Int.reduceLE, Int.reduceLT, BitVec.reduceOfInt, ↓reduceIte]
    refine hK _ ?_
    refine nx_then ?_
    refine awp_ifD (.tmp 4) rfl rfl rfl (fun h => ?_) (fun h => ?_)
    · skip
      refine awp_drop rfl ?_
      have hk0 := bits_shift (x).toNat 32 (by have := BitVec.le_def.1 h; exact this)
      rw [← BitVec.toNat_ushiftRight] at hk0
      refine awp_seqP rfl ?_
      refine awp_regP (Γ := noEnv) [0] (noEnv_ok _ _) rfl rfl rfl (fun K hK => ?_)
      simp (disch := omega) only [Tryd.f88, go_sem, Nat.reduceAdd, Int.reduceLE, Int.reduceLT, BitVec.reduceOfInt, BitVec.reduceToNat, ↓reduceIte]
      refine hK _ ?_
      refine nx_then ?_
      refine awp_regP (Γ := noEnv) [0, 2] (noEnv_ok _ _) rfl rfl rfl (fun K hK => ?_)
      simp (disch := omega) only [Tryd.f88, go_sem, ↓reduceIte]
      refine hK _ ?_
      refine nx_then ?_
      refine awp_seqP rfl ?_
      refine awp_seqP rfl ?_
      refine awp_regP (Γ := noEnv) [8, 0, 2] (noEnv_ok _ _) rfl rfl rfl (fun K hK => ?_)
      simp (disch := omega) only [Tryd.f88, go_sem, Nat.reduceAdd, Int.reduceLE, Int.reduceLT, BitVec.reduceOfInt, ↓reduceIte]
      refine hK _ ?_
      refine nx_then ?_
      refine awp_ifD (.tmp 8) rfl rfl rfl (fun h => ?_) (fun h => ?_)
      · skip
        refine awp_drop rfl ?_
        have hk1 := bits_shift (x >>> 32).toNat 16 (by have := BitVec.le_def.1 h; exact this)
        rw [← BitVec.toNat_ushiftRight] at hk1
        refine awp_seqP rfl ?_
        refine awp_regP (Γ := noEnv) [0, 2] (noEnv_ok _ _) rfl rfl rfl (fun K hK => ?_)
        simp (disch := omega) only [Tryd.f88, go_sem, Nat.reduceAdd, Int.reduceLE, Int.reduceLT, BitVec.reduceOfInt, BitVec.reduceToNat, ↓reduceIte]
        refine hK _ ?_
        refine nx_then ?_
        refine awp_regP (Γ := noEnv) [0, 2] (noEnv_ok _ _) rfl rfl rfl (fun K hK => ?_)
        simp (disch := omega) only [Tryd.f88, go_sem, Nat.reduceAdd, Int.reduceAdd, ↓reduceIte]
        refine hK _ ?_
        refine nx_then ?_
        refine awp_seqP rfl ?_
        refine awp_seqP rfl ?_
        refine awp_regP (Γ := noEnv) [14, 0, 2] (noEnv_ok _ _) rfl rfl rfl (fun K hK => ?_)
        simp (disch := omega) only [Tryd.f88, go_sem, Nat.reduceAdd, Int.reduceLE, Int.reduceLT, BitVec.reduceOfInt, ↓reduceIte]
        refine hK _ ?_
        refine nx_then ?_
        refine awp_ifD (.tmp 14) rfl rfl rfl (fun h => ?_) (fun h => ?_)
        · skip
          refine awp_drop rfl ?_
          have hk2 := bits_shift (x >>> 32 >>> 16).toNat 8 (by have := BitVec.le_def.1 h; exact this)
          rw [← BitVec.toNat_ushiftRight] at hk2
          refine awp_seqP rfl ?_
          refine awp_regP (Γ := noEnv) [0, 2] (noEnv_ok _ _) rfl rfl rfl (fun K hK => ?_)
          simp (disch := omega) only [Tryd.f88, go_sem, Nat.reduceAdd, Int.reduceLE, Int.reduceLT, BitVec.reduceOfInt, BitVec.reduceToNat, ↓reduceIte]
          refine hK _ ?_
          refine nx_then ?_
          refine awp_regP (Γ := noEnv) [0, 2] (noEnv_ok _ _) rfl rfl rfl (fun K hK => ?_)
          simp (disch := omega) only [Tryd.f88, go_sem, Nat.reduceAdd, Int.reduceAdd, ↓reduceIte]
          refine hK _ ?_
          refine nx_then ?_
          have hx256 : (x >>> 32 >>> 16 >>> 8).toNat < 256 := by bv_omega
          have e1 := L8_at (x >>> 32 >>> 16 >>> 8) hx256
          refine awp_seqP rfl ?_
          refine awp_regP (Γ := noEnv) [2] (noEnv_ok _ _) rfl rfl rfl (fun K hK => ?_)
          simp (disch := omega) only [Tryd.f88, go_sem, Nat.reduceAdd, ↓reduceIte, L8_s, e1]
          refine hK _ ?_
          refine nx_then ?_
          refine awp_retP rfl ?_
          simp (disch := omega) only [pureQ, resA, resAL, resA1, Tryd.f88, go_sem, ↓reduceIte]
          have e2 := bits8n hx256
          refine congrArg some (congrArg AV.i ?_)
          omega
        · skip
          refine awp_drop rfl ?_
          refine awp_skipP rfl ?_
          refine nx_then ?_
          refine awp_seqP rfl ?_
          have hx256 : (x >>> 32 >>> 16).toNat < 256 := by bv_omega
          have e1 := L8_at (x >>> 32 >>> 16) hx256
          refine awp_regP (Γ := noEnv) [2] (noEnv_ok _ _) rfl rfl rfl (fun K hK => ?_)
          simp (disch := omega) only [Tryd.f88, go_sem, Nat.reduceAdd, ↓reduceIte, L8_s, e1]
          refine hK _ ?_
          refine nx_then ?_
          refine awp_retP rfl ?_
          simp (disch := omega) only [pureQ, resA, resAL, resA1, Tryd.f88, go_sem, ↓reduceIte]
          have e2 := bits8n hx256
          refine congrArg some (congrArg AV.i ?_)
          omega
      · skip
        refine awp_drop rfl ?_
        refine awp_skipP rfl ?_
        refine nx_then ?_
        refine awp_seqP rfl ?_
        refine awp_seqP rfl ?_
        refine awp_regP (Γ := noEnv) [14, 0, 2] (noEnv_ok _ _) rfl rfl rfl (fun K hK => ?_)
        simp (disch := omega) only [Tryd.f88, go_sem, Nat.reduceAdd, Int.reduceLE, Int.reduceLT, BitVec.reduceOfInt, ↓reduceIte]
        refine hK _ ?_
        refine nx_then ?_
        refine awp_ifD (.tmp 14) rfl rfl rfl (fun h => ?_) (fun h => ?_)
        · skip
          refine awp_drop rfl ?_
          have hk2 := bits_shift (x >>> 32).toNat 8 (by have := BitVec.le_def.1 h; exact this)
          rw [← BitVec.toNat_ushiftRight] at hk2
          refine awp_seqP rfl ?_
          refine awp_regP (Γ := noEnv) [0, 2] (noEnv_ok _ _) rfl rfl rfl (fun K hK => ?_)
          simp (disch := omega) only [Tryd.f88, go_sem, Nat.reduceAdd, Int.reduceLE, Int.reduceLT, BitVec.reduceOfInt, BitVec.reduceToNat, ↓reduceIte]
          refine hK _ ?_
          refine nx_then ?_
          refine awp_regP (Γ := noEnv) [0, 2] (noEnv_ok _ _) rfl rfl rfl (fun K hK => ?_)
          simp (disch := omega) only [Tryd.f88, go_sem, Nat.reduceAdd, Int.reduceAdd, ↓reduceIte]
          refine hK _ ?_
          refine nx_then ?_
          have hx256 : (x >>> 32 >>> 8).toNat < 256 := by bv_omega
          have e1 := L8_at (x >>> 32 >>> 8) hx256
          refine awp_seqP rfl ?_
          refine awp_regP (Γ := noEnv) [2] (noEnv_ok _ _) rfl rfl rfl (fun K hK => ?_)
          simp (disch := omega) only [Tryd.f88, go_sem, Nat.reduceAdd, ↓reduceIte, L8_s, e1]
          refine hK _ ?_
          refine nx_then ?_
          refine awp_retP rfl ?_
          simp (disch := omega) only [pureQ, resA, resAL, resA1, Tryd.f88, go_sem, ↓reduceIte]
          have e2 := bits8n hx256
          refine congrArg some (congrArg AV.i ?_)
          omega
        · skip
          refine awp_drop rfl ?_
          refine awp_skipP rfl ?_
          refine nx_then ?_
          refine awp_seqP rfl ?_
          have hx256 : (x >>> 32).toNat < 256 := by bv_omega
          have e1 := L8_at (x >>> 32) hx256
          refine awp_regP (Γ := noEnv) [2] (noEnv_ok _ _) rfl rfl rfl (fun K hK => ?_)
          simp (disch := omega) only [Tryd.f88, go_sem, Nat.reduceAdd, ↓reduceIte, L8_s, e1]
          refine hK _ ?_
          refine nx_then ?_
          refine awp_retP rfl ?_
          simp (disch := omega) only [pureQ, resA, resAL, resA1, Tryd.f88, go_sem, ↓reduceIte]
          have e2 := bits8n hx256
          refine congrArg some (congrArg AV.i ?_)
          omega
    · skip
      refine awp_drop rfl ?_
      refine awp_skipP rfl ?_
      refine nx_then ?_
      refine awp_seqP rfl ?_
      refine awp_seqP rfl ?_
      refine awp_regP (Γ := noEnv) [8, 0, 2] (noEnv_ok _ _) rfl rfl rfl (fun K hK => ?_)
      simp (disch := omega) only [Tryd.f88, go_sem, Nat.reduceAdd, Int.reduceLE, Int.reduceLT, BitVec.reduceOfInt, ↓reduceIte]
      refine hK _ ?_
      refine nx_then ?_
      refine awp_ifD (.tmp 8) rfl rfl rfl (fun h => ?_) (fun h => ?_)
      · skip
        refine awp_drop rfl ?_
        have hk1 := bits_shift (x).toNat 16 (by have := BitVec.le_def.1 h; exact this)
        rw [← BitVec.toNat_ushiftRight] at hk1
        refine awp_seqP rfl ?_
        refine awp_regP (Γ := noEnv) [0, 2] (noEnv_ok _ _) rfl rfl rfl (fun K hK => ?_)
        simp (disch := omega) only [Tryd.f88, go_sem, Nat.reduceAdd, Int.reduceLE, Int.reduceLT, BitVec.reduceOfInt, BitVec.reduceToNat, ↓reduceIte]
        refine hK _ ?_
        refine nx_then ?_
        refine awp_regP (Γ := noEnv) [0, 2] (noEnv_ok _ _) rfl rfl rfl (fun K hK => ?_)
        simp (disch := omega) only [Tryd.f88, go_sem, Nat.reduceAdd, Int.reduceAdd, ↓reduceIte]
        refine hK _ ?_
        refine nx_then ?_
        refine awp_seqP rfl ?_
        refine awp_seqP rfl ?_
        refine awp_regP (Γ := noEnv) [14, 0, 2] (noEnv_ok _ _) rfl rfl rfl (fun K hK => ?_)
        simp (disch := omega) only [Tryd.f88, go_sem, Nat.reduceAdd, Int.reduceLE, Int.reduceLT, BitVec.reduceOfInt, ↓reduceIte]
        refine hK _ ?_
        refine nx_then ?_
        refine awp_ifD (.tmp 14) rfl rfl rfl (fun h => ?_) (fun h => ?_)
        · skip
          refine awp_drop rfl ?_
          have hk2 := bits_shift (x >>> 16).toNat 8 (by have := BitVec.le_def.1 h; exact this)
          rw [← BitVec.toNat_ushiftRight] at hk2
          refine awp_seqP rfl ?_
          refine awp_regP (Γ := noEnv) [0, 2] (noEnv_ok _ _) rfl rfl rfl (fun K hK => ?_)
          simp (disch := omega) only [Tryd.f88, go_sem, Nat.reduceAdd, Int.reduceLE, Int.reduceLT, BitVec.reduceOfInt, BitVec.reduceToNat, ↓reduceIte]
          refine hK _ ?_
          refine nx_then ?_
          refine awp_regP (Γ := noEnv) [0, 2] (noEnv_ok _ _) rfl rfl rfl (fun K hK => ?_)
          simp (disch := omega) only [Tryd.f88, go_sem, Nat.reduceAdd, Int.reduceAdd, ↓reduceIte]
          refine hK _ ?_
          refine nx_then ?_
          have hx256 : (x >>> 16 >>> 8).toNat < 256 := by bv_omega
          have e1 := L8_at (x >>> 16 >>> 8) hx256
          refine awp_seqP rfl ?_
          refine awp_regP (Γ := noEnv) [2] (noEnv_ok _ _) rfl rfl rfl (fun K hK => ?_)
          simp (disch := omega) only [Tryd.f88, go_sem, Nat.reduceAdd, ↓reduceIte, L8_s, e1]
          refine hK _ ?_
          refine nx_then ?_
          refine awp_retP rfl ?_
          simp (disch := omega) only [pureQ, resA, resAL, resA1, Tryd.f88, go_sem, ↓reduceIte]
          have e2 := bits8n hx256
          refine congrArg some (congrArg AV.i ?_)
          omega
        · skip
          refine awp_drop rfl ?_
          refine awp_skipP rfl ?_
          refine nx_then ?_
          refine awp_seqP rfl ?_
          have hx256 : (x >>> 16).toNat < 256 := by bv_omega
          have e1 := L8_at (x >>> 16) hx256
          refine awp_regP (Γ := noEnv) [2] (noEnv_ok _ _) rfl rfl rfl (fun K hK => ?_)
          simp (disch := omega) only [Tryd.f88, go_sem, Nat.reduceAdd, ↓reduceIte, L8_s, e1]
          refine hK _ ?_
          refine nx_then ?_
          refine awp_retP rfl ?_
          simp (disch := omega) only [pureQ, resA, resAL, resA1, Tryd.f88, go_sem, ↓reduceIte]
          have e2 := bits8n hx256
          refine congrArg some (congrArg AV.i ?_)
          omega
      · skip
        refine awp_drop rfl ?_
        refine awp_skipP rfl ?_
        refine nx_then ?_
        refine awp_seqP rfl ?_
        refine awp_seqP rfl ?_
        refine awp_regP (Γ := noEnv) [14, 0, 2] (noEnv_ok _ _) rfl rfl rfl (fun K hK => ?_)
        simp (disch := omega) only [Tryd.f88, go_sem, Nat.reduceAdd, Int.reduceLE, Int.reduceLT, BitVec.reduceOfInt, ↓reduceIte]
        refine hK _ ?_
        refine nx_then ?_
        refine awp_ifD (.tmp 14) rfl rfl rfl (fun h => ?_) (fun h => ?_)
        · skip
          refine awp_drop rfl ?_
          have hk2 := bits_shift (x).toNat 8 (by have := BitVec.le_def.1 h; exact this)
          rw [← BitVec.toNat_ushiftRight] at hk2
          refine awp_seqP rfl ?_
          refine awp_regP (Γ := noEnv) [0, 2] (noEnv_ok _ _) rfl rfl rfl (fun K hK => ?_)
          simp (disch := omega) only [Tryd.f88, go_sem, Nat.reduceAdd, Int.reduceLE, Int.reduceLT, BitVec.reduceOfInt, BitVec.reduceToNat, ↓reduceIte]
          refine hK _ ?_
          refine nx_then ?_
          refine awp_regP (Γ := noEnv) [0, 2] (noEnv_ok _ _) rfl rfl rfl (fun K hK => ?_)
          simp (disch := omega) only [Tryd.f88, go_sem, Nat.reduceAdd, Int.reduceAdd, ↓reduceIte]
          refine hK _ ?_
          refine nx_then ?_
          have hx256 : (x >>> 8).toNat < 256 := by bv_omega
          have e1 := L8_at (x >>> 8) hx256
          refine awp_seqP rfl ?_
          refine awp_regP (Γ := noEnv) [2] (noEnv_ok _ _) rfl rfl rfl (fun K hK => ?_)
          simp (disch := omega) only [Tryd.f88, go_sem, Nat.reduceAdd, ↓reduceIte, L8_s, e1]
          refine hK _ ?_
          refine nx_then ?_
          refine awp_retP rfl ?_
          simp (disch := omega) only [pureQ, resA, resAL, resA1, Tryd.f88, go_sem, ↓reduceIte]
          have e2 := bits8n hx256
          refine congrArg some (congrArg AV.i ?_)
          omega
        · skip
          refine awp_drop rfl ?_
          refine awp_skipP rfl ?_
          refine nx_then ?_
          refine awp_seqP rfl ?_
          have hx256 : (x).toNat < 256 := by bv_omega
          have e1 := L8_at (x) hx256
          refine awp_regP (Γ := noEnv) [2] (noEnv_ok _ _) rfl rfl rfl (fun K hK => ?_)
          simp (disch := omega) only [Tryd.f88, go_sem, Nat.reduceAdd, ↓reduceIte, L8_s, e1]
          refine hK _ ?_
          refine nx_then ?_
          refine awp_retP rfl ?_
          simp (disch := omega) only [pureQ, resA, resAL, resA1, Tryd.f88, go_sem, ↓reduceIte]
          have e2 := bits8n hx256
          refine congrArg some (congrArg AV.i ?_)
          omega
  · cases hg
theorem oku103 : EntOK Tryd.prog GLh 88 (.pure true blenG) := ⟨⟨_, Tryd.func88, rfl, rfl⟩, len_ok⟩

set_option maxHeartbeats 1000000 in
theorem blen_ok : PureOK Tryd.prog GLh 70 blenG := by
  refine pure_of_awp Tryd.func70 (bodyOf_some rfl) ?_
  intro args r hg
  unfold blenG at hg
  split at hg
  · rename_i x
    obtain rfl := Option.some.inj hg
    refine ⟨Nat.le_of_ble_eq_true rfl, fun nx => ?_⟩
    refine awp_seqP rfl ?_
    refine awp_regP (Γ := noEnv) [0] (noEnv_ok _ _) rfl rfl rfl (fun K hK => ?_)
    simp (disch := omega) only [Tryd.f70, go_sem, ↓reduceIte]
    refine hK _ ?_
    refine nx_then ?_
    refine awp_seqP rfl ?_
    refine awp_ifB _ rfl rfl rfl (fun h => ?_) (fun h => ?_)
    · skip
      cases h
    · skip
      refine awp_skipP rfl ?_
      refine nx_then ?_
      refine awp_seqP rfl ?_
      refine awp_regP (Γ := envL [(88, .pure true blenG)]) [2] (envOK_cons oku103 envOK_nil) rfl rfl rfl (fun K hK => ?_)
      simp (disch := omega) only [Tryd.f70, go_sem, Nat.reduceAdd, ↓reduceIte]
      refine hK _ ?_
      refine nx_then ?_
      refine awp_retP rfl ?_
      simp (disch := omega) only [pureQ, resA, resAL, resA1, Tryd.f70, go_sem, ↓reduceIte]
  · cases hg
theorem oku92 : EntOK Tryd.prog GLh 70 (.pure true blenG) := ⟨⟨_, Tryd.func70, rfl, rfl⟩, blen_ok⟩
def npG : List AV → Option AV
  | [.i n] => guardO (0 ≤ n ∧ n ≤ 1000000) (some (.w64 (1#64 <<< Sort.bitsLen n.toNat)))
  | _ => none
theorem npG_eq (n : Int) : npG [.i n] = guardO (0 ≤ n ∧ n ≤ 1000000) (some (.w64 (1#64 <<< Sort.bitsLen n.toNat))) := (rfl)
attribute [go_sem] npG_eq
theorem bits20 {n : Nat} (h : n ≤ 1000000) : Sort.bitsLen n ≤ 20 := (Sort.bitsLen_le_iff n 20).2 (by omega)
theorem ofI_nat {n : Nat} (h : n ≤ 1000000) : (BitVec.ofInt 64 (n : Int)).toNat = n := by
  rw [BitVec.toNat_ofInt]; omega

set_option maxHeartbeats 1000000 in
theorem np_ok : PureOK Tryd.prog GLh 92 npG := by
  refine pure_of_awp Tryd.func92 (bodyOf_some rfl) ?_
  intro args r hg
  unfold npG at hg
  split at hg
  · rename_i n0
    replace hg := guardO_inv hg; obtain ⟨⟨hn, hbig⟩, hg⟩ := hg
    obtain rfl := Option.some.inj hg
    obtain ⟨n, rfl⟩ := Int.eq_ofNat_of_zero_le hn
    simp only [Int.toNat_natCast] at *
    have hbn : n ≤ 1000000 := by omega
    have h20 := bits20 hbn
    have e1 := ofI_nat hbn
    refine ⟨Nat.le_of_ble_eq_true rfl, fun nx => ?_⟩
    refine awp_seqP rfl ?_
    refine awp_regP (Γ := noEnv) [0] (noEnv_ok _ _) rfl rfl rfl (fun K hK => ?_)
    simp (disch := omega) only [Tryd.f92, go_sem, Int.reduceLE, Int.reduceLT, BitVec.reduceOfInt, ↓reduceIte]
    refine hK _ ?_
    refine nx_then ?_
    refine awp_seqP rfl ?_
    refine awp_regP (Γ := envL [(70, .pure true blenG)]) [2] (envOK_cons oku92 envOK_nil) rfl rfl rfl (fun K hK => ?_)
    simp (disch := omega) only [Tryd.f92, go_sem, Nat.reduceAdd, Int.reduceLE, Int.reduceLT, BitVec.reduceOfInt, ↓reduceIte, e1, Int.toNat_natCast]
    refine hK _ ?_
    refine nx_then ?_
    refine awp_retP rfl ?_
    simp (disch := omega) only [pureQ, resA, resAL, resA1, Tryd.f92, go_sem, ↓reduceIte]
  · cases hg
theorem oku105 : EntOK Tryd.prog GLh 92 (.pure true npG) := ⟨⟨_, Tryd.func92, rfl, rfl⟩, np_ok⟩

def brkL (a len modulus : Nat) : Nat → Nat → UInt64 × Array T32 → Array T32
  | 0, _, st => st.2
  | m + 1, idx, st => brkL a len modulus m (idx + 1) (Sort.breakStep a len modulus st idx)
theorem brk_and (x : BitVec 64) (k : Nat) (h : k ≤ 20) : (x &&& ((1#64 <<< k) - 1#64)).toNat = x.toNat &&& ((1 <<< k) - 1) := by
  have hp : 2 ^ k ≤ 2 ^ 20 := Nat.pow_le_pow_right (by decide) h
  have h0 := Nat.two_pow_pos k
  rw [BitVec.toNat_and]
  congr 1
  rw [BitVec.toNat_sub, BitVec.toNat_shiftLeft, Nat.shiftLeft_eq, Nat.shiftLeft_eq]
  simp only [BitVec.toNat_ofNat, Nat.reduceMod, Nat.reducePow, Nat.one_mul] at hp ⊢
  omega
theorem brk_le (x k n : Nat) (h : 0 < n) (hk : k = Sort.bitsLen n) : x &&& ((1 <<< k) - 1) < 2 * n := by
  have h1 := Nat.and_le_right (n := x) (m := (1 <<< k) - 1)
  have h2 := Sort.two_pow_bitsLen_le h
  have h0 := Nat.two_pow_pos k
  rw [Nat.shiftLeft_eq, Nat.one_mul] at h1 ⊢
  rw [hk] at *
  omega
structure SDR where
  m : Nat
  i : Nat
  r : BitVec 64
  d : Array T32
  c : Nat
def brkG : List AV → List AV → Option (AV × List AV)
  | [.os _ 0 n 1 _, .i a, .i b], xs => obind (unA xs) fun l => guardO (l.length = n ∧ 0 ≤ a ∧ a < b ∧ b ≤ n ∧ n ≤ 1000000) (some (.tup [], cA (Sort.breakPatterns l.toArray a.toNat b.toNat)))
  | _, _ => none
theorem brkG_eq (id n : Nat) (gg : Bool) (a b : Int) (xs : List AV) : brkG [.os id 0 n 1 gg, .i a, .i b] xs = obind (unA xs) fun l => guardO (l.length = n ∧ 0 ≤ a ∧ a < b ∧ b ≤ n ∧ n ≤ 1000000) (some (.tup [], cA (Sort.breakPatterns l.toArray a.toNat b.toNat))) := (rfl)
attribute [go_sem] brkG_eq
set_option maxHeartbeats 2000000 in
theorem brk_ok : HeapOK Tryd.prog GLh 80 (mutH brkG) := by
  refine mut_of_awp Tryd.func80 (bodyOf_some rfl) ?_
  intro id off n e gg rest nx xs r ys hg
  unfold brkG at hg
  split at hg
  · rename_i id2 n2 gg2 a0 b0 heq
    simp only [List.cons.injEq, AV.os.injEq] at heq
    obtain ⟨⟨rfl, rfl, rfl, rfl, rfl⟩, rfl⟩ := heq
    replace hg := obind_inv hg; obtain ⟨l, hl, hg⟩ := hg
    replace hg := guardO_inv hg; obtain ⟨⟨hn, ha, hab, hbn, hbig⟩, hg⟩ := hg
    simp only [Option.some.injEq, Prod.mk.injEq] at hg; obtain ⟨rfl, rfl⟩ := hg
    have := unA_inv hl; subst this
    obtain ⟨a, rfl⟩ := Int.eq_ofNat_of_zero_le ha
    obtain ⟨b, rfl⟩ := Int.eq_ofNat_of_zero_le (show 0 ≤ b0 by omega)
    simp only [Int.toNat_natCast] at *
    obtain ⟨d, hd⟩ : ∃ d, l.toArray = d := ⟨_, rfl⟩
    have hds : d.size = n := by rw [← hd]; simpa using hn
    have hab2 : a < b := by omega
    have hbn2 : b ≤ n := by omega
    rw [hd]
    refine ⟨Nat.le_of_ble_eq_true rfl, fun hid => ?_⟩
    clear hl hn ha hab hbn
    have eq4 : (((b : Int) - (a : Int)).tdiv 4) = (((b - a) / 4 : Nat) : Int) := by rw [Int.tdiv_eq_ediv_of_nonneg (by omega)]; omega
    obtain ⟨L, hL⟩ : ∃ L : Nat, b - a = L := ⟨_, rfl⟩
    obtain ⟨Q, hQ⟩ : ∃ Q : Nat, (b - a) / 4 = Q := ⟨_, rfl⟩
    have ebL : (b : Int) - (a : Int) = (L : Int) := by omega
    rw [ebL, hQ] at eq4
    have hQL : L / 4 = Q := by omega
    have hLb : L ≤ 1000000 := by omega
    have h20 := bits20 hLb
    obtain ⟨R, hR⟩ : ∃ R, Sort.breakPatterns d a b = R := ⟨_, rfl⟩
    rw [hR]
    refine awp_seqP rfl ?_
    refine awp_regP (Γ := noEnv) [0, 1, 6] (noEnv_ok _ _) rfl rfl rfl (fun K hK => ?_)
    simp (disch := omega) only [Tryd.f80, go_sem, Nat.reduceAdd, ↓reduceIte, ebL]
    refine hK _ ?_
    refine nx_then ?_
    refine awp_seqP rfl ?_
    refine awp_regP (Γ := noEnv) [15, 0, 1, 6] (noEnv_ok _ _) rfl rfl rfl (fun K hK => ?_)
    simp (disch := omega) only [Tryd.f80, go_sem, Nat.reduceAdd, ↓reduceIte]
    refine hK _ ?_
    refine nx_then ?_
    refine awp_ifD (.tmp 15) rfl rfl rfl (fun h => ?_) (fun h => ?_)
    · skip
      refine awp_drop rfl ?_
      have hL8 : L ≥ 8 := by omega
      have hR2 : brkL a L (1 <<< Sort.bitsLen L) 3 (a + Q * 2 - 1) (UInt64.ofNat L, d) = R := by
        rw [← hR]; unfold Sort.breakPatterns; simp only [hL, hQL, if_pos hL8]; rfl
      have ei : (a : Int) + (Q : Int) * 2 - 1 = ((a + Q * 2 - 1 : Nat) : Int) := by omega
      obtain ⟨i0, hi0⟩ : ∃ i0, a + Q * 2 - 1 = i0 := ⟨_, rfl⟩
      rw [hi0] at hR2 ei
      have ej : (a : Int) + (Q : Int) * 2 + 1 = ((i0 + 2 : Nat) : Int) := by omega
      refine awp_seqP rfl ?_
      refine awp_regP (Γ := noEnv) [0, 1, 6, 7] (noEnv_ok _ _) rfl rfl rfl (fun K hK => ?_)
      simp (disch := omega) only [Tryd.f80, go_sem, Nat.reduceAdd, Nat.reduceLeDiff, ↓reduceIte]
      refine hK _ ?_
      refine nx_then ?_
      refine awp_seqP rfl ?_
      refine awp_regP (Γ := envL [(92, .pure true npG)]) [0, 1, 6, 7, 8] (envOK_cons oku105 envOK_nil) rfl rfl rfl (fun K hK => ?_)
      simp (disch := omega) only [Tryd.f80, go_sem, Nat.reduceAdd, ↓reduceIte, Int.toNat_natCast]
      refine hK _ ?_
      refine nx_then ?_
      refine awp_seqP rfl ?_
      refine awp_regP (Γ := noEnv) [0, 1, 6, 7, 8, 9] (noEnv_ok _ _) rfl rfl rfl (fun K hK => ?_)
      simp (disch := omega) only [Tryd.f80, go_sem, Nat.reduceAdd, Int.reduceEq, ↓reduceIte, eq4, ei]
      refine hK _ ?_
      refine nx_then ?_
      obtain ⟨q, hq⟩ : ∃ q, nx + 4 + 2 + 2 = q := ⟨_, rfl⟩
      have hqid : id < q := by omega
      rw [hq]
      refine awp_blockN 0 rfl rfl ?_
      refine awp_loopP (fun p : SDR => { fr := [(0, .os id 0 n 1 gg), (1, .i a), (6, .i L), (7, .op q 0), (8, .w64 (1#64 <<< Sort.bitsLen L)), (9, .i p.i)], hp := upd (upd (fun _ => none) id (.cells (cA p.d) true)) q (.cells [.w64 p.r] true), nx := 0, cx := p.c }) (fun p => brkL a L (1 <<< Sort.bitsLen L) p.m p.i (.ofBitVec p.r, p.d) = R ∧ p.d.size = n ∧ p.m + p.i = i0 + 3 ∧ i0 ≤ p.i ∧ q < p.c) (fun p => p.m) rfl ⟨⟨3, i0, BitVec.ofInt 64 (L : Int), d, _⟩, ⟨by rw [← hR2]; simp only; rw [BitVec.ofInt_natCast]; rfl, hds, by simp only; omega, by simp only; omega, by simp only; omega⟩, sub_same rfl rfl (Nat.le_refl _)⟩ ?_
      rintro ⟨m, i, r, d1, c⟩ ⟨hr1, hs1, hm, hi, hc⟩ n0
      simp only at hr1 hs1 hm hi hc ⊢
      have eqq : (a : Int) + ((L : Int).tdiv 4) * 2 + 1 = ((i0 + 2 : Nat) : Int) := by rw [eq4]; exact ej
      refine awp_seqP rfl ?_
      refine awp_seqP rfl ?_
      refine awp_regP (Γ := noEnv) [33, 0, 1, 6, 7, 8, 9] (noEnv_ok _ _) rfl rfl rfl (fun K hK => ?_)
      simp (disch := omega) only [Tryd.f80, go_sem, Nat.reduceAdd, Int.reduceEq, ↓reduceIte, eq4, ej]
      refine hK _ ?_
      refine nx_then ?_
      refine awp_ifD (.tmp 33) rfl rfl rfl (fun h => ?_) (fun h => ?_)
      · skip
        refine awp_drop rfl ?_
        obtain ⟨m, rfl⟩ : ∃ m', m = m' + 1 := ⟨m - 1, by omega⟩
        rw [brkL] at hr1
        obtain ⟨o, ho⟩ : ∃ o, (xs64 r).toNat &&& ((1 <<< Sort.bitsLen L) - 1) = o := ⟨_, rfl⟩
        have ho2 : o < 2 * L := by rw [← ho]; exact brk_le _ _ _ (by omega) rfl
        have hst : Sort.breakStep a L (1 <<< Sort.bitsLen L) (UInt64.ofBitVec r, d1) i = (.ofBitVec (xs64 r), Sort.swp d1 i (a + if o ≥ L then o - L else o)) := by
          rw [← ho]; rfl
        rw [hst] at hr1
        have hin : i < n := by omega
        have eand : (xs64 r &&& (1#64 <<< Sort.bitsLen L - 1#64)).toNat = o := by rw [brk_and _ _ h20]; exact ho
        refine awp_skipP rfl ?_
        refine nx_then ?_
        refine awp_seqP rfl ?_
        refine awp_blockN 1 rfl rfl ?_
        refine awp_seqP rfl ?_
        refine awp_regP (Γ := envL [(93, .heap nxtH)]) [0, 1, 6, 7, 8, 9, 10] (envOK_cons oku106 envOK_nil) rfl rfl rfl (fun K hK => ?_)
        simp (disch := omega) only [Tryd.f80, go_sem, Nat.reduceAdd, Int.reduceLE, Int.reduceLT, BitVec.reduceOfInt, ↓reduceIte, eand]
        refine hK _ ?_
        refine nx_then ?_
        refine awp_seqP rfl ?_
        refine awp_seqP rfl ?_
        refine awp_regP (Γ := noEnv) [43, 0, 1, 6, 7, 8, 9, 10] (noEnv_ok _ _) rfl rfl rfl (fun K hK => ?_)
        simp (disch := omega) only [Tryd.f80, go_sem, Nat.reduceAdd, ↓reduceIte]
        refine hK _ ?_
        refine nx_then ?_
        refine awp_ifD (.tmp 43) rfl rfl rfl (fun h => ?_) (fun h => ?_)
        · skip
          refine awp_drop rfl ?_
          have hoL : o ≥ L := by omega
          rw [if_pos hoL] at hr1
          have eo : (o : Int) - (L : Int) = ((o - L : Nat) : Int) := by omega
          refine awp_regP (Γ := noEnv) [0, 1, 6, 7, 8, 9, 10] (noEnv_ok _ _) rfl rfl rfl (fun K hK => ?_)
          simp (disch := omega) only [Tryd.f80, go_sem, Nat.reduceAdd, ↓reduceIte, eo]
          refine hK _ ?_
          refine nx_then ?_
          obtain ⟨w, hw⟩ : ∃ w, a + (o - L) = w := ⟨_, rfl⟩
          have ew : (a : Int) + ((o - L : Nat) : Int) = (w : Int) := by omega
          have hwn : w < n := by omega
          rw [hw] at hr1
          have hsw : (d1.setIfInBounds i d1[w]!).setIfInBounds w d1[i]! = Sort.swp d1 i w := rfl
          refine awp_drwP (Γ := noEnv) (fun _ => 2) [0, 1, 6, 7, 8, 9] mixed (noEnv_ok _ _) rfl rfl rfl (by kernel_rfl) (fun K hK => ?_)
          simp (disch := omega) only [Tryd.f80, go_sem, Nat.reduceAdd, ↓reduceIte, ew, hsw, Int.toNat_natCast]
          refine hK _ ?_
          refine nx_blk (nx_then ?_)
          refine awp_regP (Γ := noEnv) [0, 1, 6, 7, 8, 9] (noEnv_ok _ _) rfl rfl rfl (fun K hK => ?_)
          simp (disch := omega) only [Tryd.f80, go_sem, Nat.reduceAdd, ↓reduceIte]
          refine hK _ ?_
          refine nx_loop ?_
          refine ⟨⟨m, i + 1, xs64 r, Sort.swp d1 i w, _⟩, ⟨hr1, by simp only [swp_size]; exact hs1, by simp only; omega, by simp only; omega, by simp only; omega⟩, by simp only; omega, ⟨fun _ => .inr (by simp only [Int.natCast_add, Int.natCast_one]), hsub_cons (by simp (disch := omega) only [up_app, nat_ne, ↓reduceIte, eq_self]) (hsub_cons (by simp (disch := omega) only [up_app, ↓reduceIte, eq_self]) hsub_nil), Nat.le_refl _⟩⟩
        · skip
          refine awp_drop rfl ?_
          have hoL : ¬ o ≥ L := by omega
          rw [if_neg hoL] at hr1
          refine awp_skipP rfl ?_
          refine nx_then ?_
          obtain ⟨w, hw⟩ : ∃ w, a + o = w := ⟨_, rfl⟩
          have ew : (a : Int) + (o : Int) = (w : Int) := by omega
          have hwn : w < n := by omega
          rw [hw] at hr1
          have hsw : (d1.setIfInBounds i d1[w]!).setIfInBounds w d1[i]! = Sort.swp d1 i w := rfl
          refine awp_drwP (Γ := noEnv) (fun _ => 2) [0, 1, 6, 7, 8, 9] mixed (noEnv_ok _ _) rfl rfl rfl (by kernel_rfl) (fun K hK => ?_)
          simp (disch := omega) only [Tryd.f80, go_sem, Nat.reduceAdd, ↓reduceIte, ew, hsw, Int.toNat_natCast]
          refine hK _ ?_
          refine nx_blk (nx_then ?_)
          refine awp_regP (Γ := noEnv) [0, 1, 6, 7, 8, 9] (noEnv_ok _ _) rfl rfl rfl (fun K hK => ?_)
          simp (disch := omega) only [Tryd.f80, go_sem, Nat.reduceAdd, ↓reduceIte]
          refine hK _ ?_
          refine nx_loop ?_
          refine ⟨⟨m, i + 1, xs64 r, Sort.swp d1 i w, _⟩, ⟨hr1, by simp only [swp_size]; exact hs1, by simp only; omega, by simp only; omega, by simp only; omega⟩, by simp only; omega, ⟨fun _ => .inr (by simp only [Int.natCast_add, Int.natCast_one]), hsub_cons (by simp (disch := omega) only [up_app, nat_ne, ↓reduceIte, eq_self]) (hsub_cons (by simp (disch := omega) only [up_app, ↓reduceIte, eq_self]) hsub_nil), Nat.le_refl _⟩⟩
      · skip
        refine awp_drop rfl ?_
        refine awp_exitN 0 rfl rfl ?_
        refine nx_ex_then (nx_ex_loop (nx_ex_blk ?_))
        obtain rfl : m = 0 := by omega
        rw [brkL] at hr1
        simp only at hr1
        subst hr1
        exact ⟨rfl, by simp (disch := omega) only [up_app, nat_ne, if_true, if_false], rfl, cA_nm _⟩
    · skip
      refine awp_drop rfl ?_
      have hL8 : ¬ L ≥ 8 := by omega
      refine awp_skipP rfl ?_
      have hR2 : d = R := by rw [← hR]; unfold Sort.breakPatterns; simp only [hL, if_neg hL8]
      subst hR2
      exact ⟨rfl, by simp only [up_app, if_true], rfl, cA_nm _⟩
  · cases hg
theorem oku95 : EntOK Tryd.prog GLh 80 (.heap (mutH brkG)) := ⟨⟨_, Tryd.func80, rfl, rfl⟩, brk_ok⟩
end Go.AX
