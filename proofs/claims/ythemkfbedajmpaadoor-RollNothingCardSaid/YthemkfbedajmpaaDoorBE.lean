/-
  Tree, part C: scopes and labels; nil slices in own objects; trees as values; nodes, roots, leaves. Tree, part D: a tree is made. Tree, part E: the reference's nodes and root. Tree, part F: a tree signs; which leaf signed. Tree, part G: which leaf signed; signatures verified, as the program and the reference do it. Tree, part H: a signature verifies; what the statements of layer 8 ask ahead of all, in plain numbers. Keys, part A: what a ring is in memory. Keys, part B: settings; a DNSKEY's bytes; a new ring. Keys, part C: how many leaves are left; keys made; leaves passed over. Keys, part D: a key's tree. Keys, part E: a key signs; its DNSKEY. Keys, part F: a key's DNSKEY. Sort, part A: rows of numbers of 32 bits, as the sort's plain text has them. Sort, part B: comparing, sorting by insertion, at numbers of 32 bits. Sort, part C: the heap's sort, at numbers of 32 bits. Sort, part D: choosing a pivot, at numbers of 32 bits. Sort, part E: turning a range about, breaking patterns, at numbers of 32 bits.
-/
import Derived.Test.YthemkfbedajmpaaDoorBD
import Derived.Scope
import Derived.Sort.AssemblyPlain
namespace Go.AX
open Go Go.Proofs
section
variable {P : Program} {GL : Nat → Option (List AV)} {nt : Nat} {code : Code} {Q : Exit → S → Prop} {s t : S}
end
def upL (a b : List B8) : List B8 := jD 4#8 [a, b]
theorem upL_len (a b : List B8) : (upL a b).length = 8 := jG _ _
def iR (seed : List B8) : Nat → Nat → List B8
 | 0, i => publicL seed (BitVec.ofNat 32 i)
 | j + 1, i => upL (iR seed j (2 * i)) (iR seed j (2 * i + 1))
theorem iW (seed : List B8) (j i : Nat) : (iR seed j i).length = 8 := by
 cases j with
 | zero => exact publicL_len _ _
 | succ j => exact upL_len _ _
def levL (seed : List B8) (h j : Nat) : List B8 := fl (iR seed j) (2 ^ (h - j))
theorem levL_len (seed : List B8) (h j : Nat) : (levL seed h j).length = 8 * 2 ^ (h - j) := fl_len _ 8 (iW seed j) _
def lvS (seed : List B8) (h : Nat) : Nat → List AV
 | 0 => []
 | n + 1 => lvS seed h n ++ [.sl (2 ^ (h - n)) (c8 (levL seed h n))]
theorem lvS_len (seed : List B8) (h n : Nat) : (lvS seed h n).length = n := by
 induction n with
 | zero => rfl
 | succ n ih => rw [lvS, List.length_append, ih]; rfl
theorem lvS_at (seed : List B8) (h n j : Nat) (hj : j < n) : (lvS seed h n)[j]? = some (.sl (2 ^ (h - j)) (c8 (levL seed h j))) := by
 induction n with
 | zero => omega
 | succ n ih =>
  rw [lvS]
  by_cases e : j < n
  ·rw [List.getElem?_append_left (by rw [lvS_len]; exact e)]; exact ih e
  ·obtain rfl : j = n := by omega
   rw [List.getElem?_append_right (by rw [lvS_len]; exact Nat.le_refl _), lvS_len, Nat.sub_self]; rfl
theorem lvS_head (seed : List B8) (h n j : Nat) (hj : j < n) : ((lvS seed h n).drop j).head? = some (.sl (2 ^ (h - j)) (c8 (levL seed h j))) := by
 rw [List.head?_drop]; exact lvS_at seed h n j hj
theorem lvS_noOwn (seed : List B8) (h n : Nat) : dB (lvS seed h n) = true := by
 induction n with
 | zero => rfl
 | succ n ih => rw [lvS]; simp only [dB, List.all_append, Bool.and_eq_true]; exact ⟨ih, rfl⟩
theorem lvS_noOs (seed : List B8) (h n : Nat) : gH (lvS seed h n) = true := by
 induction n with
 | zero => rfl
 | succ n ih =>
  rw [lvS]
  simp (failIfUnchanged := false) only [gH, Bool.not_eq_true', List.any_append, Bool.or_eq_false_iff] at ih ⊢
  exact ⟨ih, rfl⟩
def trC (seed : List B8) (h : Nat) : List AV := c8 seed ++ [.sl (h + 1) (lvS seed h (h + 1))]
theorem c8_inj {a b : List B8} (h : c8 a = c8 b) : a = b := by
 have := congrArg cI h
 rw [iA, iA] at this
 exact Option.some.inj this
theorem trC_drop (seed : List B8) (h : Nat) (hs : seed.length = 8) : (trC seed h).drop 8 = [.sl (h + 1) (lvS seed h (h + 1))] := by
 rw [trC, List.drop_append, List.drop_of_length_le (by rw [iM]; omega), iM, hs]; rfl
theorem trC_take (seed : List B8) (h : Nat) (hs : seed.length = 8) : (trC seed h).take 8 = c8 seed := by
 rw [trC, List.take_append_of_le_length (by rw [iM]; omega), List.take_of_length_le (by rw [iM]; omega)]
theorem trC_len (seed : List B8) (h : Nat) (hs : seed.length = 8) : (trC seed h).length = 9 := by
 rw [trC, List.length_append, iM, hs]; rfl
theorem trC_inj {s t : List B8} {h k : Nat} (hs : s.length = 8) (ht : t.length = 8) (e : trC s h = trC t k) : s = t ∧ h = k := by
 have e1 := congrArg (List.take 8) e
 rw [trC_take s h hs, trC_take t k ht] at e1
 have e2 := congrArg (List.drop 8) e
 rw [trC_drop s h hs, trC_drop t k ht] at e2
 simp (failIfUnchanged := false) only [List.cons.injEq, AV.sl.injEq] at e2
 exact ⟨c8_inj e1, by omega⟩
open Classical in
noncomputable def unT (ts : List AV) : Option (List B8 × Nat) :=
 if h : ∃ p : List B8 × Nat, p.1.length = 8 ∧ p.2 ≤ 10 ∧ ts = trC p.1 p.2 then some (Classical.choose h) else none
theorem unT_inv {ts : List AV} {p : List B8 × Nat} (h : unT ts = some p) : p.1.length = 8 ∧ p.2 ≤ 10 ∧ ts = trC p.1 p.2 := by
 unfold unT at h
 split at h
 ·rename_i hx
  have := Classical.choose_spec hx
  rw [Option.some.inj h] at this
  exact this
 ·cases h
theorem unT_trC (seed : List B8) (h : Nat) (hs : seed.length = 8) (hh : h ≤ 10) : unT (trC seed h) = some (seed, h) := by
 have hx : ∃ p : List B8 × Nat, p.1.length = 8 ∧ p.2 ≤ 10 ∧ trC seed h = trC p.1 p.2 := ⟨(seed, h), hs, hh, rfl⟩
 have h1 : unT (trC seed h) = some (Classical.choose hx) := dif_pos hx
 obtain ⟨a1, a2, a3⟩ := Classical.choose_spec hx
 obtain ⟨e1, e2⟩ := trC_inj hs a1 a3
 rw [h1]
 congr 1
 exact Prod.ext e1.symm e2.symm
attribute [go_sem] upL_len iW levL_len lvS_len lvS_head lvS_noOwn lvS_noOs trC_drop trC_len unT_trC
def aboveG : List AV → Option AV
 | [.agg xs, .agg ys] => aK (un8 xs) fun a => aK (un8 ys) fun b => aN (a.length = 8 ∧ b.length = 8) (some (.agg (c8 (upL a b))))
 | _ => none
theorem aboveG_eq (xs ys : List AV) : aboveG [.agg xs, .agg ys] = aK (un8 xs) fun a => aK (un8 ys) fun b => aN (a.length = 8 ∧ b.length = 8) (some (.agg (c8 (upL a b)))) := (rfl)
attribute [go_sem] aboveG_eq
set_option maxHeartbeats 4000000 in
theorem above_ok : cL Tryd.prog GLh 51 aboveG := by
 refine cC Tryd.func51 (aT rfl) ?_
 intro args r hg
 unfold aboveG at hg
 split at hg
 ·rename_i xs ys
  replace hg := aJ hg; obtain ⟨a, hb, hg⟩ := hg
  replace hg := aJ hg; obtain ⟨b, hb2, hg⟩ := hg
  replace hg := aP hg; obtain ⟨⟨ha, hbl⟩, hg⟩ := hg
  obtain rfl := Option.some.inj hg
  have := iX _ hb; subst this
  have := iX _ hb2; subst this
  clear hg hb hb2
  refine ⟨Nat.le_of_ble_eq_true rfl, fun nx => ?_⟩
  have hs := upL_len a b
  have hf : jD 4#8 [a, b] = upL a b := rfl
  refine aA rfl ?_
  refine aC (Γ := aL) [2, 3, 4] (aD _ _) rfl rfl rfl (fun K hK => ?_)
  simp (failIfUnchanged := false) (disch := omega) only [Tryd.f51, go_sem, Nat.reduceAdd, ↓reduceIte]
  refine hK _ ?_
  refine aB ?_
  refine aA rfl ?_
  refine bB (Γ := bC [(67, .pure true shortG)]) (fun k => if k = 3 then 0 else 2) [4] bZ (aH ok24 aO) rfl rfl rfl (by kernel_rfl) (fun K hK => ?_)
  simp (failIfUnchanged := false) (disch := omega) only [Tryd.f51, go_sem, Nat.reduceAdd, Nat.reduceSub, Nat.reduceLeDiff, Nat.reduceLT, Int.reduceLE, Int.reduceLT, Int.reduceToNat, BitVec.reduceOfInt, ↓reduceIte, ha, hbl, hf]
  refine hK _ ?_
  refine aB ?_
  refine aS rfl ?_
  simp (failIfUnchanged := false) (disch := omega) only [cN, bV, bK, bQ, Tryd.f51, go_sem, Nat.reduceLeDiff, ↓reduceIte, ldV, imm_c8, hs]
 ·cases hg
theorem ok79 : bX Tryd.prog GLh 51 (.pure true aboveG) := ⟨⟨_, Tryd.func51, rfl, rfl⟩, above_ok⟩
attribute [go_sem] faF_srp faF_sop ar0 ar1
noncomputable def rootG : List AV → Option AV
 | [.rp ts] => aK (unT ts) fun p => some (.agg (c8 (iR p.1 p.2 0)))
 | _ => none
theorem rootG_eq (ts : List AV) : rootG [.rp ts] = aK (unT ts) fun p => some (.agg (c8 (iR p.1 p.2 0))) := (rfl)
noncomputable def leavesG : List AV → Option AV
 | [.rp ts] => aK (unT ts) fun p => some (.w32 (BitVec.ofNat 32 (2 ^ p.2)))
 | _ => none
theorem leavesG_eq (ts : List AV) : leavesG [.rp ts] = aK (unT ts) fun p => some (.w32 (BitVec.ofNat 32 (2 ^ p.2))) := (rfl)
attribute [go_sem] rootG_eq leavesG_eq
theorem levL_top (seed : List B8) (h : Nat) : levL seed h h = iR seed h 0 := by
 rw [levL, Nat.sub_self]; show fl _ 1 = _; rw [fl, fl]; rfl
set_option maxHeartbeats 4000000 in
theorem root_ok : cL Tryd.prog GLh 31 rootG := by
 refine cC Tryd.func31 (aT rfl) ?_
 intro args r hg
 unfold rootG at hg
 split at hg
 ·rename_i ts
  replace hg := aJ hg; obtain ⟨⟨seed, h⟩, hb, hg⟩ := hg
  obtain rfl := Option.some.inj hg
  obtain ⟨hs, hh, rfl⟩ := unT_inv hb
  simp only at hs hh
  clear hg hb
  refine ⟨Nat.le_of_ble_eq_true rfl, fun nx => ?_⟩
  have hnl := iW seed h 0
  have hlt := levL_top seed h
  refine aA rfl ?_
  refine aC (Γ := aL) [0, 2] (aD _ _) rfl rfl rfl (fun K hK => ?_)
  simp (failIfUnchanged := false) (disch := omega) only [Tryd.f31, go_sem, ↓reduceIte]
  refine hK _ ?_
  refine aB ?_
  have e1 : (((h + 1 : Nat) : Int) - 1).toNat = h := by omega
  refine aA rfl ?_
  refine bB (Γ := aL) (fun k => if k = 11 then 0 else if k = 13 then 0 else 2) [2] bZ (aD _ _) rfl rfl rfl (by kernel_rfl) (fun K hK => ?_)
  simp (failIfUnchanged := false) (disch := omega) only [Tryd.f31, go_sem, Nat.reduceAdd, Nat.reduceLeDiff, Nat.reduceLT, Int.reduceLE, Int.reduceLT, Int.reduceToNat, ↓reduceIte, hlt, e1, Nat.sub_self, Nat.pow_zero, List.head?_cons, Int.cast_ofNat_Int]
  refine hK _ ?_
  refine aB ?_
  refine aS rfl ?_
  simp (failIfUnchanged := false) (disch := omega) only [cN, bV, bK, bQ, Tryd.f31, go_sem, Nat.reduceLeDiff, ↓reduceIte, ldV, imm_c8, hnl]
 ·cases hg
theorem ok52 : bX Tryd.prog GLh 31 (.pure true rootG) := ⟨⟨_, Tryd.func31, rfl, rfl⟩, root_ok⟩
end Go.AX
namespace Go.AX
open Go Go.Proofs
def newR (s : List B8) (h : Int) : AV := if 0 ≤ h ∧ h ≤ 10 then .tup [.rp (trC s h.toNat), .i 0] else .tup [.v (.pointer none), .i 70]
theorem newR_y (s : List B8) (h : Nat) (hh : h ≤ 10) : newR s (h : Int) = .tup [.rp (trC s h), .i 0] := by
 unfold newR; rw [if_pos ⟨by omega, by omega⟩]; rfl
theorem newR_n (s : List B8) (h : Int) (hh : h < 0 ∨ 10 < h) : newR s h = .tup [.v (.pointer none), .i 70] := by
 unfold newR; rw [if_neg (by omega)]
def newG : List AV → Option AV
 | [.agg xs, .i h] => aK (un8 xs) fun s => aN (s.length = 8) (some (newR s h))
 | _ => none
theorem newG_eq (xs : List AV) (h : Int) : newG [.agg xs, .i h] = aK (un8 xs) fun s => aN (s.length = 8) (some (newR s h)) := (rfl)
attribute [go_sem] newG_eq
theorem zc104 : cG Tryd.prog 104 = some (c8 (List.replicate 8 0#8) ++ [.v (.slice none 0 0)]) := by kernel_rfl
theorem tr_bld (seed : List B8) (hs : seed.length = 8) : cK (c8 (List.replicate 8 0#8) ++ [.v (.slice none 0 0)]) 0 (c8 seed) = c8 seed ++ [.v (.slice none 0 0)] := by
 unfold cK
 rw [List.take_zero, List.nil_append, iM, hs]
 rfl
theorem tr_blen (seed : List B8) (hs : seed.length = 8) (x : AV) : (c8 seed ++ [x]).length = 9 := by rw [List.length_append, iM, hs]; rfl
theorem tr_bdrop (seed : List B8) (hs : seed.length = 8) (x : AV) : (c8 seed ++ [x]).drop 8 = [x] := by
 rw [List.drop_append, List.drop_of_length_le (by rw [iM]; omega), iM, hs]; rfl
theorem tr_bset (seed : List B8) (hs : seed.length = 8) (x y : AV) : (c8 seed ++ [x]).set 8 y = c8 seed ++ [y] := by
 rw [List.set_append_right _ _ (by rw [iM]; omega), iM, hs]; rfl
theorem pow_le (h : Nat) (hh : h ≤ 10) : 2 ^ h ≤ 1024 := by
 have : 2 ^ h ≤ 2 ^ 10 := Nat.pow_le_pow_right (by omega) hh
 simpa using this
theorem one_shl (h : Nat) (hh : h ≤ 10) : 1#32 <<< (BitVec.ofInt 64 (h : Int)).toNat = BitVec.ofNat 32 (2 ^ h) := by
 have e : (BitVec.ofInt 64 (h : Int)).toNat = h := by rw [BitVec.toNat_ofInt]; omega
 rw [e]
 apply BitVec.eq_of_toNat_eq
 simp [BitVec.toNat_shiftLeft, Nat.shiftLeft_eq]
theorem w32_lt (a b : Nat) (ha : a < 4294967296) (hb : b < 4294967296) : (BitVec.ofNat 32 a < BitVec.ofNat 32 b) = (a < b) := by
 rw [BitVec.lt_def, BitVec.toNat_ofNat, BitVec.toNat_ofNat, Nat.mod_eq_of_lt ha, Nat.mod_eq_of_lt hb]
theorem w32_suc (a : Nat) : BitVec.ofNat 32 a + 1#32 = BitVec.ofNat 32 (a + 1) := by
 apply BitVec.eq_of_toNat_eq
 simp [BitVec.toNat_add]
theorem no70 : dB [.v (.pointer none), .i 70] = true := (rfl)
theorem spl8 (l : List B8) (h : l.length = 8) : cK (c8 (List.replicate 8 0#8)) 0 (c8 l) = c8 l := by
 unfold cK
 rw [List.take_zero, List.nil_append, iM, h]
 simp [c8]
theorem c8_fl0 (f : Nat → List B8) : c8 (fl f 0) = [] := (rfl)
attribute [go_sem] zc104 bdF_str rep_one spl8 frzRec_os fz1O_c
theorem levL_zero (seed : List B8) (h : Nat) : fl (iR seed 0) (2 ^ h) = levL seed h 0 := by rw [levL, Nat.sub_zero]
theorem lvS_succ (seed : List B8) (h n : Nat) : lvS seed h n ++ [.sl (2 ^ (h - n)) (c8 (levL seed h n))] = lvS seed h (n + 1) := rfl
theorem lev_at (seed : List B8) (h j i : Nat) (hi : i < 2 ^ (h - j)) : ((levL seed h j).drop (i * 8)).take 8 = iR seed j i := by
 rw [Nat.mul_comm, levL]; exact fl_piece _ 8 (iW seed j) _ i hi
theorem node_up (seed : List B8) (j i : Nat) : upL (iR seed j (2 * i)) (iR seed j (2 * i + 1)) = iR seed (j + 1) i := rfl
theorem node0 (seed : List B8) (k : Nat) : publicL seed (BitVec.ofNat 32 k) = iR seed 0 k := rfl
set_option maxHeartbeats 4000000 in
theorem new_ok : cL Tryd.prog GLh 43 newG := by
 refine cC Tryd.func43 (aT rfl) ?_
 intro args r hg
 unfold newG at hg
 split at hg
 ·rename_i xs h0
  replace hg := aJ hg; obtain ⟨seed, hb, hg⟩ := hg
  replace hg := aP hg; obtain ⟨hs, hg⟩ := hg
  obtain rfl := Option.some.inj hg
  have := iX _ hb; subst this
  clear hg hb
  refine ⟨Nat.le_of_ble_eq_true rfl, fun nx => ?_⟩
  refine aA rfl ?_
  refine aC (Γ := aL) [1, 2] (aD _ _) rfl rfl rfl (fun K hK => ?_)
  simp (failIfUnchanged := false) (disch := omega) only [Tryd.f43, go_sem, Nat.reduceAdd, ↓reduceIte]
  refine hK _ ?_
  refine aB ?_
  refine awp_scopeP rfl ?_
  refine aA rfl ?_
  refine aA rfl ?_
  by_cases hneg : h0 < 0
  ·skip
   have hd1 : decide (h0 < 0) = true := decide_eq_true hneg
   have hr := newR_n seed h0 (.inl hneg)
   refine aC (Γ := aL) [16, 1, 2] (aD _ _) rfl rfl rfl (fun K hK => ?_)
   simp (failIfUnchanged := false) (disch := omega) only [Tryd.f43, go_sem, Nat.reduceAdd, ↓reduceIte, hd1]
   refine hK _ ?_
   refine aB ?_
   refine eC (.tmp 16) rfl rfl rfl (fun h => ?_) (fun h => ?_)
   ·skip
    refine aI rfl ?_
    refine aA rfl ?_
    refine aC (Γ := aL) [4, 5] (aD _ _) rfl rfl rfl (fun K hK => ?_)
    simp (failIfUnchanged := false) (disch := omega) only [Tryd.f43, go_sem, Nat.reduceAdd, ↓reduceIte]
    refine hK _ ?_
    refine aB ?_
    refine aS rfl ?_
    refine bI (nx_ret_scope ?_)
    simp (failIfUnchanged := false) (disch := omega) only [cN, bV, bK, bQ, Tryd.f43, go_sem, ↓reduceIte, hr, no70, imX_t]
   ·skip
    refine aI rfl ?_
    cases h
  ·skip
   have hd1 : decide (h0 < 0) = false := decide_eq_false hneg
   by_cases hbig : 10 < h0
   ·skip
    have hd2 : decide (10 < h0) = true := decide_eq_true hbig
    have hr := newR_n seed h0 (.inr hbig)
    refine aC (Γ := aL) [16, 1, 2] (aD _ _) rfl rfl rfl (fun K hK => ?_)
    simp (failIfUnchanged := false) (disch := omega) only [Tryd.f43, go_sem, Nat.reduceAdd, reduceCtorEq, ↓reduceIte, hd1, hd2]
    refine hK _ ?_
    refine aB ?_
    refine eC (.tmp 16) rfl rfl rfl (fun h => ?_) (fun h => ?_)
    ·skip
     refine aI rfl ?_
     refine aA rfl ?_
     refine aC (Γ := aL) [4, 5] (aD _ _) rfl rfl rfl (fun K hK => ?_)
     simp (failIfUnchanged := false) (disch := omega) only [Tryd.f43, go_sem, Nat.reduceAdd, ↓reduceIte]
     refine hK _ ?_
     refine aB ?_
     refine aS rfl ?_
     refine bI (nx_ret_scope ?_)
     simp (failIfUnchanged := false) (disch := omega) only [cN, bV, bK, bQ, Tryd.f43, go_sem, ↓reduceIte, hr, no70, imX_t]
    ·skip
     refine aI rfl ?_
     cases h
   ·skip
    have hd2 : decide (10 < h0) = false := decide_eq_false hbig
    refine aC (Γ := aL) [16, 1, 2] (aD _ _) rfl rfl rfl (fun K hK => ?_)
    simp (failIfUnchanged := false) (disch := omega) only [Tryd.f43, go_sem, Nat.reduceAdd, reduceCtorEq, ↓reduceIte, hd1, hd2]
    refine hK _ ?_
    refine aB ?_
    refine eC (.tmp 16) rfl rfl rfl (fun h => ?_) (fun h => ?_)
    ·skip
     refine aI rfl ?_
     cases h
    ·skip
     refine aI rfl ?_
     clear h
     obtain ⟨ht, rfl⟩ : ∃ ht : Nat, h0 = (ht : Int) := ⟨h0.toNat, by omega⟩
     have hh : ht ≤ 10 := by omega
     have hr := newR_y seed ht hh
     rw [hr]
     clear hneg hbig hd1 hd2 hr
     have hp := pow_le ht hh
     refine aQ rfl ?_
     refine aB ?_
     refine aA rfl ?_
     refine aC (Γ := aL) [1, 2, 6] (aD _ _) rfl rfl rfl (fun K hK => ?_)
     simp (failIfUnchanged := false) (disch := omega) only [Tryd.f43, go_sem, Nat.reduceAdd, Nat.reduceLeDiff, ↓reduceIte, hs, tr_bld seed hs, List.all_cons, List.all_nil, Option.isSome_some, Bool.and_self]
     refine hK _ ?_
     refine aB ?_
     refine aA rfl ?_
     refine aC (Γ := aL) [1, 2, 6, 7] (aD _ _) rfl rfl rfl (fun K hK => ?_)
     simp (failIfUnchanged := false) (disch := omega) only [Tryd.f43, go_sem, ↓reduceIte]
     refine hK _ ?_
     refine aB ?_
     have hsh := one_shl ht hh
     refine aA rfl ?_
     refine aA rfl ?_
     refine aC (Γ := aL) [2, 6, 7, 22, 23] (aD _ _) rfl rfl rfl (fun K hK => ?_)
     simp (failIfUnchanged := false) (disch := omega) only [Tryd.f43, go_sem, Nat.reduceAdd, Int.reduceLE, Int.reduceLT, BitVec.reduceOfInt, ↓reduceIte, hsh]
     refine hK _ ?_
     refine aB ?_
     refine iE 7 8 rfl ?_
     refine fF [2, 6, 7, 22, 23] ?_
     simp (failIfUnchanged := false) only [iB, fU, eB, ↓reduceIte, Nat.reduceEqDiff]
     obtain ⟨T, hT⟩ : ∃ T, nx + 3 + 6 + 2 = T := ⟨_, rfl⟩
     rw [hT]
     refine aR 0 rfl rfl ?_
     refine bR (fun p : KIC => { fr := [(2, .op nx 0), (6, .op T 0), (7, .os p.id 0 p.k 8 true), (22, .w32 (BitVec.ofNat 32 (2 ^ ht))), (23, .w32 (BitVec.ofNat 32 p.k))], hp := upd (upd (upd (fun _ => none) nx (.cells (c8 seed) true)) T (.cells (c8 seed ++ [.v (.slice none 0 0)]) true)) p.id (.cells (c8 (fl (iR seed 0) p.k)) true), nx := 0, cx := p.c }) (fun p => p.k ≤ 2 ^ ht ∧ T < p.id ∧ p.id < p.c) (fun p => 2 ^ ht - p.k) rfl ⟨⟨0, _, _⟩, ⟨Nat.zero_le _, by simp only; omega, by simp only; omega⟩, bD rfl rfl (Nat.le_refl _)⟩ ?_
     rintro ⟨k, id, c⟩ ⟨hk, hid, hc⟩ n0
     simp only at hk hid hc ⊢
     have hlt := w32_lt k (2 ^ ht) (by omega) (by omega)
     refine aA rfl ?_
     refine aC (Γ := aL) [24, 2, 6, 7, 22, 23] (aD _ _) rfl rfl rfl (fun K hK => ?_)
     simp (failIfUnchanged := false) (disch := omega) only [Tryd.f43, go_sem, ↓reduceIte, hlt]
     refine hK _ ?_
     refine aB ?_
     refine aA rfl ?_
     refine aW (.tmp 24) rfl rfl rfl (fun h => ?_) (fun h => ?_)
     ·skip
      refine aI rfl ?_
      have hfl := fl_len _ 8 (iW seed 0) k
      have hn0 := node0 seed k
      have hnl := iW seed 0 k
      have hsu := w32_suc k
      refine aQ rfl ?_
      refine aB ?_
      refine aA rfl ?_
      refine aR 1 rfl rfl ?_
      refine aA rfl ?_
      refine aC (Γ := aL) [2, 6, 7, 8, 22, 23] (aD _ _) rfl rfl rfl (fun K hK => ?_)
      simp (failIfUnchanged := false) (disch := omega) only [Tryd.f43, go_sem, Nat.reduceAdd, ↓reduceIte]
      refine hK _ ?_
      refine aB ?_
      refine aC (Γ := bC [(50, .pure true pubG)]) [2, 6, 7, 22, 23] (aH ok33 aO) rfl rfl rfl (fun K hK => ?_)
      simp (failIfUnchanged := false) (disch := omega) only [Tryd.f43, go_sem, Nat.reduceAdd, Nat.reduceLeDiff, ↓reduceIte, hs, hn0, hnl, hfl]
      refine hK _ ?_
      refine bU (aB ?_)
      refine aC (Γ := aL) [2, 6, 7, 22, 23] (aD _ _) rfl rfl rfl (fun K hK => ?_)
      simp (failIfUnchanged := false) (disch := omega) only [Tryd.f43, go_sem, Nat.reduceAdd, Int.reduceLE, Int.reduceLT, BitVec.reduceOfInt, ↓reduceIte, hsu]
      refine hK _ ?_
      refine bT ?_
      have hfs : fl (iR seed 0) (k + 1) = fl (iR seed 0) k ++ iR seed 0 k := rfl
      refine ⟨⟨k + 1, c + 1 + 2 + 5, _⟩, ⟨by simp only; omega, by simp only; omega, by simp only; omega⟩, by simp only; omega, ⟨fun _ => .inr rfl, fun j o h => ?_, Nat.le_refl _⟩⟩
      simp only at h
      exact bS (by simp (failIfUnchanged := false) (disch := omega) only [aV, ↓reduceIte, eq_self, hfs]) (bS (by simp (disch := omega) only [aV, de_app, bY, ↓reduceIte, eq_self]) (bS (by simp (disch := omega) only [aV, de_app, bY, ↓reduceIte, eq_self]) (cB))) j o h
     ·skip
      refine aI rfl ?_
      refine bF 0 rfl rfl ?_
      refine aY (aZ (bE ?_))
      refine aB ?_
      refine aA rfl ?_
      refine awp_labelP rfl ?_
      refine aB ?_
      refine aA rfl ?_
      refine aR 2 rfl rfl ?_
      obtain rfl : k = 2 ^ ht := by omega
      rw [levL_zero seed ht]
      refine awp_ownC T 1 (c8 seed) [] true (by simp (failIfUnchanged := false) (disch := omega) only [aV, bY, ↓reduceIte, eq_self]) (by omega) ?_
      refine fF [6, 7] ?_
      simp (failIfUnchanged := false) only [iB, fU, eB, ↓reduceIte, Nat.reduceEqDiff]
      refine bR (fun p : KIV => { fr := [(6, .op T 0), (7, .os p.id 0 (2 ^ (ht - p.k)) 8 true)], hp := upd (upd (upd (fun _ => none) T (.cells (c8 seed ++ [.os p.iv 0 p.k 1 true]) true)) p.iv (.cells (lvS seed ht p.k) true)) p.id (.cells (c8 (levL seed ht p.k)) true), nx := 0, cx := p.c }) (fun p => p.k ≤ ht ∧ T < p.id ∧ T < p.iv ∧ p.id ≠ p.iv ∧ p.id < p.c ∧ p.iv < p.c) (fun p => ht - p.k) rfl ⟨⟨0, id, c + 1, _⟩, ⟨Nat.zero_le _, by simp only; omega, by simp only; omega, by simp only; omega, by simp only; omega, by simp only; omega⟩, ⟨fun _ => .inr rfl, bS (by simp (failIfUnchanged := false) (disch := omega) only [aV, bY, ↓reduceIte, eq_self]) (bS (by simp (disch := omega) only [aV, bY, ↓reduceIte, eq_self, lvS]) (bS (by simp (disch := omega) only [aV, ↓reduceIte, eq_self]) cB)), Nat.le_refl _⟩⟩ ?_
      rintro ⟨j, id2, iv, c2⟩ ⟨hj, hid2, hiv, hne, hc2, hc3⟩ n0
      simp only at hj hid2 hiv hne hc2 hc3 ⊢
      have hpw := pow_le (ht - j) (by omega)
      have hll := levL_len seed ht j
      have hvs := lvS_succ seed ht j
      have hvl := lvS_len seed ht j
      have hb1 := tr_blen seed hs
      have hb2 := tr_bdrop seed hs
      have hb3 := tr_bset seed hs
      obtain ⟨N, hN⟩ : ∃ N, 2 ^ (ht - j) = N := ⟨_, rfl⟩
      rw [hN] at hpw hll hvs ⊢
      have htk : List.take (N * 8) (levL seed ht j) = levL seed ht j := List.take_of_length_le (by omega)
      refine aR 3 rfl rfl ?_
      refine aA rfl ?_
      refine aC (Γ := aL) [6, 7] (aD _ _) rfl rfl rfl (fun K hK => ?_)
      simp (failIfUnchanged := false) (disch := omega) only [Tryd.f43, go_sem, Nat.reduceAdd, Nat.reduceLeDiff, Nat.reduceLT, ↓reduceIte, hb1, hb2, hb3, hll, hvs, hvl, htk, List.head?_cons]
      refine hK _ ?_
      refine aB ?_
      refine aA rfl ?_
      refine aA rfl ?_
      refine aC (Γ := aL) [45, 6, 7] (aD _ _) rfl rfl rfl (fun K hK => ?_)
      simp (failIfUnchanged := false) (disch := omega) only [Tryd.f43, go_sem, Nat.reduceAdd, ↓reduceIte]
      refine hK _ ?_
      refine aB ?_
      refine aW (.tmp 45) rfl rfl rfl (fun h => ?_) (fun h => ?_)
      ·skip
       refine aI rfl ?_
       obtain rfl : j = ht := by
        rcases Nat.eq_zero_or_pos (ht - j) with h0 | h0
        ·omega
        ·have h2 : 2 ^ 1 ≤ 2 ^ (ht - j) := Nat.pow_le_pow_right (by omega) h0
         omega
       have htv : List.take (j + 1) (lvS seed j (j + 1)) = lvS seed j (j + 1) := List.take_of_length_le (by rw [lvS_len]; exact Nat.le_refl _)
       refine bF 2 rfl rfl ?_
       refine aY (nx_ex_out (aZ (bE ?_)) rfl)
       refine aB ?_
       refine aA rfl ?_
       refine aC (Γ := aL) [4, 5] (aD _ _) rfl rfl rfl (fun K hK => ?_)
       simp (failIfUnchanged := false) (disch := omega) only [Tryd.f43, go_sem, Nat.reduceAdd, ↓reduceIte]
       refine hK _ ?_
       refine aB ?_
       refine aS rfl ?_
       refine nx_ret_scope ?_
       simp (failIfUnchanged := false) (disch := omega) only [cN, bV, bK, bQ, Tryd.f43, go_sem, Nat.reduceLeDiff, ↓reduceIte, immM_app, immM_c8, noOwn_app, Bool.and_false, imX_f, trC, htv]
      ·skip
       refine aI rfl ?_
       obtain ⟨M, hM⟩ : ∃ M, 2 ^ (ht - (j + 1)) = M := ⟨_, rfl⟩
       have hjt : j + 1 ≤ ht := by
        rcases Nat.eq_zero_or_pos (ht - j) with h0 | h0
        ·rw [h0] at hN; simp at hN; omega
        ·omega
       have hNM : N = 2 * M := by
        rw [← hN, ← hM, show ht - j = ht - (j + 1) + 1 by omega, Nat.pow_succ]; omega
       subst hNM
       refine aQ rfl ?_
       refine aB ?_
       refine aA rfl ?_
       refine aC (Γ := aL) [6, 7, 9] (aD _ _) rfl rfl rfl (fun K hK => ?_)
       simp (failIfUnchanged := false) (disch := omega) only [Tryd.f43, go_sem, ↓reduceIte]
       refine hK _ ?_
       refine aB ?_
       refine aA rfl ?_
       refine aA rfl ?_
       refine aC (Γ := aL) [6, 7, 9, 10] (aD _ _) rfl rfl rfl (fun K hK => ?_)
       simp (failIfUnchanged := false) (disch := omega) only [Tryd.f43, go_sem, ↓reduceIte]
       refine hK _ ?_
       refine aB ?_
       refine iE 9 8 rfl ?_
       refine fF [6, 7, 9, 10] ?_
       simp (failIfUnchanged := false) only [iB, fU, eB, ↓reduceIte, Nat.reduceEqDiff]
       refine aR 4 rfl rfl ?_
       refine bR (fun p : KIC => { fr := [(6, .op T 0), (7, .os id2 0 (2 * M) 8 true), (9, .os p.id 0 p.k 8 true), (10, .i (2 * (p.k : Int)))], hp := upd (upd (upd (upd (fun _ => none) T (.cells (c8 seed ++ [.os (c2 + 7) 0 (j + 1) 1 true]) true)) (c2 + 7) (.cells (lvS seed ht (j + 1)) true)) id2 (.cells (c8 (levL seed ht j)) false)) p.id (.cells (c8 (fl (iR seed (j + 1)) p.k)) true), nx := 0, cx := p.c }) (fun p => p.k ≤ M ∧ c2 + 7 < p.id ∧ p.id < p.c) (fun p => M - p.k) rfl ⟨⟨0, _, _⟩, ⟨Nat.zero_le _, by simp only; omega, by simp only; omega⟩, ⟨fun _ => .inr rfl, bS (by simp (failIfUnchanged := false) (disch := omega) only [aV, ↓reduceIte, eq_self, c8_fl0]) (bS (by simp (disch := omega) only [aV, de_app, bY, ↓reduceIte, eq_self]) (bS (by simp (disch := omega) only [aV, bY, ↓reduceIte, eq_self]) (bS (by simp (disch := omega) only [aV, bY, ↓reduceIte, eq_self]) cB))), Nat.le_refl _⟩⟩ ?_
       rintro ⟨k, id3, c3⟩ ⟨hk3, hid3, hc4⟩ n0
       simp only at hk3 hid3 hc4 ⊢
       refine aA rfl ?_
       refine aA rfl ?_
       refine aC (Γ := aL) [49, 6, 7, 9, 10] (aD _ _) rfl rfl rfl (fun K hK => ?_)
       simp (failIfUnchanged := false) (disch := omega) only [Tryd.f43, go_sem, Nat.reduceAdd, ↓reduceIte]
       refine hK _ ?_
       refine aB ?_
       refine aW (.tmp 49) rfl rfl rfl (fun h => ?_) (fun h => ?_)
       ·skip
        refine aI rfl ?_
        have hfl := fl_len _ 8 (iW seed (j + 1)) k
        have e1 : (2 * (k : Int)).toNat = 2 * k := by omega
        have e2 : (2 * (k : Int) + 1).toNat = 2 * k + 1 := by omega
        have ha1 := lev_at seed ht j (2 * k) (by omega)
        have ha2 := lev_at seed ht j (2 * k + 1) (by omega)
        have hn1 := iW seed j (2 * k)
        have hn2 := iW seed j (2 * k + 1)
        have hn3 := node_up seed j k
        have hn4 := iW seed (j + 1) k
        refine aQ rfl ?_
        refine aB ?_
        refine aA rfl ?_
        refine aR 5 rfl rfl ?_
        refine bB (Γ := bC [(51, .pure true aboveG)]) (fun k => if k = 10 then 0 else if k = 12 then 4098 else 2) [6, 7, 9, 10] bZ (aH ok79 aO) rfl rfl rfl (by kernel_rfl) (fun K hK => ?_)
        simp (failIfUnchanged := false) (disch := omega) only [Tryd.f43, go_sem, Nat.reduceAdd, Nat.reduceLeDiff, ↓reduceIte, e1, e2, ha1, ha2, hn1, hn2, hn3, hn4, hfl, hll, List.length_drop]
        refine hK _ ?_
        refine bU (aB ?_)
        refine aC (Γ := aL) [6, 7, 9, 10] (aD _ _) rfl rfl rfl (fun K hK => ?_)
        simp (failIfUnchanged := false) (disch := omega) only [Tryd.f43, go_sem, Nat.reduceAdd, ↓reduceIte]
        refine hK _ ?_
        refine bT ?_
        have hfs : fl (iR seed (j + 1)) (k + 1) = fl (iR seed (j + 1)) k ++ iR seed (j + 1) k := rfl
        refine ⟨⟨k + 1, c3 + 4 + 12, _⟩, ⟨by simp only; omega, by simp only; omega, by simp only; omega⟩, by simp only; omega, ⟨fun _ => .inr ?_, fun j o h => ?_, Nat.le_refl _⟩⟩
        ·simp only [show (2 * ((k + 1 : Nat) : Int)) = 2 * (k : Int) + 2 by omega]
        ·simp only at h
         exact bS (by simp (failIfUnchanged := false) (disch := omega) only [aV, ↓reduceIte, eq_self, hfs]) (bS (by simp (disch := omega) only [aV, de_app, bY, ↓reduceIte, eq_self]) (bS (by simp (disch := omega) only [aV, de_app, bY, ↓reduceIte, eq_self]) (bS (by simp (disch := omega) only [aV, de_app, bY, ↓reduceIte, eq_self]) (cB)))) j o h
       ·skip
        refine aI rfl ?_
        refine bF 4 rfl rfl ?_
        refine aY (aZ (bE ?_))
        refine aB ?_
        obtain rfl : k = M := by omega
        refine aC (Γ := aL) [6, 7] (aD _ _) rfl rfl rfl (fun K hK => ?_)
        simp (failIfUnchanged := false) (disch := omega) only [Tryd.f43, go_sem, Nat.reduceAdd, ↓reduceIte]
        refine hK _ ?_
        refine bU (bT ?_)
        have hlv : levL seed ht (j + 1) = fl (iR seed (j + 1)) k := by rw [levL, hM]
        refine ⟨⟨j + 1, id3, c2 + 7, _⟩, ⟨by simp only; omega, by simp only; omega, by simp only; omega, by simp only; omega, by simp only; omega, by simp only; omega⟩, by simp only; omega, ⟨fun _ => .inr ?_, fun j o h => ?_, Nat.le_refl _⟩⟩
        ·simp only [hM]
        ·simp only at h
         exact bS (by simp (failIfUnchanged := false) (disch := omega) only [aV, ↓reduceIte, eq_self, hlv]) (bS (by simp (disch := omega) only [aV, bY, ↓reduceIte, eq_self]) (bS (by simp (disch := omega) only [aV, bY, ↓reduceIte, eq_self]) (cB))) j o h
 ·cases hg
theorem ok51 : bX Tryd.prog GLh 43 (.pure false newG) := ⟨⟨_, Tryd.func43, rfl, rfl⟩, new_ok⟩
end Go.AX
namespace Go.AX
open Go Go.Proofs
def nodesG : List AV → Option AV
 | [.agg xs, .i h] => aK (un8 xs) fun s => aN (s.length = 8 ∧ 0 ≤ h ∧ h ≤ 10) (some (.sl (h.toNat + 1) (lvS s h.toNat (h.toNat + 1))))
 | _ => none
theorem nodesG_eq (xs : List AV) (h : Int) : nodesG [.agg xs, .i h] = aK (un8 xs) fun s => aN (s.length = 8 ∧ 0 ≤ h ∧ h ≤ 10) (some (.sl (h.toNat + 1) (lvS s h.toNat (h.toNat + 1)))) := (rfl)
attribute [go_sem] nodesG_eq
def rrootG : List AV → Option AV
 | [.agg xs, .i h] => aK (un8 xs) fun s => aN (s.length = 8 ∧ 0 ≤ h ∧ h ≤ 10) (some (.agg (c8 (iR s h.toNat 0))))
 | _ => none
theorem rrootG_eq (xs : List AV) (h : Int) : rrootG [.agg xs, .i h] = aK (un8 xs) fun s => aN (s.length = 8 ∧ 0 ≤ h ∧ h ≤ 10) (some (.agg (c8 (iR s h.toNat 0)))) := (rfl)
attribute [go_sem] rrootG_eq
end Go.AX
namespace Go.AX
open Go Go.Proofs
def sib (l j : Nat) : Nat := (l >>> j) ^^^ 1
def sisL (seed : List B8) (l j : Nat) : List B8 := iR seed j (sib l j)
def tsignL (seed : List B8) (h : Nat) (leaf : W32) (m : List B8) : List B8 := w4 leaf ++ signL seed leaf (digL m) ++ fl (sisL seed leaf.toNat) h
def tsignR (seed : List B8) (h : Nat) (leaf : W32) (m : List B8) : AV := if leaf.toNat < 2 ^ h then .tup [.sl (516 + 8 * h) (c8 (tsignL seed h leaf m)), .i 0] else .tup [.sl 0 [], .i 70]
noncomputable def tsignG : List AV → Option AV
 | [.rp ts, .w32 leaf, .sl n ys] => aK (unT ts) fun p => aK (un8 ys) fun m => aN (m.length = n ∧ n ≤ 900000000) (some (tsignR p.1 p.2 leaf m))
 | _ => none
theorem tsignG_eq (ts ys : List AV) (leaf : W32) (n : Nat) : tsignG [.rp ts, .w32 leaf, .sl n ys] = aK (unT ts) fun p => aK (un8 ys) fun m => aN (m.length = n ∧ n ≤ 900000000) (some (tsignR p.1 p.2 leaf m)) := (rfl)
attribute [go_sem] tsignG_eq
end Go.AX
namespace Go.AX
open Go Go.Proofs
def leafL (l : List B8) : W32 := (l.getD 0 0#8).setWidth 32 <<< 24 ||| (l.getD 1 0#8).setWidth 32 <<< 16 ||| (l.getD 2 0#8).setWidth 32 <<< 8 ||| (l.getD 3 0#8).setWidth 32
def leafR (l : List B8) : AV := if 4 ≤ l.length then .tup [.w32 (leafL l), .b true] else .tup [.w32 0#32, .b false]
def leafG : List AV → Option AV
 | [.sl n xs] => aK (un8 xs) fun b => aN (b.length = n) (some (leafR b))
 | _ => none
theorem leafG_eq (n : Nat) (xs : List AV) : leafG [.sl n xs] = aK (un8 xs) fun b => aN (b.length = n) (some (leafR b)) := (rfl)
attribute [go_sem] leafG_eq
def sisV (sig : List B8) (j : Nat) : List B8 := (sig.drop (516 + 8 * j)).take 8
def upV (sig n : List B8) (l : W32) : Nat → List B8
 | 0 => n
 | j + 1 => if l >>> j &&& 1#32 = 0#32 then upL (upV sig n l j) (sisV sig j) else upL (sisV sig j) (upV sig n l j)
def okV (root : List B8) (h : Int) (sig : List B8) : Prop := root.length = 8 ∧ 0 ≤ h ∧ h ≤ 10 ∧ sig.length = 516 + 8 * h.toNat
def openV (msg sig : List B8) : List B8 := openL (digL msg) ((sig.drop 4).take 512)
open Classical in
noncomputable def verB (root : List B8) (h : Int) (msg sig : List B8) : Bool :=
 if okV root h sig ∧ (leafL sig).toNat < 2 ^ h.toNat then decide (upV sig (openV msg sig) (leafL sig) h.toNat = root) else false
noncomputable def verG : List AV → Option AV
 | [.sl n xs, .i h, .sl m ys, .sl q zs] => aK (un8 xs) fun root => aK (un8 ys) fun msg => aK (un8 zs) fun sig => aN (root.length = n ∧ msg.length = m ∧ sig.length = q ∧ m ≤ 900000000 ∧ n ≤ 900000000 ∧ q ≤ 900000000) (some (.b (verB root h msg sig)))
 | _ => none
theorem verG_eq (n m q : Nat) (xs ys zs : List AV) (h : Int) : verG [.sl n xs, .i h, .sl m ys, .sl q zs] = aK (un8 xs) fun root => aK (un8 ys) fun msg => aK (un8 zs) fun sig => aN (root.length = n ∧ msg.length = m ∧ sig.length = q ∧ m ≤ 900000000 ∧ n ≤ 900000000 ∧ q ≤ 900000000) (some (.b (verB root h msg sig))) := (rfl)
attribute [go_sem] List.getElem?_cons_zero List.getElem?_cons_succ verG_eq Bool.and_true Bool.true_and Bool.and_self
end Go.AX
namespace Go.AX
open Go Go.Proofs
set_option maxRecDepth 100000
def seed5 : List B8 := [5#8, 0#8, 0#8, 0#8, 0#8, 0#8, 0#8, 0#8]
theorem seed5_len : seed5.length = 8 := rfl
theorem seed5_big : big seed5 = 360287970189639680 := by decide
theorem k8p0 : pubN 360287970189639680 0 (fun _ => 0) = 13613509030940369981 := by kernel_rfl
theorem k8p1 : pubN 360287970189639680 1 (fun _ => 0) = 879223787661787384 := by kernel_rfl
theorem k8p2 : pubN 360287970189639680 2 (fun _ => 0) = 5694164919684500121 := by kernel_rfl
theorem k8p3 : pubN 360287970189639680 3 (fun _ => 0) = 217742532806062200 := by kernel_rfl
theorem nb (i : Nat) (hi : i < 4294967296) : big (iR seed5 0 i) = pubN 360287970189639680 i (fun _ => 0) := by
 rw [iR, pubN_ok seed5 seed5_len, seed5_big, BitVec.toNat_ofNat, Nat.mod_eq_of_lt hi]
theorem n0 : big (iR seed5 0 0) = 13613509030940369981 := by rw [nb 0 (by omega), k8p0]
theorem n1 : big (iR seed5 0 1) = 879223787661787384 := by rw [nb 1 (by omega), k8p1]
theorem n2 : big (iR seed5 0 2) = 5694164919684500121 := by rw [nb 2 (by omega), k8p2]
theorem n3 : big (iR seed5 0 3) = 217742532806062200 := by rw [nb 3 (by omega), k8p3]
end Go.AX
namespace Go.AX
open Go Go.Proofs
structure S8 where
 a : B8
 b : B8
 c : B8
 d : B8
 e : B8
 f : B8
 g : B8
 h : B8
def S8.l (s : S8) : List B8 := [s.a, s.b, s.c, s.d, s.e, s.f, s.g, s.h]
theorem S8.len (s : S8) : s.l.length = 8 := rfl
theorem S8.inj {s t : S8} (h : s.l = t.l) : s = t := by
 obtain ⟨_, _, _, _, _, _, _, _⟩ := s
 obtain ⟨_, _, _, _, _, _, _, _⟩ := t
 simp only [S8.l, List.cons.injEq, and_true] at h
 obtain ⟨rfl, rfl, rfl, rfl, rfl, rfl, rfl, rfl⟩ := h
 rfl
theorem S8.of {l : List B8} (h : l.length = 8) : ∃ s : S8, l = s.l := by
 match l, h with
 | [a, b, c, d, e, f, g, h], _ => exact ⟨⟨a, b, c, d, e, f, g, h⟩, rfl⟩
structure KY where
 id : W32
 role : Int
 st : Int
 seed : S8
 h : Nat
 next : W32
 since : W32
 seen : W32
def kyC (k : KY) : List AV := [.w32 k.id, .i k.role, .i k.st, .w8 k.seed.a, .w8 k.seed.b, .w8 k.seed.c, .w8 k.seed.d, .w8 k.seed.e, .w8 k.seed.f, .w8 k.seed.g, .w8 k.seed.h, .i k.h, .w32 k.next, .w32 k.since, .w32 k.seen]
theorem kyC_inj {a b : KY} (h : kyC a = kyC b) : a = b := by
 obtain ⟨_, _, _, ⟨_, _, _, _, _, _, _, _⟩, _, _, _, _⟩ := a
 obtain ⟨_, _, _, ⟨_, _, _, _, _, _, _, _⟩, _, _, _, _⟩ := b
 simp only [kyC, List.cons.injEq, AV.w32.injEq, AV.i.injEq, AV.w8.injEq, and_true] at h
 obtain ⟨rfl, rfl, rfl, rfl, rfl, rfl, rfl, rfl, rfl, rfl, rfl, h1, rfl, rfl, rfl⟩ := h
 obtain rfl := Int.ofNat.inj h1
 rfl
def encK (k : KY) : AV := .agg (kyC k)
theorem encK_inj {a b : KY} (h : encK a = encK b) : a = b := kyC_inj (AV.agg.inj h)
structure TK where
 seed : S8
 h : Nat
def encT (t : TK) : AV := .rp (trC t.seed.l t.h)
theorem encT_inj {a b : TK} (h : encT a = encT b) : a = b := by
 obtain ⟨e1, e2⟩ := trC_inj a.seed.len b.seed.len (AV.rp.inj h)
 obtain ⟨s, n⟩ := a
 obtain ⟨t, m⟩ := b
 obtain rfl := S8.inj e1
 cases e2
 rfl
structure CF where
 apx : List (List B8)
 kt : W32
 pr : W32
 dt : W32
 dp : W32
 va : W32
 le : W32
 ga : W32
 mx : W32
 salt : List B8
 iter : BitVec 16
 h : Nat
 size : BitVec 16
def cfC (c : CF) : List AV := [.sl c.apx.length (cS c.apx), .w32 c.kt, .w32 c.pr, .w32 c.dt, .w32 c.dp, .w32 c.va, .w32 c.le, .w32 c.ga, .w32 c.mx, .sl c.salt.length (c8 c.salt), .w16 c.iter, .i c.h, .w16 c.size]
theorem jI (c : CF) : cfC c = [.sl c.apx.length (cS c.apx), .w32 c.kt, .w32 c.pr, .w32 c.dt, .w32 c.dp, .w32 c.va, .w32 c.le, .w32 c.ga, .w32 c.mx, .sl c.salt.length (c8 c.salt), .w16 c.iter, .i c.h, .w16 c.size] := rfl
theorem cS_inj {a b : List (List B8)} (h : cS a = cS b) : a = b := by
 have h1 := unS_cS a
 rw [h, unS_cS] at h1
 exact (Option.some.inj h1).symm
theorem cfC_inj {a b : CF} (h : cfC a = cfC b) : a = b := by
 obtain ⟨_, _, _, _, _, _, _, _, _, _, _, _, _⟩ := a
 obtain ⟨_, _, _, _, _, _, _, _, _, _, _, _, _⟩ := b
 simp only [cfC, List.cons.injEq, AV.w32.injEq, AV.i.injEq, AV.w16.injEq, AV.sl.injEq, and_true] at h
 obtain ⟨⟨_, h1⟩, rfl, rfl, rfl, rfl, rfl, rfl, rfl, rfl, ⟨_, h2⟩, rfl, h3, rfl⟩ := h
 obtain rfl := cS_inj h1
 obtain rfl := c8_inj h2
 obtain rfl := Int.ofNat.inj h3
 rfl
open Classical in
noncomputable def cfOf (xs : List AV) : Option CF := if h : ∃ c, xs = cfC c then some (Classical.choose h) else none
theorem cfOf_cfC (c : CF) : cfOf (cfC c) = some c := by
 have hx : ∃ c', cfC c = cfC c' := ⟨c, rfl⟩
 unfold cfOf
 rw [dif_pos hx]
 exact congrArg some (cfC_inj (Classical.choose_spec hx)).symm
theorem cfOf_inv {xs : List AV} {c : CF} (h : cfOf xs = some c) : xs = cfC c := by
 unfold cfOf at h
 split at h
 ·rename_i hx
  rw [← Option.some.inj h]
  exact Classical.choose_spec hx
 ·cases h
structure RC where
 c : CF
 by' : List (W32 × KY)
 last : W32
 tr : List (W32 × TK)
def encB (l : List (W32 × KY)) : List (AV × AV) := l.map fun p => (.w32 p.1, encK p.2)
def encR2 (l : List (W32 × TK)) : List (AV × AV) := l.map fun p => (.w32 p.1, encT p.2)
theorem maps_inj {α β : Type} {f : α → β} (hf : ∀ a b, f a = f b → a = b) : ∀ {l l' : List α}, l.map f = l'.map f → l = l'
 | [], [], _ => rfl
 | [], _ :: _, h => by cases h
 | _ :: _, [], h => by cases h
 | a :: r, b :: r', h => by
  simp only [List.map_cons, List.cons.injEq] at h
  rw [hf a b h.1, maps_inj hf h.2]
theorem encB_inj {a b : List (W32 × KY)} (h : encB a = encB b) : a = b := maps_inj (fun p q e => by
 obtain ⟨e1, e2⟩ := Prod.mk.inj e
 exact Prod.ext (AV.w32.inj e1) (encK_inj e2)) h
theorem encR2_inj {a b : List (W32 × TK)} (h : encR2 a = encR2 b) : a = b := maps_inj (fun p q e => by
 obtain ⟨e1, e2⟩ := Prod.mk.inj e
 exact Prod.ext (AV.w32.inj e1) (encT_inj e2)) h
def rgC (s m : Nat) (C : RC) : List AV := [.sl C.c.apx.length (cS C.c.apx), .w32 C.c.kt, .w32 C.c.pr, .w32 C.c.dt, .w32 C.c.dp, .w32 C.c.va, .w32 C.c.le, .w32 C.c.ga, .w32 C.c.mx, .sl C.c.salt.length (c8 C.c.salt), .w16 C.c.iter, .i C.c.h, .w16 C.c.size, .mp s, .w32 C.last, .mp m]
theorem jA (s m : Nat) (C : RC) : rgC s m C = [.sl C.c.apx.length (cS C.c.apx), .w32 C.c.kt, .w32 C.c.pr, .w32 C.c.dt, .w32 C.c.dp, .w32 C.c.va, .w32 C.c.le, .w32 C.c.ga, .w32 C.c.mx, .sl C.c.salt.length (c8 C.c.salt), .w16 C.c.iter, .i C.c.h, .w16 C.c.size, .mp s, .w32 C.last, .mp m] := rfl
theorem rgC_inj {s m s' m' : Nat} {C C' : RC} (h : rgC s m C = rgC s' m' C') : s = s' ∧ m = m' ∧ C.c = C'.c ∧ C.last = C'.last := by
 have e : rgC s m C = cfC C.c ++ [.mp s, .w32 C.last, .mp m] := rfl
 have e' : rgC s' m' C' = cfC C'.c ++ [.mp s', .w32 C'.last, .mp m'] := rfl
 rw [e, e'] at h
 obtain ⟨h1, h2⟩ := List.append_inj h rfl
 simp only [List.cons.injEq, AV.mp.injEq, AV.w32.injEq, and_true] at h2
 exact ⟨h2.1, h2.2.2, cfC_inj h1, h2.2.1⟩
structure RHas (hp : H) (d s m : Nat) (C : RC) : Prop where
 hd : hp d = some (.cells (rgC s m C) true)
 hs : hp s = some (.mapo (encB C.by') true)
 hm : hp m = some (.mapo (encR2 C.tr) true)
 ne : d ≠ s ∧ d ≠ m ∧ s ≠ m ∧ s ≠ d ∧ m ≠ d ∧ m ≠ s
def iL (d s m : Nat) (C : RC) (hp : H) : H := upd (upd (upd hp s (.mapo (encB C.by') true)) m (.mapo (encR2 C.tr) true)) d (.cells (rgC s m C) true)
theorem RHas.uniq {hp : H} {d s m s' m' : Nat} {C C' : RC} (h : RHas hp d s m C) (h' : RHas hp d s' m' C') : s = s' ∧ m = m' ∧ C = C' := by
 have e := h.hd.symm.trans h'.hd
 obtain ⟨rfl, rfl, ec, el⟩ := rgC_inj (AO.cells.inj (Option.some.inj e)).1
 have eb := encB_inj (AO.mapo.inj (Option.some.inj (h.hs.symm.trans h'.hs))).1
 have et := encR2_inj (AO.mapo.inj (Option.some.inj (h.hm.symm.trans h'.hm))).1
 obtain ⟨c1, b1, l1, t1⟩ := C
 obtain ⟨c2, b2, l2, t2⟩ := C'
 simp only at ec el eb et
 subst ec; subst el; subst eb; subst et
 exact ⟨rfl, rfl, rfl⟩
structure RT where
 s : Nat
 m : Nat
 C : RC
open Classical in
noncomputable def iN (hp : H) (d : Nat) : Option RT := if h : ∃ t : RT, RHas hp d t.s t.m t.C then some (Classical.choose h) else none
theorem rngOf_has {hp : H} {d s m : Nat} {C : RC} (h : RHas hp d s m C) : iN hp d = some ⟨s, m, C⟩ := by
 have hx : ∃ t : RT, RHas hp d t.s t.m t.C := ⟨⟨s, m, C⟩, h⟩
 unfold iN
 rw [dif_pos hx]
 have h2 := Classical.choose_spec hx
 obtain ⟨e1, e2, e3⟩ := h2.uniq h
 congr 1
 generalize Classical.choose hx = t at e1 e2 e3
 cases t; simp only at e1 e2 e3; rw [e1, e2, e3]
theorem iV {hp : H} {d : Nat} {t : RT} (h : iN hp d = some t) : RHas hp d t.s t.m t.C := by
 unfold iN at h
 split at h
 ·rename_i hx
  obtain rfl := Option.some.inj h
  exact Classical.choose_spec hx
 ·cases h
theorem setR_has {hp : H} {d s m : Nat} {C : RC} (h1 : d ≠ s) (h2 : d ≠ m) (h3 : s ≠ m) : RHas (iL d s m C hp) d s m C :=
 ⟨by simp [iL, bJ], by simp [iL, bJ, Ne.symm h1, h3], by simp [iL, bJ, Ne.symm h2], ⟨h1, h2, h3, Ne.symm h1, Ne.symm h2, Ne.symm h3⟩⟩
theorem rng_set (hp : H) (d s m : Nat) (C : RC) (h1 : d ≠ s) (h2 : d ≠ m) (h3 : s ≠ m) : iN (iL d s m C hp) d = some ⟨s, m, C⟩ := rngOf_has (setR_has h1 h2 h3)
theorem setR_set (hp : H) (d s m : Nat) (C C' : RC) : iL d s m C' (iL d s m C hp) = iL d s m C' hp := by
 funext k
 simp only [iL, bJ]
 by_cases h1 : k = d
 ·simp [h1]
 ·by_cases h2 : k = m
  ·simp [h2]
  ·by_cases h3 : k = s
   ·simp [h3]
   ·simp [h1, h2, h3]
theorem jN (hp : H) (d s m : Nat) (C : RC) (k : Nat) (h1 : k ≠ d) (h2 : k ≠ s) (h3 : k ≠ m) : iL d s m C hp k = hp k := by simp [iL, bJ, h1, h2, h3]
theorem jJ (hp : H) (d s m : Nat) (C : RC) (k : Nat) (o : AO) (h1 : k ≠ d) (h2 : k ≠ s) (h3 : k ≠ m) : upd (iL d s m C hp) k o = iL d s m C (upd hp k o) := by
 funext j
 simp only [iL, bJ]
 by_cases e : j = k
 ·subst e; simp [h1, h2, h3]
 ·simp [e]
theorem setR_del (hp : H) (d s m : Nat) (C : RC) (k : Nat) (h1 : k ≠ d) (h2 : k ≠ s) (h3 : k ≠ m) : del (iL d s m C hp) k = iL d s m C (del hp k) := by
 funext j
 simp only [iL, bJ, eV]
 by_cases e : j = k
 ·subst e; simp [h1, h2, h3]
 ·simp [e]
theorem iQ {hp : H} {d s m : Nat} {C : RC} (h : RHas hp d s m C) : iL d s m C hp = hp := by
 funext k
 simp only [iL, bJ]
 by_cases h1 : k = d
 ·subst h1; rw [if_pos rfl, h.hd]
 ·rw [if_neg h1]
  by_cases h2 : k = m
  ·subst h2; rw [if_pos rfl, h.hm]
  ·rw [if_neg h2]
   by_cases h3 : k = s
   ·subst h3; rw [if_pos rfl, h.hs]
   ·rw [if_neg h3]
theorem setR_sub {hp t : H} {d s m : Nat} {C : RC} (h1 : t d = some (.cells (rgC s m C) true)) (h2 : t s = some (.mapo (encB C.by') true)) (h3 : t m = some (.mapo (encR2 C.tr) true))
  (h : ∀ k o, k ≠ d → k ≠ s → k ≠ m → hp k = some o → t k = some o) (k : Nat) (o : AO) (hk : iL d s m C hp k = some o) : t k = some o := by
 simp only [iL, bJ] at hk
 by_cases e1 : k = d
 ·subst e1; rw [if_pos rfl] at hk; rw [h1]; exact hk
 ·rw [if_neg e1] at hk
  by_cases e2 : k = m
  ·subst e2; rw [if_pos rfl] at hk; rw [h3]; exact hk
  ·rw [if_neg e2] at hk
   by_cases e3 : k = s
   ·subst e3; rw [if_pos rfl] at hk; rw [h2]; exact hk
   ·rw [if_neg e3] at hk; exact h k o e1 e3 e2 hk
theorem hU {hp hp2 : H} {d s m : Nat} {C : RC} (h : ∀ j o, hp j = some o → hp2 j = some o) (k : Nat) (o : AO) (hk : iL d s m C hp k = some o) : iL d s m C hp2 k = some o := by
 simp only [iL, bJ] at hk ⊢
 by_cases e1 : k = d
 ·rw [if_pos e1] at hk ⊢; exact hk
 ·rw [if_neg e1] at hk ⊢
  by_cases e2 : k = m
  ·rw [if_pos e2] at hk ⊢; exact hk
  ·rw [if_neg e2] at hk ⊢
   by_cases e3 : k = s
   ·rw [if_pos e3] at hk ⊢; exact hk
   ·rw [if_neg e3] at hk ⊢; exact h k o hk
theorem setR_m (hp : H) (d s m : Nat) (C : RC) (h1 : m ≠ d) : iL d s m C hp m = some (.mapo (encR2 C.tr) true) := by simp [iL, bJ, h1]
theorem setR_updM (hp : H) (d s m : Nat) (C : RC) (l : List (W32 × TK)) (h1 : m ≠ d) : upd (iL d s m C hp) m (.mapo (encR2 l) true) = iL d s m { C with tr := l } hp := by
 funext k
 simp only [iL, bJ]
 by_cases e : k = m
 ·subst e; simp [h1]
 ·simp [e]; rfl
theorem setR_updS (hp : H) (d s m : Nat) (C : RC) (l : List (W32 × KY)) (h1 : s ≠ d) (h2 : s ≠ m) : upd (iL d s m C hp) s (.mapo (encB l) true) = iL d s m { C with by' := l } hp := by
 funext k
 simp only [iL, bJ]
 by_cases e : k = s
 ·subst e; simp [h1, h2]
 ·simp [e]; rfl
theorem gI {hp : H} {nx d : Nat} {o : AO} (hn : ∀ id, nx ≤ id → hp id = none) (h : hp d = some o) : d < nx := by
 rcases Nat.lt_or_ge d nx with e | e
 ·exact e
 ·rw [hn d e] at h; cases h
theorem encB_get (k : W32) (l : List (W32 × KY)) : mget (.w32 k) (encB l) = some ((iK k l).map encK) := mget_map (kc := .w32) kEq_32 encK k l
theorem encB_put (k : W32) (v : KY) (l : List (W32 × KY)) : mput (.w32 k) (encK v) (encB l) = some (encB (putK k v l)) := mput_map (kc := .w32) kEq_32 encK k v l
theorem encB_del (k : W32) (l : List (W32 × KY)) : mdel (.w32 k) (encB l) = some (encB (delK k l)) := mdel_map (kc := .w32) kEq_32 encK k l
theorem encR2_get (k : W32) (l : List (W32 × TK)) : mget (.w32 k) (encR2 l) = some ((iK k l).map encT) := mget_map (kc := .w32) kEq_32 encT k l
theorem encR2_put (k : W32) (v : TK) (l : List (W32 × TK)) : mput (.w32 k) (.rp (trC v.seed.l v.h)) (encR2 l) = some (encR2 (putK k v l)) := mput_map (kc := .w32) kEq_32 encT k v l
theorem encR2_del (k : W32) (l : List (W32 × TK)) : mdel (.w32 k) (encR2 l) = some (encR2 (delK k l)) := mdel_map (kc := .w32) kEq_32 encT k l
theorem encB_len (l : List (W32 × KY)) : (encB l).length = l.length := List.length_map _
attribute [go_sem] setR_m setR_updM setR_updS rng_set setR_set jN jJ setR_del cfOf_cfC encB_get encB_del encR2_get encR2_put encR2_del encB_len
end Go.AX
namespace Go.AX
open Go Go.Proofs
set_option maxRecDepth 8000
theorem storeL4 (a0 a1 a2 a3 b0 b1 b2 b3 : AV) : dV [a0, a1, a2, a3] 0 [b0, b1, b2, b3] = [b0, b1, b2, b3] := (rfl)
theorem storeL13 (a0 a1 a2 a3 a4 a5 a6 a7 a8 a9 a10 a11 a12 b0 b1 b2 b3 b4 b5 b6 b7 b8 b9 b10 b11 b12 : AV) : dV [a0, a1, a2, a3, a4, a5, a6, a7, a8, a9, a10, a11, a12] 0 [b0, b1, b2, b3, b4, b5, b6, b7, b8, b9, b10, b11, b12] = [b0, b1, b2, b3, b4, b5, b6, b7, b8, b9, b10, b11, b12] := (rfl)
theorem storeL15 (a0 a1 a2 a3 a4 a5 a6 a7 a8 a9 a10 a11 a12 a13 a14 b0 b1 b2 b3 b4 b5 b6 b7 b8 b9 b10 b11 b12 b13 b14 : AV) : dV [a0, a1, a2, a3, a4, a5, a6, a7, a8, a9, a10, a11, a12, a13, a14] 0 [b0, b1, b2, b3, b4, b5, b6, b7, b8, b9, b10, b11, b12, b13, b14] = [b0, b1, b2, b3, b4, b5, b6, b7, b8, b9, b10, b11, b12, b13, b14] := (rfl)
theorem storeL16 (a0 a1 a2 a3 a4 a5 a6 a7 a8 a9 a10 a11 a12 a13 a14 a15 b0 b1 b2 b3 b4 b5 b6 b7 b8 b9 b10 b11 b12 b13 b14 b15 : AV) : dV [a0, a1, a2, a3, a4, a5, a6, a7, a8, a9, a10, a11, a12, a13, a14, a15] 0 [b0, b1, b2, b3, b4, b5, b6, b7, b8, b9, b10, b11, b12, b13, b14, b15] = [b0, b1, b2, b3, b4, b5, b6, b7, b8, b9, b10, b11, b12, b13, b14, b15] := (rfl)
attribute [go_sem] storeL4 storeL13 storeL15 storeL16
def apN : List B8 := [101#8, 120#8, 97#8, 109#8, 112#8, 108#8, 101#8]
def apexG : List AV → Option (Nat × Nat × List AV)
 | [] => some (1, 1, cS [apN])
 | _ => none
theorem apexG_eq : apexG [] = some (1, 1, cS [apN]) := (rfl)
attribute [go_sem] apexG_eq
theorem apex_ok : dH Tryd.prog GLh 35 apexG := by
 refine cT Tryd.func35 (aT rfl) ?_
 intro args r hg
 unfold apexG at hg
 split at hg
 ·obtain rfl := Option.some.inj hg
  refine ⟨Nat.le_of_ble_eq_true rfl, fun nx => ?_⟩
  refine aA rfl ?_
  refine aC (Γ := aL) [] (aD _ _) rfl rfl rfl (fun K hK => ?_)
  simp (disch := omega) only [Tryd.f35, go_sem]
  refine hK _ ?_
  refine aB ?_
  refine aA rfl ?_
  refine aC (Γ := aL) [0] (aD _ _) rfl rfl rfl (fun K hK => ?_)
  simp (disch := omega) only [Tryd.f35, go_sem, Nat.reduceAdd, Nat.reduceLeDiff, Nat.reduceLT]
  refine hK _ ?_
  refine aB ?_
  refine aS rfl ?_
  simp (disch := omega) only [fE, eO, bV, bK, bQ, Tryd.f35, go_sem, ↓reduceIte]
  rfl
 ·cases hg
theorem okd46 : bX Tryd.prog GLh 35 (.fresh true apexG) := ⟨⟨_, Tryd.func35, rfl, rfl⟩, apex_ok⟩
def cfg0 : CF := ⟨[apN], 10#32, 0#32, 8#32, 0#32, 300#32, 100#32, 20#32, 60#32, [], 0#16, 6, 1400#16⟩
def cfgG : List AV → Option AV
 | [.w16 k] => aN (k = 0#16) (some (.agg (cfC cfg0)))
 | _ => none
theorem cfgG_eq (k : BitVec 16) : cfgG [.w16 k] = aN (k = 0#16) (some (.agg (cfC cfg0))) := (rfl)
attribute [go_sem] cfgG_eq
def putF : List AV → Option (Nat × Nat × List AV)
 | [.v (.slice none 0 0), .w32 n, .i k] => aN (0 ≤ k ∧ k ≤ 8) (some (k.toNat, 1, c8 (beL n k.toNat k.toNat)))
 | _ => none
theorem putF_eq (n : W32) (k : Int) : putF [.v (.slice none 0 0), .w32 n, .i k] = aN (0 ≤ k ∧ k ≤ 8) (some (k.toNat, 1, c8 (beL n k.toNat k.toNat))) := (rfl)
attribute [go_sem] putF_eq
set_option maxHeartbeats 4000000 in
theorem put_okF : dH Tryd.prog GLh 44 putF := by
 refine cT Tryd.func44 (aT rfl) ?_
 intro args r hg
 unfold putF at hg
 split at hg
 ·rename_i n k0
  replace hg := aP hg; obtain ⟨⟨hk1, hk8⟩, hg⟩ := hg
  obtain rfl := Option.some.inj hg
  obtain ⟨k, rfl⟩ := Int.eq_ofNat_of_zero_le (show 0 ≤ k0 by omega)
  simp only [Int.toNat_natCast] at *
  clear hg
  refine ⟨Nat.le_of_ble_eq_true rfl, fun nx => ?_⟩
  refine aA rfl ?_
  refine aC (Γ := aL) [0, 1, 2] (aD _ _) rfl rfl rfl (fun K hK => ?_)
  simp (disch := omega) only [Tryd.f44, go_sem, Nat.reduceAdd, ↓reduceIte]
  refine hK _ ?_
  refine aB ?_
  refine aA rfl ?_
  refine aA rfl ?_
  refine aC (Γ := aL) [0, 1, 7] (aD _ _) rfl rfl rfl (fun K hK => ?_)
  simp (disch := omega) only [Tryd.f44, go_sem, Nat.reduceAdd, ↓reduceIte]
  refine hK _ ?_
  refine aB ?_
  refine iE 0 1 rfl ?_
  refine fF [0, 1, 7] ?_
  simp only [iB, fU, eB, ↓reduceIte, Nat.reduceEqDiff]
  refine aR 0 rfl rfl ?_
  refine bR (fun p : KIC => { fr := [(0, .os p.id 0 p.k 1 true), (1, .w32 n), (7, .i ((k : Int) - 1 - (p.k : Int)))], hp := upd (fun _ => none) p.id (.cells (c8 (beL n k p.k)) true), nx := 0, cx := p.c }) (fun p => p.k ≤ k ∧ p.id < p.c) (fun p => k - p.k) rfl ⟨⟨0, _, _⟩, ⟨Nat.zero_le _, by simp only; omega⟩, bD (by simp only [Int.natCast_zero, Int.sub_zero]) rfl (Nat.le_refl _)⟩ ?_
  rintro ⟨j, id, c⟩ ⟨hj, hid⟩ n0
  simp only at hj hid ⊢
  refine aA rfl ?_
  refine aA rfl ?_
  refine aC (Γ := aL) [11, 0, 1, 7] (aD _ _) rfl rfl rfl (fun K hK => ?_)
  simp (disch := omega) only [Tryd.f44, go_sem, Nat.reduceAdd, ↓reduceIte]
  refine hK _ ?_
  refine aB ?_
  refine aW (.tmp 11) rfl rfl rfl (fun h => ?_) (fun h => ?_)
  ·skip
   refine aI rfl ?_
   have e1 : (BitVec.ofInt 64 (8 * ((k : Int) - 1 - (j : Int)))).toNat = 8 * (k - 1 - j) := by rw [BitVec.toNat_ofInt]; omega
   have hl := cZ n k j
   refine aQ rfl ?_
   refine aB ?_
   refine aA rfl ?_
   refine aR 1 rfl rfl ?_
   refine aC (Γ := aL) [0, 1, 7] (aD _ _) rfl rfl rfl (fun K hK => ?_)
   simp (disch := omega) only [Tryd.f44, go_sem, Nat.reduceAdd, Nat.reduceLeDiff, Nat.reduceLT, ↓reduceIte, e1, hl]
   refine hK _ ?_
   refine bU (aB ?_)
   refine aC (Γ := aL) [0, 1, 7] (aD _ _) rfl rfl rfl (fun K hK => ?_)
   simp (disch := omega) only [Tryd.f44, go_sem, Nat.reduceAdd, ↓reduceIte]
   refine hK _ ?_
   refine bT ?_
   have e2 : (k : Int) - 1 - ((j : Int) + 1) = (k : Int) - 1 - (j : Int) - 1 := by omega
   have e4 : beL n k (j + 1) = beL n k j ++ [(n >>> (8 * (k - 1 - j))).setWidth 8] := rfl
   refine ⟨⟨j + 1, c + 2 + 8, _⟩, ⟨by simp only; omega, by simp only; omega⟩, by simp only; omega, ⟨fun _ => .inr ?_, fun j o h => ?_, Nat.le_refl _⟩⟩
   ·simp only [Int.natCast_add, Int.natCast_one, e2]
   ·simp only at h
    exact bS (by simp (disch := omega) only [aV, ↓reduceIte, eq_self, e4]) (cB) j o h
  ·skip
   refine aI rfl ?_
   refine bF 0 rfl rfl ?_
   refine aY (aZ (bE ?_))
   refine aB ?_
   refine aA rfl ?_
   obtain rfl : j = k := by omega
   have hl := cZ n j j
   refine aC (Γ := aL) [6] (aD _ _) rfl rfl rfl (fun K hK => ?_)
   simp (disch := omega) only [Tryd.f44, go_sem, Nat.reduceAdd, ↓reduceIte]
   refine hK _ ?_
   refine aB ?_
   refine aS rfl ?_
   simp (disch := omega) only [fE, eO, bV, bK, bQ, Tryd.f44, go_sem, ↓reduceIte, fQ, hl]
 ·cases hg
theorem okd48 : bX Tryd.prog GLh 44 (.fresh false putF) := ⟨⟨_, Tryd.func44, rfl, rfl⟩, put_okF⟩
theorem tag2 (t : BitVec 16) : beL (t.setWidth 32) 2 2 = [(t >>> 8).setWidth 8, t.setWidth 8] := by
 have e : (t.setWidth 32 >>> 8).setWidth 8 = (t >>> 8).setWidth 8 := by
  apply BitVec.eq_of_toNat_eq
  have := t.isLt
  simp only [BitVec.toNat_setWidth, BitVec.toNat_ushiftRight, Nat.shiftRight_eq_div_pow]; omega
 have e2 : (t.setWidth 32 >>> 0).setWidth 8 = t.setWidth 8 := by
  apply BitVec.eq_of_toNat_eq
  have := t.isLt
  simp only [BitVec.toNat_setWidth, BitVec.toNat_ushiftRight, Nat.shiftRight_eq_div_pow]; omega
 simp only [beL, List.nil_append, List.cons_append, Nat.reduceSub, Nat.reduceMul, e, e2]
theorem callS_g2 (f : FuncId) (args : List AV) (nx n : Nat) (hp : H) (id cx : Nat) (g : List AV → Option (Nat × Nat × List AV)) : callS f args 2 nx n hp id cx (some (.fresh false g)) = aK (fW (fun _ => none) args) fun as_ => aK (g as_) fun r => some (.os id 0 r.1 r.2.1 true, upd hp id (.cells r.2.2 true), cx) := (rfl)
theorem dr_s (x : AV) (l : List AV) (k : Nat) : List.drop (k + 1) (x :: l) = List.drop k l := (rfl)
attribute [go_sem] callS_g2 dr_s
def keyB (f : BitVec 16) (p a : B8) (k : List B8) : List B8 := [(f >>> 8).setWidth 8, f.setWidth 8] ++ [p, a] ++ k
def keyBG : List AV → Option (Nat × Nat × List AV)
 | [.agg [.w16 f, .w8 p, .w8 a, .sl n xs]] => aK (cI xs) fun k => aN (k.length = n ∧ n ≤ 100000) (some ((keyB f p a k).length, 1, c8 (keyB f p a k)))
 | _ => none
theorem keyBG_eq (f : BitVec 16) (p a : B8) (n : Nat) (xs : List AV) : keyBG [.agg [.w16 f, .w8 p, .w8 a, .sl n xs]] = aK (cI xs) fun k => aN (k.length = n ∧ n ≤ 100000) (some ((keyB f p a k).length, 1, c8 (keyB f p a k))) := (rfl)
attribute [go_sem] keyBG_eq
set_option maxHeartbeats 4000000 in
theorem keyB_ok : dH Tryd.prog GLh 32 keyBG := by
 refine cT Tryd.func32 (aT rfl) ?_
 intro args r hg
 unfold keyBG at hg
 split at hg
 ·rename_i f p a n xs
  replace hg := aJ hg; obtain ⟨k, hk, hg⟩ := hg
  replace hg := aP hg; obtain ⟨⟨rfl, hn⟩, hg⟩ := hg
  obtain rfl := Option.some.inj hg
  have := bW hk; subst this
  clear hg hk
  refine ⟨Nat.le_of_ble_eq_true rfl, fun nx => ?_⟩
  have e2 := tag2 f
  have ekb : [(f >>> 8).setWidth 8, f.setWidth 8] ++ [p, a] ++ k = keyB f p a k := rfl
  have ekl : (keyB f p a k).length = 4 + k.length := by rw [← ekb]; simp; omega
  refine aA rfl ?_
  refine aC (Γ := aL) [1] (aD _ _) rfl rfl rfl (fun K hK => ?_)
  simp (disch := omega) only [Tryd.f32, go_sem, Nat.reduceAdd, ↓reduceIte]
  refine hK _ ?_
  refine aB ?_
  refine awp_rp 1 nx 0 rfl (by simp only [aV, if_true]; rfl) ?_
  refine aA rfl ?_
  refine bB (Γ := bC [(44, .fresh false putF)]) (fun k => if k = 1 then 1 else if k = 5 then 1 else if k = 7 then 1 else if k = 11 then 1 else 2) [2] bZ (aH okd48 aO) rfl rfl rfl (by kernel_rfl) (fun K hK => ?_)
  simp (disch := omega) only [Tryd.f32, go_sem, Nat.reduceAdd, Nat.reduceLeDiff, Nat.reduceLT, Int.reduceLE, Int.reduceToNat, ↓reduceIte, e2, List.head?_cons, List.take_succ_cons, List.take_zero, List.drop_succ_cons, List.drop_zero]
  refine hK _ ?_
  refine aB ?_
  refine aS rfl ?_
  simp (disch := omega) only [fE, eO, bV, bK, bQ, Tryd.f32, go_sem, ↓reduceIte, ekl]
  rfl
 ·cases hg
theorem okd30 : bX Tryd.prog GLh 32 (.fresh true keyBG) := ⟨⟨_, Tryd.func32, rfl, rfl⟩, keyB_ok⟩
def setG : List AV → Option AV
 | [] => some (.agg (cfC { cfg0 with h := 2 }))
 | _ => none
theorem setG_eq : setG [] = some (.agg (cfC { cfg0 with h := 2 })) := (rfl)
attribute [go_sem] setG_eq
noncomputable def rnewG : List AV → H → Nat → Option (AV × H × Nat)
 | [.agg xs], hp, nx => aK (cfOf xs) fun c => some (.op (nx + 6) 0, iL (nx + 6) (nx + 3) (nx + 4) ⟨c, [], 0#32, []⟩ hp, nx + 20)
 | _, _, _ => none
theorem rnewG_eq (xs : List AV) (hp : H) (nx : Nat) : rnewG [.agg xs] hp nx = aK (cfOf xs) fun c => some (.op (nx + 6) 0, iL (nx + 6) (nx + 3) (nx + 4) ⟨c, [], 0#32, []⟩ hp, nx + 20) := (rfl)
attribute [go_sem] rnewG_eq
theorem rnew_ok : cQ Tryd.prog GLh 17 rnewG := by
 refine gF Tryd.func17 (aT rfl) ?_
 intro args hp nx r hp' nx' hg
 unfold rnewG at hg
 split at hg
 ·rename_i xs
  replace hg := aJ hg; obtain ⟨c, hc, hg⟩ := hg
  have := cfOf_inv hc; subst this
  simp only [Option.some.injEq, Prod.mk.injEq] at hg; obtain ⟨rfl, rfl, rfl⟩ := hg
  refine ⟨Nat.le_of_ble_eq_true rfl, by omega, fun hnone => ?_⟩
  refine aA rfl ?_
  refine aC (Γ := aL) [1] (aD _ _) rfl rfl rfl (fun K hK => ?_)
  simp (disch := omega) only [Tryd.f17, go_sem, Nat.reduceAdd, ↓reduceIte, jI]
  refine hK _ ?_
  refine aB ?_
  refine aA rfl ?_
  refine aC (Γ := aL) [2] (aD _ _) rfl rfl rfl (fun K hK => ?_)
  simp (disch := omega) only [Tryd.f17, go_sem, Nat.reduceAdd, Nat.reduceLeDiff, ↓reduceIte, cK, List.nil_append, List.cons_append, List.take_succ_cons, List.take_zero, List.drop_succ_cons, List.drop_zero, List.all_cons, List.all_nil, Option.isSome_some, Bool.and_self]
  refine hK _ ?_
  refine aB ?_
  refine aS rfl ?_
  have hlt : ∀ k o, hp k = some o → k < nx := fun k o hk => gI hnone hk
  refine ⟨rfl, fun j o hj => setR_sub (C := ⟨c, [], 0#32, []⟩) ?_ ?_ ?_ ?_ j o hj, by simp only; omega⟩
  ·simp only [bJ, rgC, Nat.add_assoc, Nat.reduceAdd, if_true]
  ·simp only [bJ, Nat.add_assoc, Nat.reduceAdd]
   rw [if_neg (by omega), if_neg (by omega), if_pos trivial]; rfl
  ·simp only [bJ, Nat.add_assoc, Nat.reduceAdd]
   rw [if_neg (by omega), if_pos trivial]; rfl
  ·intro k o k1 k2 k3 hk
   have := hlt k o hk
   simp only [bJ]
   rw [if_neg (by omega), if_neg (by omega), if_neg (by omega), if_neg (by omega)]; exact hk
 ·cases hg
theorem okd7 : bX Tryd.prog GLh 17 (.heap rnewG) := ⟨⟨_, Tryd.func17, rfl, rfl⟩, rnew_ok⟩
end Go.AX
namespace Go.AX
open Go Go.Proofs
set_option maxRecDepth 8000
structure ROk (C : RC) : Prop where
 key : ∀ id k, iK id C.by' = some k → k.id = id ∧ k.h ≤ 10 ∧ k.next.toNat ≤ 2 ^ k.h ∧ id.toNat ≤ C.last.toNat
 tree : ∀ id t, iK id C.tr = some t → ∃ k, iK id C.by' = some k ∧ t = ⟨k.seed, k.h⟩
 nb : (C.by'.map (·.1)).Nodup
 nt : (C.tr.map (·.1)).Nodup
theorem put_keys {β : Type} (a : W32) (v : β) : ∀ l : List (W32 × β), (putK a v l).map (·.1) = if a ∈ l.map (·.1) then l.map (·.1) else l.map (·.1) ++ [a]
 | [] => by simp [putK]
 | p :: r => by
  simp only [putK]
  by_cases h : a = p.1
  ·subst h; simp
  ·rw [if_neg h]
   simp only [List.map_cons, put_keys a v r, List.mem_cons]
   by_cases h2 : a ∈ r.map (·.1)
   ·rw [if_pos h2, if_pos (.inr h2)]
   ·rw [if_neg h2, if_neg (fun e => e.elim h h2), List.cons_append]
theorem put_nodup {β : Type} (a : W32) (v : β) (l : List (W32 × β)) (h : (l.map (·.1)).Nodup) : ((putK a v l).map (·.1)).Nodup := by
 rw [put_keys]
 split
 ·exact h
 ·rename_i h2
  rw [List.nodup_append]
  exact ⟨h, by simp, fun x hx y hy => by simp at hy; subst hy; exact fun e => h2 (e ▸ hx)⟩
theorem get_none {β : Type} (a : W32) : ∀ l : List (W32 × β), a ∉ l.map (·.1) → iK a l = none
 | [], _ => rfl
 | p :: r, h => by
  simp only [iK]
  rw [if_neg (fun e => h (by simp [e])), get_none a r (fun e => h (by simp only [List.map_cons, List.mem_cons]; exact .inr e))]
theorem del_keys {β : Type} (a : W32) : ∀ l : List (W32 × β), ∀ x, x ∈ (delK a l).map (·.1) → x ∈ l.map (·.1)
 | [], x, h => h
 | p :: r, x, h => by
  simp only [delK] at h
  split at h
  ·rw [List.map_cons, List.mem_cons]; exact .inr h
  ·rw [List.map_cons, List.mem_cons] at h ⊢
   exact h.imp id (del_keys a r x)
theorem del_nodup {β : Type} (a : W32) : ∀ l : List (W32 × β), (l.map (·.1)).Nodup → ((delK a l).map (·.1)).Nodup
 | [], h => h
 | p :: r, h => by
  rw [List.map_cons, List.nodup_cons] at h
  simp only [delK]
  split
  ·exact h.2
  ·rw [List.map_cons, List.nodup_cons]
   exact ⟨fun e => h.1 (del_keys a r _ e), del_nodup a r h.2⟩
theorem getK_del {β : Type} (a b : W32) : ∀ l : List (W32 × β), (l.map (·.1)).Nodup → iK a (delK b l) = if a = b then none else iK a l
 | [], _ => by simp [delK, iK]
 | p :: r, h => by
  rw [List.map_cons, List.nodup_cons] at h
  simp only [delK]
  by_cases hb : b = p.1
  ·rw [if_pos hb]
   by_cases ha : a = b
   ·rw [if_pos ha]
    exact get_none a r (by rw [ha, hb]; exact h.1)
   ·rw [if_neg ha]
    simp only [iK]
    rw [if_neg (fun e => ha (e.trans hb.symm))]
  ·rw [if_neg hb]
   simp only [iK]
   rw [getK_del a b r h.2]
   by_cases ha : a = p.1
   ·rw [if_pos ha, if_pos ha, if_neg (fun e => hb (e.symm.trans ha))]
   ·rw [if_neg ha, if_neg ha]
theorem jK {β : Type} (a b : W32) (v : β) : ∀ l : List (W32 × β), iK a (putK b v l) = if a = b then some v else iK a l
 | [] => by
  simp only [putK, iK]
 | p :: r => by
  simp only [putK]
  by_cases h : b = p.1
  ·rw [if_pos h]
   simp only [iK]
   by_cases h2 : a = b
   ·simp [h2]
   ·rw [if_neg h2, if_neg h2, if_neg (fun e => h2 (e.trans h.symm))]
  ·rw [if_neg h]
   simp only [iK, jK a b v r]
   by_cases h2 : a = p.1
   ·subst h2
    rw [if_pos rfl, if_neg (Ne.symm h), if_pos rfl]
   ·rw [if_neg h2, if_neg h2]
theorem ROk.new (c : CF) : ROk ⟨c, [], 0#32, []⟩ := ⟨fun _ _ h => (nomatch h), fun _ _ h => (nomatch h), List.nodup_nil, List.nodup_nil⟩
noncomputable instance (C : RC) : Decidable (ROk C) := Classical.propDecidable _
theorem pow_le10 {h : Nat} (hh : h ≤ 10) : 2 ^ h ≤ 1024 ∧ 1 ≤ 2 ^ h := by
 have : h = 0 ∨ h = 1 ∨ h = 2 ∨ h = 3 ∨ h = 4 ∨ h = 5 ∨ h = 6 ∨ h = 7 ∨ h = 8 ∨ h = 9 ∨ h = 10 := by omega
 rcases this with rfl | rfl | rfl | rfl | rfl | rfl | rfl | rfl | rfl | rfl | rfl <;> decide
def nlv (h : Nat) : W32 := BitVec.ofNat 32 (2 ^ h)
theorem nlv_nat {h : Nat} (hh : h ≤ 10) : (nlv h).toNat = 2 ^ h := by
 have := (pow_le10 hh).1
 rw [nlv, BitVec.toNat_ofNat, Nat.mod_eq_of_lt (by omega)]
def lfV (C : RC) (id : W32) : W32 := match iK id C.by' with
 | none => 0#32
 | some k => nlv k.h - k.next
noncomputable def leftG : List AV → H → Nat → Option (AV × H × Nat)
 | [.op d 0, .w32 id], hp, nx => aK (iN hp d) fun t => aN (ROk t.C) (some (.w32 (lfV t.C id), hp, nx + 50))
 | _, _, _ => none
theorem leftG_eq (d : Nat) (id : W32) (hp : H) (nx : Nat) : leftG [.op d 0, .w32 id] hp nx = aK (iN hp d) fun t => aN (ROk t.C) (some (.w32 (lfV t.C id), hp, nx + 50)) := (rfl)
attribute [go_sem] leftG_eq
theorem encK_eq (k : KY) : encK k = .agg [.w32 k.id, .i k.role, .i k.st, .w8 k.seed.a, .w8 k.seed.b, .w8 k.seed.c, .w8 k.seed.d, .w8 k.seed.e, .w8 k.seed.f, .w8 k.seed.g, .w8 k.seed.h, .i k.h, .w32 k.next, .w32 k.since, .w32 k.seen] := rfl
theorem zv43 : zvA Tryd.prog 43 = some (.agg [.w32 0#32, .i 0, .i 0, .w8 0#8, .w8 0#8, .w8 0#8, .w8 0#8, .w8 0#8, .w8 0#8, .w8 0#8, .w8 0#8, .i 0, .w32 0#32, .w32 0#32, .w32 0#32]) := by kernel_rfl
theorem zcK : cG Tryd.prog 43 = some [.w32 0#32, .i 0, .i 0, .w8 0#8, .w8 0#8, .w8 0#8, .w8 0#8, .w8 0#8, .w8 0#8, .w8 0#8, .w8 0#8, .i 0, .w32 0#32, .w32 0#32, .w32 0#32] := by kernel_rfl
attribute [go_sem] zv43 zcK
theorem jB {hp : H} {nx i : Nat} {a : AO} (hn : ∀ id, nx ≤ id → hp id = none) (hi : nx ≤ i) : ∀ j o, hp j = some o → upd hp i a j = some o := by
 intro j o h
 rw [bJ]
 split
 ·rename_i e; subst e; rw [hn j hi] at h; cases h
 ·exact h
def nkey (C : RC) (role : Int) (seed : S8) (st : Int) (now : W32) : KY := ⟨C.last + 1#32, role, st, seed, C.c.h, 0#32, now, 0#32⟩
def mkC (C : RC) (k : KY) : RC := { C with last := C.last + 1#32, by' := putK (C.last + 1#32) k C.by' }
def mkV (C : RC) (role : Int) (seed : S8) (st : Int) (now : W32) : W32 × Int × RC :=
 if (role ≠ 0 ∧ role ≠ 1) ∨ st < 0 ∨ 3 < st then (0#32, 131, C)
 else if 16 ≤ C.by'.length then (0#32, 133, C)
 else (C.last + 1#32, 0, mkC C (nkey C role seed st now))
theorem last_suc {C : RC} (h : C.last.toNat < 1000000) : (C.last + 1#32).toNat = C.last.toNat + 1 := by
 rw [BitVec.toNat_add]
 show (C.last.toNat + 1) % 2 ^ 32 = _
 omega
theorem ROk.mk' {C : RC} (h : ROk C) (hl : C.last.toNat < 1000000) (hh : C.c.h ≤ 10) (role : Int) (seed : S8) (st : Int) (now : W32) : ROk (mkC C (nkey C role seed st now)) := by
 have hs := last_suc hl
 have hno : iK (C.last + 1#32) C.by' = none := by
  rcases e : iK (C.last + 1#32) C.by' with _ | k
  ·rfl
  ·have := (h.key _ _ e).2.2.2
   omega
 refine ⟨fun id k hk => ?_, fun id t ht => ?_, put_nodup _ _ _ h.nb, h.nt⟩
 ·simp only [mkC, jK] at hk
  split at hk
  ·rename_i e
   obtain rfl := Option.some.inj hk
   subst e
   refine ⟨rfl, hh, ?_, ?_⟩
   ·show (0#32).toNat ≤ _
    exact Nat.zero_le _
   ·exact Nat.le_refl _
  ·obtain ⟨a1, a2, a3, a4⟩ := h.key _ _ hk
   refine ⟨a1, a2, a3, ?_⟩
   show id.toNat ≤ (C.last + 1#32).toNat
   omega
 ·obtain ⟨k, a1, a2⟩ := h.tree _ _ ht
  refine ⟨k, ?_, a2⟩
  simp only [mkC, jK]
  rw [if_neg (fun e => by subst e; rw [hno] at a1; cases a1)]
  exact a1
theorem ROk.mkV {C : RC} (h : ROk C) (hl : C.last.toNat < 1000000) (hh : C.c.h ≤ 10) (role : Int) (seed : S8) (st : Int) (now : W32) : ROk (mkV C role seed st now).2.2 := by
 unfold AX.mkV
 split
 ·exact h
 ·split
  ·exact h
  ·exact h.mk' hl hh role seed st now
def s8L : List B8 → Option S8
 | [a, b, c, d, e, f, g, h] => some ⟨a, b, c, d, e, f, g, h⟩
 | _ => none
theorem s8L_inv {l : List B8} {s : S8} (h : s8L l = some s) : l = s.l := by
 unfold s8L at h
 split at h
 ·obtain rfl := Option.some.inj h; rfl
 ·cases h
noncomputable def makeG : List AV → H → Nat → Option (AV × H × Nat)
 | [.op d 0, .i role, .agg xs, .i st, .w32 now], hp, nx => aK (iN hp d) fun t => aK (un8 xs) fun l => aK (s8L l) fun sd => aN (ROk t.C ∧ t.C.last.toNat < 1000000 ∧ t.C.c.h ≤ 10)
   (some (.tup [.w32 (mkV t.C role sd st now).1, .i (mkV t.C role sd st now).2.1], iL d t.s t.m (mkV t.C role sd st now).2.2 hp, nx + 100))
 | _, _, _ => none
theorem makeG_eq (d : Nat) (role st : Int) (now : W32) (xs : List AV) (hp : H) (nx : Nat) : makeG [.op d 0, .i role, .agg xs, .i st, .w32 now] hp nx = aK (iN hp d) fun t => aK (un8 xs) fun l => aK (s8L l) fun sd => aN (ROk t.C ∧ t.C.last.toNat < 1000000 ∧ t.C.c.h ≤ 10)
   (some (.tup [.w32 (mkV t.C role sd st now).1, .i (mkV t.C role sd st now).2.1], iL d t.s t.m (mkV t.C role sd st now).2.2 hp, nx + 100)) := (rfl)
attribute [go_sem] makeG_eq
theorem encB_putx (k id : W32) (role st : Int) (a b c d e f g h : B8) (hh : Nat) (n s se : W32) (l : List (W32 × KY)) : mput (.w32 k) (.agg [.w32 id, .i role, .i st, .w8 a, .w8 b, .w8 c, .w8 d, .w8 e, .w8 f, .w8 g, .w8 h, .i hh, .w32 n, .w32 s, .w32 se]) (encB l) = some (encB (putK k ⟨id, role, st, ⟨a, b, c, d, e, f, g, h⟩, hh, n, s, se⟩ l)) := encB_put k ⟨id, role, st, ⟨a, b, c, d, e, f, g, h⟩, hh, n, s, se⟩ l
attribute [go_sem] encB_putx
theorem make_r1 {Q : Exit → S → Prop} {fr0 : AV} {role st : Int} {now : W32} {x7 : AV} {hp : H} {nx cx : Nat} (hQ : Q .normal { fr := [(12, .b (decide ((role ≠ 0 ∧ role ≠ 1) ∨ st < 0 ∨ 3 < st))), (0, fr0), (1, .i role), (3, .i st), (4, .w32 now), (7, x7)], hp := hp, nx := cx, cx := cx + 15 }) :
  Awp Tryd.prog GLh Tryd.f19.ntmps (cl (cl (cl (cr (aE Tryd.f19))))) { fr := [(0, fr0), (1, .i role), (3, .i st), (4, .w32 now), (7, x7)], hp := hp, nx := nx, cx := cx } Q := by
 by_cases h0 : role = 0
 ·have d0 : decide (role = 0) = true := decide_eq_true h0
  by_cases h2 : st < 0
  ·have d2 : decide (st < 0) = true := decide_eq_true h2
   rw [decide_eq_true (by omega)] at hQ
   refine aC (Γ := aL) [12, 0, 1, 3, 4, 7] (aD _ _) rfl rfl rfl (fun K hK => ?_)
   simp (disch := omega) only [Tryd.f19, go_sem, Nat.reduceAdd, reduceCtorEq, ↓reduceIte, d0, d2, Bool.not_true, beq_self_eq_true]
   refine hK _ ?_
   exact hQ
  ·have d2 : decide (st < 0) = false := decide_eq_false h2
   by_cases h3 : 3 < st
   ·have d3 : decide (3 < st) = true := decide_eq_true h3
    rw [decide_eq_true (by omega)] at hQ
    refine aC (Γ := aL) [12, 0, 1, 3, 4, 7] (aD _ _) rfl rfl rfl (fun K hK => ?_)
    simp (disch := omega) only [Tryd.f19, go_sem, Nat.reduceAdd, reduceCtorEq, ↓reduceIte, d0, d2, d3, Bool.not_true, beq_self_eq_true]
    refine hK _ ?_
    exact hQ
   ·have d3 : decide (3 < st) = false := decide_eq_false h3
    rw [decide_eq_false (by omega)] at hQ
    refine aC (Γ := aL) [12, 0, 1, 3, 4, 7] (aD _ _) rfl rfl rfl (fun K hK => ?_)
    simp (disch := omega) only [Tryd.f19, go_sem, Nat.reduceAdd, reduceCtorEq, ↓reduceIte, d0, d2, d3, Bool.not_true, beq_self_eq_true]
    refine hK _ ?_
    exact hQ
 ·have d0 : decide (role = 0) = false := decide_eq_false h0
  by_cases h1 : role = 1
  ·have d1 : decide (role = 1) = true := decide_eq_true h1
   by_cases h2 : st < 0
   ·have d2 : decide (st < 0) = true := decide_eq_true h2
    rw [decide_eq_true (by omega)] at hQ
    refine aC (Γ := aL) [12, 0, 1, 3, 4, 7] (aD _ _) rfl rfl rfl (fun K hK => ?_)
    simp (disch := omega) only [Tryd.f19, go_sem, Nat.reduceAdd, reduceCtorEq, ↓reduceIte, d0, d1, d2, Bool.not_true, Bool.not_false, beq_self_eq_true]
    refine hK _ ?_
    exact hQ
   ·have d2 : decide (st < 0) = false := decide_eq_false h2
    by_cases h3 : 3 < st
    ·have d3 : decide (3 < st) = true := decide_eq_true h3
     rw [decide_eq_true (by omega)] at hQ
     refine aC (Γ := aL) [12, 0, 1, 3, 4, 7] (aD _ _) rfl rfl rfl (fun K hK => ?_)
     simp (disch := omega) only [Tryd.f19, go_sem, Nat.reduceAdd, reduceCtorEq, ↓reduceIte, d0, d1, d2, d3, Bool.not_true, Bool.not_false, beq_self_eq_true]
     refine hK _ ?_
     exact hQ
    ·have d3 : decide (3 < st) = false := decide_eq_false h3
     rw [decide_eq_false (by omega)] at hQ
     refine aC (Γ := aL) [12, 0, 1, 3, 4, 7] (aD _ _) rfl rfl rfl (fun K hK => ?_)
     simp (disch := omega) only [Tryd.f19, go_sem, Nat.reduceAdd, reduceCtorEq, ↓reduceIte, d0, d1, d2, d3, Bool.not_true, Bool.not_false, beq_self_eq_true]
     refine hK _ ?_
     exact hQ
  ·have d1 : decide (role = 1) = false := decide_eq_false h1
   rw [decide_eq_true (by omega)] at hQ
   refine aC (Γ := aL) [12, 0, 1, 3, 4, 7] (aD _ _) rfl rfl rfl (fun K hK => ?_)
   simp (disch := omega) only [Tryd.f19, go_sem, Nat.reduceAdd, ↓reduceIte, d0, d1, Bool.not_false, beq_self_eq_true]
   refine hK _ ?_
   exact hQ
set_option maxHeartbeats 1000000 in
theorem make_ok : cQ Tryd.prog GLh 19 makeG := by
 refine gF Tryd.func19 (aT rfl) ?_
 intro args hp nx r hp' nx' hg
 unfold makeG at hg
 split at hg
 ·rename_i d role xs st now
  replace hg := aJ hg; obtain ⟨⟨s, m, C⟩, hD0, hg⟩ := hg
  have hD := iV hD0
  replace hg := aJ hg; obtain ⟨l, hl8, hg⟩ := hg
  have := iX _ hl8; subst this
  replace hg := aJ hg; obtain ⟨S, hS8, hg⟩ := hg
  have := s8L_inv hS8; subst this
  have e0 : c8 S.l = [.w8 S.a, .w8 S.b, .w8 S.c, .w8 S.d, .w8 S.e, .w8 S.f, .w8 S.g, .w8 S.h] := rfl
  rw [e0]
  replace hg := aP hg; obtain ⟨⟨hok, hl, hc⟩, hg⟩ := hg
  simp only [Option.some.injEq, Prod.mk.injEq] at hg hD hok hl hc; obtain ⟨rfl, rfl, rfl⟩ := hg
  refine ⟨Nat.le_of_ble_eq_true rfl, by omega, fun hnone => ?_⟩
  have h1 := hD.hd; have h2 := hD.hs; have h3 := hD.hm
  obtain ⟨n1, n2, n3, n4, n5, n6⟩ := hD.ne
  have hlt : ∀ k o, hp k = some o → k < nx := fun k o hk => gI hnone hk
  have hd := hlt _ _ h1
  have hs := hlt _ _ h2
  have hm := hlt _ _ h3
  refine aA rfl ?_
  refine aC (Γ := aL) [0, 1, 3, 4, 7] (aD _ _) rfl rfl rfl (fun K hK => ?_)
  simp (disch := omega) only [Tryd.f19, go_sem, Nat.reduceAdd, Int.reduceLE, Int.reduceLT, BitVec.reduceOfInt, ↓reduceIte]
  refine hK _ ?_
  refine aB ?_
  refine aA rfl ?_
  refine aR 0 rfl rfl ?_
  refine aA rfl ?_
  refine make_r1 ?_
  refine aB ?_
  refine aW (.tmp 12) rfl rfl rfl (fun h => ?_) (fun h => ?_)
  ·skip
   have e : mkV C role S st now = (0#32, 131, C) := if_pos h
   rw [e]
   refine aA rfl ?_
   refine aC (Γ := aL) [10, 11] (aD _ _) rfl rfl rfl (fun K hK => ?_)
   simp (disch := omega) only [Tryd.f19, go_sem, Nat.reduceAdd, Int.reduceLE, Int.reduceLT, BitVec.reduceOfInt, ↓reduceIte]
   refine hK _ ?_
   refine aB ?_
   refine aS rfl ?_
   refine bN (bI ?_)
   rw [iQ hD]
   exact ⟨rfl, fun j o h => jB hnone (by omega) j o h, by simp only; omega⟩
  ·skip
   have hbad := h
   clear h
   refine aA rfl ?_
   refine aC (Γ := aL) [27, 0, 1, 3, 4, 7] (aD _ _) rfl rfl rfl (fun K hK => ?_)
   simp (disch := omega) only [Tryd.f19, go_sem, Nat.reduceAdd, Nat.reduceLT, ↓reduceIte, h1, h2, jA, List.head?_cons, List.drop_succ_cons, List.drop_zero, encB_len]
   refine hK _ ?_
   refine aB ?_
   refine aW (.tmp 27) rfl rfl rfl (fun h => ?_) (fun h => ?_)
   ·skip
    refine aI rfl ?_
    have e : mkV C role S st now = (0#32, 133, C) := by unfold mkV; rw [if_neg hbad, if_pos (by omega)]
    rw [e]
    refine aA rfl ?_
    refine aC (Γ := aL) [10, 11] (aD _ _) rfl rfl rfl (fun K hK => ?_)
    simp (disch := omega) only [Tryd.f19, go_sem, Nat.reduceAdd, Int.reduceLE, Int.reduceLT, BitVec.reduceOfInt, ↓reduceIte]
    refine hK _ ?_
    refine aB ?_
    refine aS rfl ?_
    refine bN (bI ?_)
    rw [iQ hD]
    exact ⟨rfl, fun j o h => jB hnone (by omega) j o h, by simp only; omega⟩
   ·skip
    refine aI rfl ?_
    have e : mkV C role S st now = (C.last + 1#32, 0, mkC C (nkey C role S st now)) := by unfold mkV; rw [if_neg hbad, if_neg (by omega)]
    rw [e]
    refine aQ rfl ?_
    refine bU (aB ?_)
    refine aA rfl ?_
    refine aC (Γ := aL) [0, 1, 3, 4, 7] (aD _ _) rfl rfl rfl (fun K hK => ?_)
    simp (disch := omega) only [Tryd.f19, go_sem, Nat.reduceAdd, Nat.reduceLeDiff, Nat.reduceLT, Int.reduceLE, Int.reduceLT, BitVec.reduceOfInt, ↓reduceIte, h1, jA, List.head?_cons, List.set_cons_succ, List.set_cons_zero, List.drop_succ_cons, List.drop_zero]
    refine hK _ ?_
    refine aB ?_
    refine aA rfl ?_
    refine bB (Γ := aL) (fun _ => 2) [0] bZ (aD _ _) rfl rfl rfl (by kernel_rfl) (fun K hK => ?_)
    simp (disch := omega) only [Tryd.f19, go_sem, Nat.reduceAdd, Nat.reduceLeDiff, Nat.reduceLT, ↓reduceIte, h2, List.head?_cons, List.take_succ_cons, List.take_zero, List.drop_succ_cons, List.drop_zero, List.all_cons, List.all_nil, Option.isSome_some, Bool.and_self, cK, List.nil_append, List.cons_append, encB_putx]
    refine hK _ ?_
    refine aB ?_
    refine aA rfl ?_
    refine aC (Γ := aL) [10, 11] (aD _ _) rfl rfl rfl (fun K hK => ?_)
    simp (disch := omega) only [Tryd.f19, go_sem, Nat.reduceAdd, Nat.reduceLT, ↓reduceIte, List.head?_cons, List.drop_succ_cons, List.drop_zero]
    refine hK _ ?_
    refine aB ?_
    refine aS rfl ?_
    refine ⟨rfl, fun j o hj => setR_sub (C := mkC C (nkey C role S st now)) ?_ ?_ ?_ ?_ j o hj, by simp only; omega⟩
    ·simp (disch := omega) only [aV, bY, ↓reduceIte, eq_self] <;> rfl
    ·simp (disch := omega) only [aV, ↓reduceIte, eq_self] <;> rfl
    ·simp (disch := omega) only [aV, bY, ↓reduceIte] <;> first | exact h3 | rfl
    ·intro k o k1 k2 k3 hk
     have := hlt k o hk
     simp (disch := omega) only [aV, bY, ↓reduceIte]
     exact hk
 ·cases hg
theorem okd9 : bX Tryd.prog GLh 19 (.heap makeG) := ⟨⟨_, Tryd.func19, rfl, rfl⟩, make_ok⟩
def skC (C : RC) (id : W32) (k : KY) (n : W32) : RC := { C with by' := putK id { k with next := n } C.by' }
def skV (C : RC) (id n : W32) : Int × RC := match iK id C.by' with
 | none => (130, C)
 | some k => if n ≤ k.next ∨ nlv k.h < n then (131, C) else (0, skC C id k n)
theorem skV_n {C : RC} {id n : W32} (h : iK id C.by' = none) : skV C id n = (130, C) := by rw [skV, h]
theorem skV_y {C : RC} {id n : W32} {k : KY} (h : iK id C.by' = some k) : skV C id n = if n ≤ k.next ∨ nlv k.h < n then (131, C) else (0, skC C id k n) := by rw [skV, h]
theorem ROk.skC {C : RC} (h : ROk C) {id n : W32} {k : KY} (hk : iK id C.by' = some k) (hn : n.toNat ≤ 2 ^ k.h) : ROk (skC C id k n) := by
 obtain ⟨b1, b2, b3, b4⟩ := h.key _ _ hk
 refine ⟨fun i k2 hk2 => ?_, fun i t ht => ?_, put_nodup _ _ _ h.nb, h.nt⟩
 ·simp only [AX.skC, jK] at hk2
  split at hk2
  ·rename_i e
   obtain rfl := Option.some.inj hk2
   subst e
   exact ⟨b1, b2, hn, b4⟩
  ·exact h.key _ _ hk2
 ·obtain ⟨k2, a1, a2⟩ := h.tree _ _ ht
  by_cases e : i = id
  ·subst e
   obtain rfl := Option.some.inj (hk.symm.trans a1)
   exact ⟨{ k with next := n }, by simp only [AX.skC, jK, if_true], a2⟩
  ·exact ⟨k2, by simp only [AX.skC, jK]; rw [if_neg e]; exact a1, a2⟩
theorem nlv_le {h : Nat} {n : W32} (hh : h ≤ 10) (hn : ¬ nlv h < n) : n.toNat ≤ 2 ^ h := by
 rw [← nlv_nat hh]
 exact BitVec.le_def.1 (BitVec.not_lt.1 hn)
theorem ROk.skV {C : RC} (h : ROk C) (id n : W32) : ROk (skV C id n).2 := by
 rcases hk : iK id C.by' with _ | k
 ·rw [skV_n hk]; exact h
 ·rw [skV_y hk]
  split
  ·exact h
  ·rename_i hn
   exact h.skC hk (nlv_le (h.key _ _ hk).2.1 (fun e => hn (.inr e)))
noncomputable def skipG : List AV → H → Nat → Option (AV × H × Nat)
 | [.op d 0, .w32 id, .w32 n], hp, nx => aK (iN hp d) fun t => aN (ROk t.C) (some (.i (skV t.C id n).1, iL d t.s t.m (skV t.C id n).2 hp, nx + 80))
 | _, _, _ => none
theorem skipG_eq (d : Nat) (id n : W32) (hp : H) (nx : Nat) : skipG [.op d 0, .w32 id, .w32 n] hp nx = aK (iN hp d) fun t => aN (ROk t.C) (some (.i (skV t.C id n).1, iL d t.s t.m (skV t.C id n).2 hp, nx + 80)) := (rfl)
attribute [go_sem] skipG_eq
end Go.AX
namespace Go.AX
open Go Go.Proofs
set_option maxRecDepth 8000
open Classical in
noncomputable def kyOf (xs : List AV) : Option KY := if h : ∃ k, xs = kyC k then some (Classical.choose h) else none
theorem kyOf_kyC (k : KY) : kyOf (kyC k) = some k := by
 have hx : ∃ k', kyC k = kyC k' := ⟨k, rfl⟩
 unfold kyOf
 rw [dif_pos hx]
 exact congrArg some (kyC_inj (Classical.choose_spec hx)).symm
theorem kyOf_inv {xs : List AV} {k : KY} (h : kyOf xs = some k) : xs = kyC k := by
 unfold kyOf at h
 split at h
 ·rename_i hx
  rw [← Option.some.inj h]
  exact Classical.choose_spec hx
 ·cases h
theorem encR2_putx (k : W32) (s : S8) (h : Nat) (l : List (W32 × TK)) : mput (.w32 k) (.rp (trC s.l h)) (encR2 l) = some (encR2 (putK k ⟨s, h⟩ l)) := encR2_put k ⟨s, h⟩ l
theorem un8_S8 (s : S8) : un8 [.w8 s.a, .w8 s.b, .w8 s.c, .w8 s.d, .w8 s.e, .w8 s.f, .w8 s.g, .w8 s.h] = some s.l := un8_c8 s.l
attribute [go_sem] encR2_putx un8_S8
noncomputable instance : DecidableEq KY := fun _ _ => Classical.propDecidable _
def trP (C : RC) (k : KY) : List (W32 × TK) := match iK k.id C.tr with
 | some _ => C.tr
 | none => putK k.id ⟨k.seed, k.h⟩ C.tr
theorem trP_y {C : RC} {k : KY} {t : TK} (h : iK k.id C.tr = some t) : trP C k = C.tr := by rw [trP, h]
theorem trP_n {C : RC} {k : KY} (h : iK k.id C.tr = none) : trP C k = putK k.id ⟨k.seed, k.h⟩ C.tr := by rw [trP, h]
theorem ROk.trP {C : RC} (h : ROk C) {k : KY} (hk : iK k.id C.by' = some k) : ROk { C with tr := trP C k } := by
 rcases e : iK k.id C.tr with _ | t
 ·rw [trP_n e]
  refine ⟨h.key, fun i t ht => ?_, h.nb, put_nodup _ _ _ h.nt⟩
  simp only [jK] at ht
  split at ht
  ·rename_i e2
   obtain rfl := Option.some.inj ht
   subst e2
   exact ⟨k, hk, rfl⟩
  ·exact h.tree _ _ ht
 ·rw [trP_y e]; exact h
noncomputable def treeG : List AV → H → Nat → Option (AV × H × Nat)
 | [.op d 0, .agg xs], hp, nx => aK (iN hp d) fun t => aK (kyOf xs) fun k => aN (ROk t.C ∧ iK k.id t.C.by' = some k) (some (.rp (trC k.seed.l k.h), iL d t.s t.m { t.C with tr := trP t.C k } hp, nx + 100))
 | _, _, _ => none
theorem treeG_eq (d : Nat) (xs : List AV) (hp : H) (nx : Nat) : treeG [.op d 0, .agg xs] hp nx = aK (iN hp d) fun t => aK (kyOf xs) fun k => aN (ROk t.C ∧ iK k.id t.C.by' = some k) (some (.rp (trC k.seed.l k.h), iL d t.s t.m { t.C with tr := trP t.C k } hp, nx + 100)) := (rfl)
attribute [go_sem] treeG_eq
set_option maxHeartbeats 1000000 in
theorem tree_ok : cQ Tryd.prog GLh 30 treeG := by
 refine gF Tryd.func30 (aT rfl) ?_
 intro args hp nx r hp' nx' hg
 unfold treeG at hg
 split at hg
 ·rename_i d xs
  replace hg := aJ hg; obtain ⟨⟨s, m, C⟩, hD0, hg⟩ := hg
  have hD := iV hD0
  replace hg := aJ hg; obtain ⟨k, hk0, hg⟩ := hg
  have := kyOf_inv hk0; subst this
  replace hg := aP hg; obtain ⟨⟨hok, hk⟩, hg⟩ := hg
  simp only [Option.some.injEq, Prod.mk.injEq] at hg hD hok hk; obtain ⟨rfl, rfl, rfl⟩ := hg
  refine ⟨Nat.le_of_ble_eq_true rfl, by omega, fun hnone => ?_⟩
  have h1 := hD.hd; have h2 := hD.hs; have h3 := hD.hm
  obtain ⟨n1, n2, n3, n4, n5, n6⟩ := hD.ne
  have hlt : ∀ k o, hp k = some o → k < nx := fun k o hk => gI hnone hk
  have hd := hlt _ _ h1
  have hs := hlt _ _ h2
  have hm := hlt _ _ h3
  obtain ⟨k1, k2, k3, k4⟩ := hok.key _ _ hk
  have ekc : kyC k = [.w32 k.id, .i k.role, .i k.st, .w8 k.seed.a, .w8 k.seed.b, .w8 k.seed.c, .w8 k.seed.d, .w8 k.seed.e, .w8 k.seed.f, .w8 k.seed.g, .w8 k.seed.h, .i k.h, .w32 k.next, .w32 k.since, .w32 k.seen] := rfl
  rw [ekc]
  have hnr : newR [k.seed.a, k.seed.b, k.seed.c, k.seed.d, k.seed.e, k.seed.f, k.seed.g, k.seed.h] (k.h : Int) = .tup [.rp (trC k.seed.l k.h), .i 0] := newR_y k.seed.l k.h k2
  refine aA rfl ?_
  refine aC (Γ := aL) [0, 3] (aD _ _) rfl rfl rfl (fun K hK => ?_)
  simp (disch := omega) only [Tryd.f30, go_sem, Nat.reduceAdd, ↓reduceIte]
  refine hK _ ?_
  refine aB ?_
  rcases ht : iK k.id C.tr with _ | t
  ·skip
   rw [trP_n ht]
   refine aA rfl ?_
   refine bB (Γ := aL) (fun k => if k = 6 then 0 else 2) [0, 3, 5] bZ (aD _ _) rfl rfl rfl (by kernel_rfl) (fun K hK => ?_)
   simp (disch := omega) only [Tryd.f30, go_sem, Nat.reduceAdd, Nat.reduceLT, ↓reduceIte, h1, h3, ht, jA, List.head?_cons, List.drop_succ_cons, List.drop_zero]
   refine hK _ ?_
   refine aB ?_
   refine aA rfl ?_
   refine aA rfl ?_
   refine aC (Γ := aL) [14, 0, 3, 5] (aD _ _) rfl rfl rfl (fun K hK => ?_)
   simp (disch := omega) only [Tryd.f30, go_sem, Nat.reduceAdd, ↓reduceIte]
   refine hK _ ?_
   refine aB ?_
   refine eC (.tmp 14) rfl rfl rfl (fun h => ?_) (fun h => ?_)
   ·skip
    refine aI rfl ?_
    refine aA rfl ?_
    refine aC (Γ := bC [(43, .pure false newG)]) [0, 3, 5] (aH ok51 aO) rfl rfl rfl (fun K hK => ?_)
    simp (disch := omega) only [Tryd.f30, go_sem, Nat.reduceAdd, Nat.reduceLeDiff, Nat.reduceLT, ↓reduceIte, hnr, List.head?_cons, List.take_succ_cons, List.take_zero, List.drop_succ_cons, List.drop_zero]
    refine hK _ ?_
    refine aB ?_
    refine bB (Γ := aL) (fun _ => 2) [5] bZ (aD _ _) rfl rfl rfl (by kernel_rfl) (fun K hK => ?_)
    simp (disch := omega) only [Tryd.f30, go_sem, Nat.reduceAdd, Nat.reduceLT, ↓reduceIte, h1, h3, jA, List.head?_cons, List.drop_succ_cons, List.drop_zero]
    refine hK _ ?_
    refine aB ?_
    refine aA rfl ?_
    refine aC (Γ := aL) [4] (aD _ _) rfl rfl rfl (fun K hK => ?_)
    simp (disch := omega) only [Tryd.f30, go_sem, Nat.reduceAdd, ↓reduceIte]
    refine hK _ ?_
    refine aB ?_
    refine aS rfl ?_
    refine ⟨rfl, fun j o hj => setR_sub (C := { C with tr := putK k.id ⟨k.seed, k.h⟩ C.tr }) ?_ ?_ ?_ ?_ j o hj, by simp only; omega⟩
    ·simp (disch := omega) only [aV, bY, ↓reduceIte] <;> first | exact h1 | rfl
    ·simp (disch := omega) only [aV, bY, ↓reduceIte] <;> first | exact h2 | rfl
    ·simp (disch := omega) only [aV, ↓reduceIte, eq_self] <;> first | exact h3 | rfl
    ·intro k o k1 k2 k3 hk
     have := hlt k o hk
     simp (disch := omega) only [aV, bY, ↓reduceIte]
     exact hk
   ·skip
    refine aI rfl ?_
    cases h
  ·skip
   obtain ⟨k5, k6, k7⟩ := hok.tree _ _ ht
   obtain rfl := Option.some.inj (hk.symm.trans k6)
   have et : encT t = .rp (trC k.seed.l k.h) := by rw [k7]; rfl
   rw [trP_y ht]
   refine aA rfl ?_
   refine bB (Γ := aL) (fun k => if k = 6 then 0 else 2) [0, 3, 5] bZ (aD _ _) rfl rfl rfl (by kernel_rfl) (fun K hK => ?_)
   simp (disch := omega) only [Tryd.f30, go_sem, Nat.reduceAdd, Nat.reduceLT, ↓reduceIte, h1, h3, ht, et, jA, List.head?_cons, List.drop_succ_cons, List.drop_zero]
   refine hK _ ?_
   refine aB ?_
   refine aA rfl ?_
   refine aA rfl ?_
   refine aC (Γ := aL) [14, 0, 3, 5] (aD _ _) rfl rfl rfl (fun K hK => ?_)
   simp (disch := omega) only [Tryd.f30, go_sem, Nat.reduceAdd, ↓reduceIte]
   refine hK _ ?_
   refine aB ?_
   refine eC (.tmp 14) rfl rfl rfl (fun h => ?_) (fun h => ?_)
   ·skip
    refine aI rfl ?_
    cases h
   ·skip
    refine aI rfl ?_
    refine aQ rfl ?_
    refine aB ?_
    refine aA rfl ?_
    refine aC (Γ := aL) [4] (aD _ _) rfl rfl rfl (fun K hK => ?_)
    simp (disch := omega) only [Tryd.f30, go_sem, Nat.reduceAdd, ↓reduceIte]
    refine hK _ ?_
    refine aB ?_
    refine aS rfl ?_
    rw [show ({ c := C.c, by' := C.by', last := C.last, tr := C.tr } : RC) = C from rfl, iQ hD]
    exact ⟨rfl, fun j o h => jB hnone (by omega) j o h, by simp only; omega⟩
 ·cases hg
theorem okd28 : bX Tryd.prog GLh 30 (.heap treeG) := ⟨⟨_, Tryd.func30, rfl, rfl⟩, tree_ok⟩
end Go.AX
namespace Go.AX
open Go Go.Proofs
set_option maxRecDepth 8000
def xFo (hp : H) (i off n : Nat) : AO → Option (List B8 × H)
 | .cells ys _ => aK (un8 ys) fun l => aN (off + n ≤ l.length) (some ((l.drop off).take n, upd hp i (.cells ys false)))
 | .mapo _ _ => none
def xF (hp : H) : AV → Option (List B8 × H)
 | .sl n xs => aK (un8 xs) fun b => aN (b.length = n) (some (b, hp))
 | .v (.slice none 0 0) => some ([], hp)
 | .os i off n e _ => aN (e = 1) (aK (hp i) (xFo hp i off n))
 | _ => none
theorem xF_sl (hp : H) (n : Nat) (xs : List AV) : xF hp (.sl n xs) = aK (un8 xs) fun b => aN (b.length = n) (some (b, hp)) := (rfl)
theorem xF_nil (hp : H) : xF hp (.v (.slice none 0 0)) = some ([], hp) := (rfl)
theorem xF_os (hp : H) (i off n e : Nat) (g : Bool) : xF hp (.os i off n e g) = aN (e = 1) (aK (hp i) (xFo hp i off n)) := (rfl)
theorem xFo_c (hp : H) (i off n : Nat) (ys : List AV) (mt : Bool) : xFo hp i off n (.cells ys mt) = aK (un8 ys) fun l => aN (off + n ≤ l.length) (some ((l.drop off).take n, upd hp i (.cells ys false))) := (rfl)
attribute [go_sem] xF_sl xF_nil xF_os xFo_c
def selH (x : Option (List B8)) (a b : H) : H := match x with
 | none => a
 | some _ => b
def bA : Option (List B8) → AV
 | none => .v (.slice none 0 0)
 | some b => .sl b.length (c8 b)
def sgC (C : RC) (id : W32) (k : KY) : RC := { C with tr := trP C k, by' := putK id { k with next := k.next + 1#32 } C.by' }
def sgV (C : RC) (id : W32) (msg : List B8) : Option (List B8) × Int × RC := match iK id C.by' with
 | none => (none, 130, C)
 | some k => if nlv k.h - k.next = 0#32 then (none, 132, C) else (some (tsignL k.seed.l k.h k.next msg), 0, sgC C id k)
theorem sgV_n {C : RC} {id : W32} {msg : List B8} (h : iK id C.by' = none) : sgV C id msg = (none, 130, C) := by rw [sgV, h]
theorem sgV_y {C : RC} {id : W32} {msg : List B8} {k : KY} (h : iK id C.by' = some k) : sgV C id msg = if nlv k.h - k.next = 0#32 then (none, 132, C) else (some (tsignL k.seed.l k.h k.next msg), 0, sgC C id k) := by rw [sgV, h]
theorem sub_ne {h : Nat} {n : W32} (hh : h ≤ 10) (hn : n.toNat ≤ 2 ^ h) : (nlv h - n = 0#32) ↔ n.toNat = 2 ^ h := by
 have e := nlv_nat hh
 have := (pow_le10 hh).1
 rw [← BitVec.toNat_inj, BitVec.toNat_sub, e]
 show (2 ^ 32 - n.toNat + 2 ^ h) % 2 ^ 32 = 0 ↔ _
 omega
theorem suc_nat {h : Nat} {n : W32} (hh : h ≤ 10) (hn : n.toNat ≤ 2 ^ h) : (n + 1#32).toNat = n.toNat + 1 := by
 have := (pow_le10 hh).1
 rw [BitVec.toNat_add]
 show (n.toNat + 1) % 2 ^ 32 = _
 omega
theorem ROk.sgC {C : RC} (h : ROk C) {id : W32} {k : KY} (hk : iK id C.by' = some k) (hn : ¬ nlv k.h - k.next = 0#32) : ROk (sgC C id k) := by
 obtain ⟨b1, b2, b3, b4⟩ := h.key _ _ hk
 have h2 : ROk { C with tr := AX.trP C k } := h.trP (by rw [b1]; exact hk)
 have e1 := suc_nat b2 b3
 have e2 := sub_ne b2 b3
 have e3 : k.next.toNat ≠ 2 ^ k.h := fun e => hn (e2.2 e)
 exact h2.skC (id := id) (n := k.next + 1#32) hk (by omega)
theorem ROk.sgV {C : RC} (h : ROk C) (id : W32) (msg : List B8) : ROk (sgV C id msg).2.2 := by
 rcases hk : iK id C.by' with _ | k
 ·rw [sgV_n hk]; exact h
 ·rw [sgV_y hk]
  split
  ·exact h
  ·rename_i hn; exact h.sgC hk hn
noncomputable def ksignG : List AV → H → Nat → Option (AV × H × Nat)
 | [.op d 0, .w32 id, x], hp, nx => aK (iN hp d) fun t => aK (xF hp x) fun mh => aN (ROk t.C ∧ mh.1.length ≤ 900000000) (some (.tup [bA (sgV t.C id mh.1).1, .i (sgV t.C id mh.1).2.1], iL d t.s t.m (sgV t.C id mh.1).2.2 (selH (sgV t.C id mh.1).1 hp mh.2), nx + 300))
 | _, _, _ => none
theorem ksignG_eq (d : Nat) (id : W32) (x : AV) (hp : H) (nx : Nat) : ksignG [.op d 0, .w32 id, x] hp nx = aK (iN hp d) fun t => aK (xF hp x) fun mh => aN (ROk t.C ∧ mh.1.length ≤ 900000000) (some (.tup [bA (sgV t.C id mh.1).1, .i (sgV t.C id mh.1).2.1], iL d t.s t.m (sgV t.C id mh.1).2.2 (selH (sgV t.C id mh.1).1 hp mh.2), nx + 300)) := (rfl)
attribute [go_sem] ksignG_eq
theorem rng_upd {hp : H} {d s m : Nat} {C : RC} (h : RHas hp d s m C) (j : Nat) (a : AO) (h1 : j ≠ d) (h2 : j ≠ s) (h3 : j ≠ m) : iN (upd hp j a) d = some ⟨s, m, C⟩ :=
 rngOf_has ⟨by rw [bJ, if_neg (Ne.symm h1)]; exact h.hd, by rw [bJ, if_neg (Ne.symm h2)]; exact h.hs, by rw [bJ, if_neg (Ne.symm h3)]; exact h.hm, h.ne⟩
end Go.AX
namespace Go.AX
open Go Go.Proofs
set_option maxRecDepth 8000
def flK (k : KY) : BitVec 16 := if k.role = 1 then 257#16 else 256#16
def dkB (k : KY) : List B8 := keyB (flK k) 3#8 253#8 (iR k.seed.l k.h 0)
theorem dkB_len (k : KY) : (dkB k).length = 12 := by
 rw [dkB, keyB, List.length_append, iW]; rfl
def dtN (k : KY) : Nat := if k.role = 1 then 135 else 130
theorem dtN_y {k : KY} (h : k.role = 1) : dtN k = 135 := if_pos h
theorem dtN_n {k : KY} (h : ¬ k.role = 1) : dtN k = 130 := if_neg h
theorem hsub_row {hp t : H} {i : Nat} {a : AO} (ht : t i = some a) (hs : ∀ j o, j ≠ i → hp j = some o → t j = some o) : ∀ j o, upd hp i a j = some o → t j = some o := by
 intro j o h
 rw [bJ] at h
 split at h
 ·rename_i e; subst e; rw [ht]; exact h
 ·rename_i e; exact hs j o e h
noncomputable def datR (d s m : Nat) (C : RC) (hp : H) (nx : Nat) : Option KY → Option (AV × H × Nat)
 | none => some (.tup [.v (.slice none 0 0), .b false], iL d s m C hp, nx + 400)
 | some k => some (.tup [.os (nx + dtN k) 0 12 1 true, .b true], iL d s m { C with tr := trP C k } (upd hp (nx + dtN k) (.cells (c8 (dkB k)) true)), nx + 400)
theorem datR_n (d s m : Nat) (C : RC) (hp : H) (nx : Nat) : datR d s m C hp nx none = some (.tup [.v (.slice none 0 0), .b false], iL d s m C hp, nx + 400) := rfl
theorem datR_y (d s m : Nat) (C : RC) (hp : H) (nx : Nat) (k : KY) : datR d s m C hp nx (some k) = some (.tup [.os (nx + dtN k) 0 12 1 true, .b true], iL d s m { C with tr := trP C k } (upd hp (nx + dtN k) (.cells (c8 (dkB k)) true)), nx + 400) := rfl
noncomputable def datG : List AV → H → Nat → Option (AV × H × Nat)
 | [.op d 0, .w32 id], hp, nx => aK (iN hp d) fun t => aN (ROk t.C) (datR d t.s t.m t.C hp nx (iK id t.C.by'))
 | _, _, _ => none
theorem datG_eq (d : Nat) (id : W32) (hp : H) (nx : Nat) : datG [.op d 0, .w32 id] hp nx = aK (iN hp d) fun t => aN (ROk t.C) (datR d t.s t.m t.C hp nx (iK id t.C.by')) := (rfl)
attribute [go_sem] datG_eq datR_n datR_y
set_option maxHeartbeats 1000000 in
theorem dat_ok : cQ Tryd.prog GLh 11 datG := by
 refine gF Tryd.func11 (aT rfl) ?_
 intro args hp nx r hp' nx' hg
 unfold datG at hg
 split at hg
 ·rename_i d id
  replace hg := aJ hg; obtain ⟨⟨s, m, C⟩, hD0, hg⟩ := hg
  have hD := iV hD0
  replace hg := aP hg; obtain ⟨hok, hg⟩ := hg
  simp only at hg hD hok
  rcases hk : iK id C.by' with _ | k
  ·rw [hk, datR_n] at hg
   simp only [Option.some.injEq, Prod.mk.injEq] at hg; obtain ⟨rfl, rfl, rfl⟩ := hg
   refine ⟨Nat.le_of_ble_eq_true rfl, by omega, fun hnone => ?_⟩
   have h1 := hD.hd; have h2 := hD.hs; have h3 := hD.hm
   refine aA rfl ?_
   refine aC (Γ := aL) [0, 1] (aD _ _) rfl rfl rfl (fun K hK => ?_)
   simp (disch := omega) only [Tryd.f11, go_sem, Nat.reduceAdd, ↓reduceIte]
   refine hK _ ?_
   refine aB ?_
   refine aA rfl ?_
   refine aC (Γ := aL) [0, 6, 7] (aD _ _) rfl rfl rfl (fun K hK => ?_)
   simp (disch := omega) only [Tryd.f11, go_sem, Nat.reduceAdd, Nat.reduceLeDiff, Nat.reduceLT, ↓reduceIte, h1, h2, hk, jA, List.head?_cons, List.drop_succ_cons, List.drop_zero]
   refine hK _ ?_
   refine aB ?_
   refine aA rfl ?_
   refine aA rfl ?_
   refine aC (Γ := aL) [20, 0, 6] (aD _ _) rfl rfl rfl (fun K hK => ?_)
   simp (disch := omega) only [Tryd.f11, go_sem, Nat.reduceAdd, ↓reduceIte]
   refine hK _ ?_
   refine aB ?_
   refine eC (.tmp 20) rfl rfl rfl (fun h => ?_) (fun h => ?_)
   ·skip
    refine aI rfl ?_
    refine aA rfl ?_
    refine aC (Γ := aL) [4, 5] (aD _ _) rfl rfl rfl (fun K hK => ?_)
    simp (disch := omega) only [Tryd.f11, go_sem, Nat.reduceAdd, ↓reduceIte]
    refine hK _ ?_
    refine aB ?_
    refine aS rfl ?_
    refine bI ?_
    rw [iQ hD]
    exact ⟨rfl, fun j o h => jB hnone (by omega) j o h, by simp only; omega⟩
   ·skip
    refine aI rfl ?_
    cases h
  ·rw [hk, datR_y] at hg
   simp only [Option.some.injEq, Prod.mk.injEq] at hg; obtain ⟨rfl, rfl, rfl⟩ := hg
   refine ⟨Nat.le_of_ble_eq_true rfl, by omega, fun hnone => ?_⟩
   have h1 := hD.hd; have h2 := hD.hs; have h3 := hD.hm
   obtain ⟨n1, n2, n3, n4, n5, n6⟩ := hD.ne
   have hlt : ∀ k o, hp k = some o → k < nx := fun k o hk => gI hnone hk
   have hd := hlt _ _ h1
   have hs := hlt _ _ h2
   have hm := hlt _ _ h3
   obtain ⟨k1, k2, k3, k4⟩ := hok.key _ _ hk
   have hki : iK k.id C.by' = some k := by rw [k1]; exact hk
   have hky : kyOf [.w32 k.id, .i k.role, .i k.st, .w8 k.seed.a, .w8 k.seed.b, .w8 k.seed.c, .w8 k.seed.d, .w8 k.seed.e, .w8 k.seed.f, .w8 k.seed.g, .w8 k.seed.h, .i k.h, .w32 k.next, .w32 k.since, .w32 k.seen] = some k := kyOf_kyC k
   have hun := unT_trC k.seed.l k.h k.seed.len k2
   have hru := rng_upd hD
   have hnl := iW k.seed.l k.h 0
   have hdl := dkB_len k
   refine aA rfl ?_
   refine aC (Γ := aL) [0, 1] (aD _ _) rfl rfl rfl (fun K hK => ?_)
   simp (disch := omega) only [Tryd.f11, go_sem, Nat.reduceAdd, ↓reduceIte]
   refine hK _ ?_
   refine aB ?_
   refine aA rfl ?_
   refine aC (Γ := aL) [0, 6, 7] (aD _ _) rfl rfl rfl (fun K hK => ?_)
   simp (disch := omega) only [Tryd.f11, go_sem, Nat.reduceAdd, Nat.reduceLeDiff, Nat.reduceLT, ↓reduceIte, h1, h2, hk, jA, encK_eq, List.head?_cons, List.drop_succ_cons, List.drop_zero]
   refine hK _ ?_
   refine aB ?_
   refine aA rfl ?_
   refine aA rfl ?_
   refine aC (Γ := aL) [20, 0, 6] (aD _ _) rfl rfl rfl (fun K hK => ?_)
   simp (disch := omega) only [Tryd.f11, go_sem, Nat.reduceAdd, ↓reduceIte]
   refine hK _ ?_
   refine aB ?_
   refine eC (.tmp 20) rfl rfl rfl (fun h => ?_) (fun h => ?_)
   ·skip
    refine aI rfl ?_
    cases h
   ·skip
    refine aI rfl ?_
    clear h
    refine aQ rfl ?_
    refine aB ?_
    refine aA rfl ?_
    refine aC (Γ := bC [(30, .heap treeG), (31, .pure true rootG)]) [6, 8] (aH okd28 (aH ok52 aO)) rfl rfl rfl (fun K hK => ?_)
    simp (disch := omega) only [Tryd.f11, go_sem, Nat.reduceAdd, Nat.reduceLeDiff, ↓reduceIte, hru, hok, hki, hky, hun, List.take_succ_cons, List.take_zero, List.drop_zero]
    refine hK _ ?_
    refine aB ?_
    refine aA rfl ?_
    refine aC (Γ := aL) [6, 9] (aD _ _) rfl rfl rfl (fun K hK => ?_)
    simp (disch := omega) only [Tryd.f11, go_sem, Nat.reduceAdd, Nat.reduceSub, Nat.reduceLeDiff, Int.reduceLE, Int.reduceLT, Int.reduceToNat, BitVec.reduceOfInt, ↓reduceIte, List.all_cons, List.all_nil, Option.isSome_some, Bool.and_self]
    refine hK _ ?_
    refine aB ?_
    refine aA rfl ?_
    refine aA rfl ?_
    refine aC (Γ := aL) [29, 9] (aD _ _) rfl rfl rfl (fun K hK => ?_)
    simp (disch := omega) only [Tryd.f11, go_sem, Nat.reduceAdd, Nat.reduceLT, ↓reduceIte, List.head?_cons, List.drop_succ_cons, List.drop_zero]
    refine hK _ ?_
    refine aB ?_
    refine aW (.tmp 29) rfl rfl rfl (fun h => ?_) (fun h => ?_)
    ·skip
     refine aI rfl ?_
     have edk : keyB 257#16 3#8 253#8 (iR k.seed.l k.h 0) = dkB k := by unfold dkB flK; rw [if_pos h]
     refine aC (Γ := aL) [9] (aD _ _) rfl rfl rfl (fun K hK => ?_)
     simp (disch := omega) only [Tryd.f11, go_sem, Nat.reduceAdd, Nat.reduceLeDiff, Nat.reduceLT, Int.reduceLE, Int.reduceLT, BitVec.reduceOfInt, ↓reduceIte, BitVec.reduceOr, List.head?_cons, List.set_cons_zero, List.drop_zero]
     refine hK _ ?_
     refine aB ?_
     refine aA rfl ?_
     refine aC (Γ := bC [(32, .fresh true keyBG)]) [4, 5] (aH okd30 aO) rfl rfl rfl (fun K hK => ?_)
     simp (disch := omega) only [Tryd.f11, go_sem, Nat.reduceAdd, Nat.reduceLeDiff, ↓reduceIte, hnl, edk, hdl, List.take_succ_cons, List.take_zero, List.drop_zero]
     refine hK _ ?_
     refine aB ?_
     refine aS rfl ?_
     have edn := dtN_y h
     rw [edn]
     refine ⟨by simp only [Nat.add_assoc, Nat.reduceAdd]; rfl, fun j o h => hU (fun j2 o2 h2 => ?_) j o h, by simp only; omega⟩
     refine hsub_row ?_ ?_ j2 o2 h2
     ·simp only [Nat.add_assoc, Nat.reduceAdd, bJ, if_true]
     ·intro j3 o3 hne h3
      have := hlt j3 o3 h3
      simp (disch := omega) only [aV, bY, ↓reduceIte]
      exact h3
    ·skip
     refine aI rfl ?_
     have edk : keyB 256#16 3#8 253#8 (iR k.seed.l k.h 0) = dkB k := by unfold dkB flK; rw [if_neg h]
     refine aQ rfl ?_
     refine aB ?_
     refine aA rfl ?_
     refine aC (Γ := bC [(32, .fresh true keyBG)]) [4, 5] (aH okd30 aO) rfl rfl rfl (fun K hK => ?_)
     simp (disch := omega) only [Tryd.f11, go_sem, Nat.reduceAdd, Nat.reduceLeDiff, ↓reduceIte, hnl, edk, hdl, List.take_succ_cons, List.take_zero, List.drop_zero]
     refine hK _ ?_
     refine aB ?_
     refine aS rfl ?_
     have edn := dtN_n h
     rw [edn]
     refine ⟨by simp only [Nat.add_assoc, Nat.reduceAdd]; rfl, fun j o h => hU (fun j2 o2 h2 => ?_) j o h, by simp only; omega⟩
     refine hsub_row ?_ ?_ j2 o2 h2
     ·simp only [Nat.add_assoc, Nat.reduceAdd, bJ, if_true]
     ·intro j3 o3 hne h3
      have := hlt j3 o3 h3
      simp (disch := omega) only [aV, bY, ↓reduceIte]
      exact h3
 ·cases hg
theorem okd11 : bX Tryd.prog GLh 11 (.heap datG) := ⟨⟨_, Tryd.func11, rfl, rfl⟩, dat_ok⟩
end Go.AX
namespace Go.AX
open Go Go.Proofs
abbrev T32 := BitVec 32
def ltN (x y : T32) : Bool := decide (x.toNat < y.toNat)
def cA (d : Array T32) : List AV := d.toList.map .w32
theorem cA_len (d : Array T32) : (cA d).length = d.size := by simp [cA]
theorem cA_head (d : Array T32) (k : Nat) (h : k < d.size) : ((cA d).drop k).head? = some (.w32 d[k]!) := by
 rw [List.head?_drop, cA, List.getElem?_map, Array.getElem?_toList, Array.getElem?_eq_getElem h, getElem!_pos d k h]; rfl
theorem cA_head0 (d : Array T32) (h : 0 < d.size) : (cA d).head? = some (.w32 d[0]!) := by
 have := cA_head d 0 h
 rwa [List.drop_zero] at this
theorem cA_set (d : Array T32) (k : Nat) (x : T32) : (cA d).set k (.w32 x) = cA (d.setIfInBounds k x) := by
 simp [cA, List.map_set]
theorem dZ (d : Array T32) : AV.noMem.noMemL (cA d) = true := by
 unfold cA
 generalize d.toList = l
 induction l with
 | nil => rfl
 | cons x l ih => show (AV.noMem (.w32 x) && AV.noMem.noMemL (l.map .w32)) = true; rw [ih]; rfl
theorem cA_noOwn (d : Array T32) : dB (cA d) = true := by
 simp only [dB, cA, List.all_eq_true, List.mem_map]
 rintro _ ⟨x, _, rfl⟩; rfl
theorem cA_noOs (d : Array T32) : gH (cA d) = true := by
 simp only [gH, cA, Bool.not_eq_true', List.any_eq_false, List.mem_map]
 rintro _ ⟨x, _, rfl⟩
 simp [isOs]
def unA : List AV → Option (List T32)
 | [] => some []
 | .w32 x :: r => aK (unA r) fun l => some (x :: l)
 | _ => none
theorem dO : ∀ {xs : List AV} {l : List T32}, unA xs = some l → xs = cA l.toArray
 | [], l, h => by obtain rfl := Option.some.inj h; rfl
 | x :: r, l, h => by
  cases x <;> simp only [unA] at h <;> first | (cases h; done) | skip
  replace h := aJ h; obtain ⟨m, hm, h⟩ := h
  obtain rfl := Option.some.inj h
  have := dO hm
  rw [this]; simp [cA]
theorem unA_cA (d : Array T32) : unA (cA d) = some d.toList := by
 unfold cA
 generalize d.toList = l
 induction l with
 | nil => rfl
 | cons x l ih => show aK (unA (l.map .w32)) (fun l => some (x :: l)) = _; rw [ih, aX]
theorem cW (d : Array T32) (i j : Nat) : (Sort.swp d i j).size = d.size := by simp [Sort.swp]
theorem ltN_swo : Sort.SWO ltN where
 irrefl x := by simp [ltN]
 trans x y z h1 h2 := by simp only [ltN, decide_eq_true_eq] at *; omega
 ntrans x y z h1 h2 := by simp only [ltN, decide_eq_false_iff_not] at *; omega
def iU (l : List T32) : List T32 := (Sort.sort ltN l.toArray).toList
theorem sortL_perm (l : List T32) : (iU l).Perm l := by
 have h := (Sort.sort_sorts ltN ltN_swo l.toArray).1
 obtain ⟨h1, _, h3⟩ := h
 unfold iU
 have e1 : (Sort.sort ltN l.toArray).extract 0 l.toArray.size = Sort.sort ltN l.toArray := by rw [← h1]; exact Array.extract_size
 rw [e1, Array.extract_size] at h3
 exact h3
theorem sortL_len (l : List T32) : (iU l).length = l.length := (sortL_perm l).length_eq
theorem sortL_sorted (l : List T32) : (iU l).Pairwise fun a b => a.toNat ≤ b.toNat := by
 have h := (Sort.sort_sorts ltN ltN_swo l.toArray)
 obtain ⟨⟨h1, _, _⟩, h2⟩ := h
 rw [List.pairwise_iff_getElem]
 intro i j hi hj hij
 have hs : (iU l).length = l.toArray.size := by rw [sortL_len]; simp
 have := h2 i j (Nat.zero_le _) hij (by omega)
 have e : ∀ k (hk : k < (iU l).length), (Sort.sort ltN l.toArray)[k]! = (iU l)[k] := by
  intro k hk
  rw [getElem!_pos _ k (by rw [h1]; omega)]; rfl
 rw [e j hj, e i hi] at this
 simp only [ltN, decide_eq_false_iff_not] at this
 omega
attribute [go_sem] Array.size_setIfInBounds cW cA_len cA_head cA_head0 cA_set dZ cA_noOwn cA_noOs unA_cA
end Go.AX
namespace Go.AX
open Go Go.Proofs
structure SDC where
 k : Nat
 d : Array T32
 c : Nat
theorem ltN_eq (x y : T32) : decide (x < y) = ltN x y := by
 unfold ltN; rw [decide_eq_decide, BitVec.lt_def]
def nanG : List AV → Option AV
 | [.w32 _] => some (.b false)
 | _ => none
theorem nanG_eq (x : T32) : nanG [.w32 x] = some (.b false) := (rfl)
def dY : List AV → Option AV
 | [.w32 x, .w32 y] => some (.b (ltN x y))
 | _ => none
theorem lessG_eq (x y : T32) : dY [.w32 x, .w32 y] = some (.b (ltN x y)) := (rfl)
attribute [go_sem] nanG_eq lessG_eq
set_option maxHeartbeats 1000000 in
theorem nan_ok : cL Tryd.prog GLh 73 nanG := by
 refine cC Tryd.func73 (aT rfl) ?_
 intro args r hg
 unfold nanG at hg
 split at hg
 ·rename_i x
  obtain rfl := Option.some.inj hg
  refine ⟨Nat.le_of_ble_eq_true rfl, fun nx => ?_⟩
  refine aA rfl ?_
  refine aC (Γ := aL) [0] (aD _ _) rfl rfl rfl (fun K hK => ?_)
  simp (disch := omega) only [Tryd.f73, go_sem, ↓reduceIte]
  refine hK _ ?_
  refine aB ?_
  refine aA rfl ?_
  refine aC (Γ := aL) [2] (aD _ _) rfl rfl rfl (fun K hK => ?_)
  simp (disch := omega) only [Tryd.f73, go_sem, Nat.reduceAdd, ↓reduceIte, decide_true, Bool.not_true]
  refine hK _ ?_
  refine aB ?_
  refine aS rfl ?_
  simp (disch := omega) only [cN, bV, bK, bQ, Tryd.f73, go_sem, ↓reduceIte]
 ·cases hg
theorem oku109 : bX Tryd.prog GLh 73 (.pure true nanG) := ⟨⟨_, Tryd.func73, rfl, rfl⟩, nan_ok⟩
set_option maxHeartbeats 1000000 in
theorem less_ok : cL Tryd.prog GLh 59 dY := by
 refine cC Tryd.func59 (aT rfl) ?_
 intro args r hg
 unfold dY at hg
 split at hg
 ·rename_i x y
  obtain rfl := Option.some.inj hg
  refine ⟨Nat.le_of_ble_eq_true rfl, fun nx => ?_⟩
  refine aA rfl ?_
  refine aC (Γ := aL) [0, 1] (aD _ _) rfl rfl rfl (fun K hK => ?_)
  simp (disch := omega) only [Tryd.f59, go_sem, ↓reduceIte]
  refine hK _ ?_
  refine aB ?_
  refine aA rfl ?_
  refine aC (Γ := bC [(73, .pure true nanG)]) [4] (aH oku109 aO) rfl rfl rfl (fun K hK => ?_)
  simp (disch := omega) only [Tryd.f59, go_sem, Nat.reduceAdd, reduceCtorEq, ↓reduceIte, ltN_eq]
  refine hK _ ?_
  refine aB ?_
  refine aS rfl ?_
  simp (disch := omega) only [cN, bV, bK, bQ, Tryd.f59, go_sem, ↓reduceIte]
 ·cases hg
theorem jC : bX Tryd.prog GLh 59 (.pure true dY) := ⟨⟨_, Tryd.func59, rfl, rfl⟩, less_ok⟩
def insG : List AV → List AV → Option (AV × List AV)
 | [.os _ 0 n 1 _, .i a, .i b], xs => aK (unA xs) fun l => aN (l.length = n ∧ 0 ≤ a ∧ a ≤ b ∧ b ≤ n ∧ n ≤ 1000000) (some (.tup [], cA (Sort.insertionSort ltN l.toArray a.toNat b.toNat)))
 | _, _ => none
theorem insG_eq (id n : Nat) (gg : Bool) (a b : Int) (xs : List AV) : insG [.os id 0 n 1 gg, .i a, .i b] xs = aK (unA xs) fun l => aN (l.length = n ∧ 0 ≤ a ∧ a ≤ b ∧ b ≤ n ∧ n ≤ 1000000) (some (.tup [], cA (Sort.insertionSort ltN l.toArray a.toNat b.toNat))) := (rfl)
attribute [go_sem] insG_eq
theorem insI_s (a j : Nat) (d : Array T32) : Sort.insInner ltN a (j + 1) d = if j + 1 > a && ltN d[j + 1]! d[j]! then Sort.insInner ltN a j (Sort.swp d (j + 1) j) else d := by rw [Sort.insInner]
set_option maxHeartbeats 1000000 in
theorem ins_ok : cQ Tryd.prog GLh 53 (dP insG) := by
 refine dN Tryd.func53 (aT rfl) ?_
 intro id off n e gg rest nx xs r ys hg
 unfold insG at hg
 split at hg
 ·rename_i id2 n2 gg2 a0 b0 heq
  simp only [List.cons.injEq, AV.os.injEq] at heq
  obtain ⟨⟨rfl, rfl, rfl, rfl, rfl⟩, rfl⟩ := heq
  replace hg := aJ hg; obtain ⟨l, hl, hg⟩ := hg
  replace hg := aP hg; obtain ⟨⟨hn, ha, hab, hbn, hbig⟩, hg⟩ := hg
  simp only [Option.some.injEq, Prod.mk.injEq] at hg; obtain ⟨rfl, rfl⟩ := hg
  have := dO hl; subst this
  obtain ⟨a, rfl⟩ := Int.eq_ofNat_of_zero_le ha
  obtain ⟨b, rfl⟩ := Int.eq_ofNat_of_zero_le (show 0 ≤ b0 by omega)
  simp only [Int.toNat_natCast] at *
  obtain ⟨d, hd⟩ : ∃ d, l.toArray = d := ⟨_, rfl⟩
  have hds : d.size = n := by rw [← hd]; simpa using hn
  rw [hd]
  refine ⟨Nat.le_of_ble_eq_true rfl, fun hid => ?_⟩
  obtain ⟨R, hR⟩ : ∃ R, Sort.insertionSort ltN d a b = R := ⟨_, rfl⟩
  have hR0 : Sort.insOuter ltN a b (a + 1) d = R := hR
  rw [hR]
  have hab2 : a ≤ b := by omega
  have hbn2 : b ≤ n := by omega
  clear hR hl hn ha hab hbn
  refine aA rfl ?_
  refine aC (Γ := aL) [0, 1, 2, 6] (aD _ _) rfl rfl rfl (fun K hK => ?_)
  simp (disch := omega) only [Tryd.f53, go_sem, Nat.reduceAdd, ↓reduceIte]
  refine hK _ ?_
  refine aB ?_
  refine aR 0 rfl rfl ?_
  refine bR (fun p : SDC => { fr := [(0, .os id 0 n 1 gg), (1, .i a), (2, .i b), (6, .i p.k)], hp := upd (fun _ => none) id (.cells (cA p.d) true), nx := 0, cx := p.c }) (fun p => Sort.insOuter ltN a b p.k p.d = R ∧ p.d.size = n ∧ a < p.k ∧ id < p.c) (fun p => b - p.k) rfl ⟨⟨a + 1, d, _⟩, ⟨hR0, hds, Nat.lt_succ_self _, by simp only; omega⟩, bD (by simp only [Int.natCast_add, Int.natCast_one]) rfl (Nat.le_refl _)⟩ ?_
  rintro ⟨k, d1, c⟩ ⟨hr1, hs1, hk, hc⟩ n0
  simp only at hr1 hs1 hk hc ⊢
  refine aA rfl ?_
  refine aA rfl ?_
  refine aC (Γ := aL) [12, 0, 1, 2, 6] (aD _ _) rfl rfl rfl (fun K hK => ?_)
  simp (disch := omega) only [Tryd.f53, go_sem, Nat.reduceAdd, ↓reduceIte]
  refine hK _ ?_
  refine aB ?_
  refine aW (.tmp 12) rfl rfl rfl (fun h => ?_) (fun h => ?_)
  ·skip
   refine aI rfl ?_
   have hkb : k < b := by omega
   rw [Sort.insOuter, if_pos hkb] at hr1
   obtain ⟨R2, hR2⟩ : ∃ R2, Sort.insInner ltN a k d1 = R2 := ⟨_, rfl⟩
   rw [hR2] at hr1
   refine aQ rfl ?_
   refine aB ?_
   refine aA rfl ?_
   refine aR 1 rfl rfl ?_
   refine aA rfl ?_
   refine aC (Γ := aL) [0, 1, 2, 6, 7] (aD _ _) rfl rfl rfl (fun K hK => ?_)
   simp (disch := omega) only [Tryd.f53, go_sem, Nat.reduceAdd, ↓reduceIte]
   refine hK _ ?_
   refine aB ?_
   refine aR 2 rfl rfl ?_
   refine bR (fun q : SDC => { fr := [(0, .os id 0 n 1 gg), (1, .i a), (2, .i b), (6, .i k), (7, .i q.k)], hp := upd (fun _ => none) id (.cells (cA q.d) true), nx := 0, cx := q.c }) (fun q => Sort.insInner ltN a q.k q.d = R2 ∧ q.d.size = n ∧ q.k ≤ k ∧ id < q.c) (fun q => q.k) rfl ⟨⟨k, d1, _⟩, ⟨hR2, hs1, Nat.le_refl _, by simp only; omega⟩, bD rfl rfl (Nat.le_refl _)⟩ ?_
   rintro ⟨j, d2, c2⟩ ⟨hr2, hs2, hj, hc2⟩ n0
   simp only at hr2 hs2 hj hc2 ⊢
   by_cases hja : a < j
   ·skip
    obtain ⟨i, rfl⟩ : ∃ i, j = i + 1 := ⟨j - 1, by omega⟩
    have hd1 : decide ((a : Int) < ((i + 1 : Nat) : Int)) = true := decide_eq_true (by omega)
    have e1 : ((i + 1 : Nat) : Int) - 1 = (i : Int) := by omega
    have hgt : (decide (i + 1 > a)) = true := decide_eq_true (by omega)
    rw [insI_s, hgt, Bool.true_and] at hr2
    obtain ⟨v, hv⟩ : ∃ v, ltN d2[i + 1]! d2[i]! = v := ⟨_, rfl⟩
    rw [hv] at hr2
    refine aA rfl ?_
    refine aA rfl ?_
    refine bB (Γ := bC [(59, .pure true dY)]) (fun k => if k = 13 then 0 else 2) [30, 0, 1, 2, 6, 7] bZ (aH jC aO) rfl rfl rfl (by kernel_rfl) (fun K hK => ?_)
    simp (disch := omega) only [Tryd.f53, go_sem, Nat.reduceAdd, ↓reduceIte, hd1, e1, hv, Int.toNat_natCast]
    refine hK _ ?_
    refine aB ?_
    cases v
    ·skip
     simp only [Bool.false_eq_true, if_false] at hr2
     refine eC (.tmp 30) rfl rfl rfl (fun h => ?_) (fun h => ?_)
     ·skip
      refine aI rfl ?_
      cases h
     ·skip
      refine aI rfl ?_
      refine bF 2 rfl rfl ?_
      refine aY (aZ (bE ?_))
      refine bU (aB ?_)
      subst hr2
      refine aC (Γ := aL) [0, 1, 2, 6] (aD _ _) rfl rfl rfl (fun K hK => ?_)
      simp (disch := omega) only [Tryd.f53, go_sem, Nat.reduceAdd, ↓reduceIte]
      refine hK _ ?_
      refine bT ?_
      refine ⟨⟨k + 1, d2, _⟩, ⟨hr1, hs2, by simp only; omega, by simp only; omega⟩, by simp only; omega, bD (by simp only [Int.natCast_add, Int.natCast_one]) rfl (Nat.le_refl _)⟩
    ·skip
     simp only [if_true] at hr2
     have hsw : (d2.setIfInBounds (i + 1) d2[i]!).setIfInBounds i d2[i + 1]! = Sort.swp d2 (i + 1) i := rfl
     refine eC (.tmp 30) rfl rfl rfl (fun h => ?_) (fun h => ?_)
     ·skip
      refine aQ rfl ?_
      refine aB ?_
      refine aA rfl ?_
      refine aR 3 rfl rfl ?_
      refine bB (Γ := aL) (fun _ => 2) [0, 1, 2, 6, 7] bZ (aD _ _) rfl rfl rfl (by kernel_rfl) (fun K hK => ?_)
      simp (disch := omega) only [Tryd.f53, go_sem, Nat.reduceAdd, ↓reduceIte, e1, hsw, Int.toNat_natCast]
      refine hK _ ?_
      refine bU (aB ?_)
      refine aC (Γ := aL) [0, 1, 2, 6, 7] (aD _ _) rfl rfl rfl (fun K hK => ?_)
      simp (disch := omega) only [Tryd.f53, go_sem, Nat.reduceAdd, ↓reduceIte, e1]
      refine hK _ ?_
      refine bT ?_
      refine ⟨⟨i, Sort.swp d2 (i + 1) i, _⟩, ⟨hr2, by simp only [cW]; exact hs2, by simp only; omega, by simp only; omega⟩, by simp only; omega, ⟨fun _ => .inr rfl, bS (by simp (disch := omega) only [aV, ↓reduceIte, eq_self]) cB, Nat.le_refl _⟩⟩
     ·skip
      cases h
   ·skip
    have hd1 : decide ((a : Int) < (j : Int)) = false := decide_eq_false (by omega)
    have hr3 : d2 = R2 := by
     rw [← hr2]
     cases j with
     | zero => rfl
     | succ i =>
      have hgt : (decide (i + 1 > a)) = false := decide_eq_false (by omega)
      rw [insI_s, hgt]; rfl
    subst hr3
    refine aA rfl ?_
    refine aA rfl ?_
    refine bB (Γ := bC [(59, .pure true dY)]) (fun k => if k = 13 then 0 else 2) [30, 0, 1, 2, 6, 7] bZ (aH jC aO) rfl rfl rfl (by kernel_rfl) (fun K hK => ?_)
    simp (disch := omega) only [Tryd.f53, go_sem, Nat.reduceAdd, reduceCtorEq, ↓reduceIte, hd1]
    refine hK _ ?_
    refine aB ?_
    refine eC (.tmp 30) rfl rfl rfl (fun h => ?_) (fun h => ?_)
    ·skip
     refine aI rfl ?_
     cases h
    ·skip
     refine aI rfl ?_
     refine bF 2 rfl rfl ?_
     refine aY (aZ (bE ?_))
     refine bU (aB ?_)
     refine aC (Γ := aL) [0, 1, 2, 6] (aD _ _) rfl rfl rfl (fun K hK => ?_)
     simp (disch := omega) only [Tryd.f53, go_sem, Nat.reduceAdd, ↓reduceIte]
     refine hK _ ?_
     refine bT ?_
     refine ⟨⟨k + 1, d2, _⟩, ⟨hr1, hs2, by simp only; omega, by simp only; omega⟩, by simp only; omega, bD (by simp only [Int.natCast_add, Int.natCast_one]) rfl (Nat.le_refl _)⟩
  ·skip
   refine aI rfl ?_
   refine bF 0 rfl rfl ?_
   refine aY (aZ (bE ?_))
   have hkb : ¬ k < b := by omega
   rw [Sort.insOuter, if_neg hkb] at hr1
   subst hr1
   exact ⟨rfl, by simp only [aV, if_true], rfl, dZ _⟩
 ·cases hg
theorem oku93 : bX Tryd.prog GLh 53 (.heap (dP insG)) := ⟨⟨_, Tryd.func53, rfl, rfl⟩, ins_ok⟩
end Go.AX
namespace Go.AX
open Go Go.Proofs
theorem sift_end (hi first root : Nat) (d : Array T32) (h : hi ≤ 2 * root + 1) : Sort.siftDown ltN hi first root d = d := by rw [Sort.siftDown, dif_pos h]
theorem sift_two (hi first root : Nat) (d : Array T32) (h : 2 * root + 2 < hi) (hl : ltN d[first + (2 * root + 1)]! d[first + (2 * root + 2)]! = true) : Sort.siftDown ltN hi first root d = if !ltN d[first + root]! d[first + (2 * root + 2)]! then d else Sort.siftDown ltN hi first (2 * root + 2) (Sort.swp d (first + root) (first + (2 * root + 2))) := by
 rw [Sort.siftDown, dif_neg (by omega), if_pos (by rw [show first + (2 * root + 1) + 1 = first + (2 * root + 2) by omega, hl, Bool.and_true]; exact decide_eq_true (by omega)), dif_pos h]
theorem sift_one (hi first root : Nat) (d : Array T32) (h : 2 * root + 1 < hi) (hl : (decide (2 * root + 2 < hi) && ltN d[first + (2 * root + 1)]! d[first + (2 * root + 2)]!) = false) : Sort.siftDown ltN hi first root d = if !ltN d[first + root]! d[first + (2 * root + 1)]! then d else Sort.siftDown ltN hi first (2 * root + 1) (Sort.swp d (first + root) (first + (2 * root + 1))) := by
 rw [Sort.siftDown, dif_neg (by omega), if_neg (by rw [show first + (2 * root + 1) + 1 = first + (2 * root + 2) by omega, show 2 * root + 1 + 1 = 2 * root + 2 by omega, hl]; simp)]
def sifG : List AV → List AV → Option (AV × List AV)
 | [.os _ 0 n 1 _, .i lo, .i hi, .i first], xs => aK (unA xs) fun l => aN (l.length = n ∧ 0 ≤ lo ∧ lo ≤ n ∧ 0 ≤ hi ∧ 0 ≤ first ∧ first + hi ≤ n ∧ n ≤ 1000000) (some (.tup [], cA (Sort.siftDown ltN hi.toNat first.toNat lo.toNat l.toArray)))
 | _, _ => none
theorem sifG_eq (id n : Nat) (gg : Bool) (lo hi first : Int) (xs : List AV) : sifG [.os id 0 n 1 gg, .i lo, .i hi, .i first] xs = aK (unA xs) fun l => aN (l.length = n ∧ 0 ≤ lo ∧ lo ≤ n ∧ 0 ≤ hi ∧ 0 ≤ first ∧ first + hi ≤ n ∧ n ≤ 1000000) (some (.tup [], cA (Sort.siftDown ltN hi.toNat first.toNat lo.toNat l.toArray))) := (rfl)
attribute [go_sem] sifG_eq
set_option maxHeartbeats 2000000 in
theorem sif_ok : cQ Tryd.prog GLh 68 (dP sifG) := by
 refine dN Tryd.func68 (aT rfl) ?_
 intro id off n e gg rest nx xs r ys hg
 unfold sifG at hg
 split at hg
 ·rename_i id2 n2 gg2 lo0 hi0 first0 heq
  simp only [List.cons.injEq, AV.os.injEq] at heq
  obtain ⟨⟨rfl, rfl, rfl, rfl, rfl⟩, rfl⟩ := heq
  replace hg := aJ hg; obtain ⟨l, hl, hg⟩ := hg
  replace hg := aP hg; obtain ⟨⟨hn, hlo, hlon, hhi, hfi, hfn, hbig⟩, hg⟩ := hg
  simp only [Option.some.injEq, Prod.mk.injEq] at hg; obtain ⟨rfl, rfl⟩ := hg
  have := dO hl; subst this
  obtain ⟨lo, rfl⟩ := Int.eq_ofNat_of_zero_le hlo
  obtain ⟨hi, rfl⟩ := Int.eq_ofNat_of_zero_le hhi
  obtain ⟨first, rfl⟩ := Int.eq_ofNat_of_zero_le hfi
  simp only [Int.toNat_natCast] at *
  obtain ⟨d, hd⟩ : ∃ d, l.toArray = d := ⟨_, rfl⟩
  have hds : d.size = n := by rw [← hd]; simpa using hn
  have hlon2 : lo ≤ n := by omega
  have hfn2 : first + hi ≤ n := by omega
  rw [hd]
  refine ⟨Nat.le_of_ble_eq_true rfl, fun hid => ?_⟩
  obtain ⟨R, hR⟩ : ∃ R, Sort.siftDown ltN hi first lo d = R := ⟨_, rfl⟩
  rw [hR]
  clear hl hn hlo hlon hhi hfi hfn
  refine aA rfl ?_
  refine aC (Γ := aL) [0, 2, 3, 8] (aD _ _) rfl rfl rfl (fun K hK => ?_)
  simp (disch := omega) only [Tryd.f68, go_sem, Nat.reduceAdd, ↓reduceIte]
  refine hK _ ?_
  refine aB ?_
  refine aR 0 rfl rfl ?_
  refine bR (fun p : SDC => { fr := [(0, .os id 0 n 1 gg), (2, .i hi), (3, .i first), (8, .i p.k)], hp := upd (fun _ => none) id (.cells (cA p.d) true), nx := 0, cx := p.c }) (fun p => Sort.siftDown ltN hi first p.k p.d = R ∧ p.d.size = n ∧ p.k ≤ n ∧ id < p.c) (fun p => 2 * n - p.k) rfl ⟨⟨lo, d, _⟩, ⟨hR, hds, hlon2, by simp only; omega⟩, bD rfl rfl (Nat.le_refl _)⟩ ?_
  rintro ⟨k, d1, c⟩ ⟨hr1, hs1, hk, hc⟩ n0
  simp only at hr1 hs1 hk hc ⊢
  refine aR 1 rfl rfl ?_
  refine aA rfl ?_
  refine aC (Γ := aL) [0, 2, 3, 8, 9] (aD _ _) rfl rfl rfl (fun K hK => ?_)
  simp (disch := omega) only [Tryd.f68, go_sem, Nat.reduceAdd, ↓reduceIte]
  refine hK _ ?_
  refine aB ?_
  refine aA rfl ?_
  refine aA rfl ?_
  refine aC (Γ := aL) [16, 0, 2, 3, 8, 9] (aD _ _) rfl rfl rfl (fun K hK => ?_)
  simp (disch := omega) only [Tryd.f68, go_sem, Nat.reduceAdd, ↓reduceIte]
  refine hK _ ?_
  refine aB ?_
  refine aW (.tmp 16) rfl rfl rfl (fun h => ?_) (fun h => ?_)
  ·skip
   refine aI rfl ?_
   have hke : hi ≤ 2 * k + 1 := by omega
   rw [sift_end _ _ _ _ hke] at hr1
   subst hr1
   refine bF 0 rfl rfl ?_
   refine aY (nx_ex_out (aZ (bE ?_)) rfl)
   exact ⟨rfl, by simp only [aV, if_true], rfl, dZ _⟩
  ·skip
   refine aI rfl ?_
   refine aQ rfl ?_
   refine aB ?_
   refine aA rfl ?_
   refine aA rfl ?_
   have hk1 : 2 * k + 1 < hi := by omega
   clear h
   have e9 : (first : Int) + (2 * (k : Int) + 1) = ((first + (2 * k + 1) : Nat) : Int) := by omega
   have e9b : ((first + (2 * k + 1) : Nat) : Int) + 1 = ((first + (2 * k + 2) : Nat) : Int) := by omega
   by_cases hk2 : 2 * k + 2 < hi
   ·skip
    have hd1 : decide (2 * (k : Int) + 1 + 1 < (hi : Int)) = true := decide_eq_true (by omega)
    have hb1 : first + (2 * k + 1) < n := by omega
    have hb2 : first + (2 * k + 2) < n := by omega
    obtain ⟨u, hu⟩ : ∃ u, ltN d1[first + (2 * k + 1)]! d1[first + (2 * k + 2)]! = u := ⟨_, rfl⟩
    refine bB (Γ := bC [(59, .pure true dY)]) (fun k => if k = 18 then 0 else 2) [36, 0, 2, 3, 8, 9] bZ (aH jC aO) rfl rfl rfl (by kernel_rfl) (fun K hK => ?_)
    simp (disch := omega) only [Tryd.f68, go_sem, Nat.reduceAdd, ↓reduceIte, hd1, e9, e9b, hu, Int.toNat_natCast]
    refine hK _ ?_
    refine aB ?_
    cases u
    ·skip
     rw [sift_one _ _ _ _ hk1 (by rw [hu, Bool.and_false])] at hr1
     refine eC (.tmp 36) rfl rfl rfl (fun h => ?_) (fun h => ?_)
     ·skip
      refine aI rfl ?_
      cases h
     ·skip
      refine aI rfl ?_
      refine aQ rfl ?_
      refine aB ?_
      refine aA rfl ?_
      refine aA rfl ?_
      obtain ⟨ch, hch⟩ : ∃ ch, 2 * k + 1 = ch := ⟨_, rfl⟩
      have ech : 2 * (k : Int) + 1 = (ch : Int) := by omega
      rw [hch] at hr1
      rw [ech]
      clear e9 e9b hu
      have hchn : first + ch < n := by omega
      have hkn : first + k < n := by omega
      obtain ⟨v, hv⟩ : ∃ v, ltN d1[first + k]! d1[first + ch]! = v := ⟨_, rfl⟩
      rw [hv] at hr1
      have e2 : ((first : Int) + (k : Int)).toNat = first + k := by omega
      have e3 : ((first : Int) + (ch : Int)).toNat = first + ch := by omega
      refine bB (Γ := bC [(59, .pure true dY)]) (fun k => if k = 12 then 0 else 2) [52, 0, 2, 3, 8, 9] bZ (aH jC aO) rfl rfl rfl (by kernel_rfl) (fun K hK => ?_)
      simp (disch := omega) only [Tryd.f68, go_sem, Nat.reduceAdd, ↓reduceIte, e2, e3, hv]
      refine hK _ ?_
      refine aB ?_
      cases v
      ·skip
       simp only [Bool.not_false, if_true] at hr1
       subst hr1
       refine eC (.tmp 52) rfl rfl rfl (fun h => ?_) (fun h => ?_)
       ·skip
        refine aI rfl ?_
        refine aS rfl ?_
        refine bI (bN (dF (bN ?_)))
        exact ⟨rfl, by simp only [aV, if_true], rfl, dZ _⟩
       ·skip
        refine aI rfl ?_
        cases h
      ·skip
       simp only [Bool.not_true, Bool.false_eq_true, if_false] at hr1
       refine eC (.tmp 52) rfl rfl rfl (fun h => ?_) (fun h => ?_)
       ·skip
        cases h
       ·skip
        refine aQ rfl ?_
        refine aB ?_
        refine aA rfl ?_
        have hsw : (d1.setIfInBounds (first + k) d1[first + ch]!).setIfInBounds (first + ch) d1[first + k]! = Sort.swp d1 (first + k) (first + ch) := rfl
        refine bB (Γ := aL) (fun _ => 2) [0, 2, 3, 9] bZ (aD _ _) rfl rfl rfl (by kernel_rfl) (fun K hK => ?_)
        simp (disch := omega) only [Tryd.f68, go_sem, Nat.reduceAdd, ↓reduceIte, e2, e3, hsw]
        refine hK _ ?_
        refine aB ?_
        refine aC (Γ := aL) [0, 2, 3, 8] (aD _ _) rfl rfl rfl (fun K hK => ?_)
        simp (disch := omega) only [Tryd.f68, go_sem, Nat.reduceAdd, ↓reduceIte]
        refine hK _ ?_
        refine bU (bT ?_)
        refine ⟨⟨ch, Sort.swp d1 (first + k) (first + ch), _⟩, ⟨hr1, by simp only [cW]; exact hs1, by simp only; omega, by simp only; omega⟩, by simp only; omega, ⟨fun _ => .inr rfl, bS (by simp (disch := omega) only [aV, ↓reduceIte, eq_self]) cB, Nat.le_refl _⟩⟩
    ·skip
     rw [sift_two _ _ _ _ hk2 hu] at hr1
     refine eC (.tmp 36) rfl rfl rfl (fun h => ?_) (fun h => ?_)
     ·skip
      refine aC (Γ := aL) [0, 2, 3, 8, 9] (aD _ _) rfl rfl rfl (fun K hK => ?_)
      simp (disch := omega) only [Tryd.f68, go_sem, Nat.reduceAdd, ↓reduceIte]
      refine hK _ ?_
      refine aB ?_
      obtain ⟨ch, hch⟩ : ∃ ch, 2 * k + 2 = ch := ⟨_, rfl⟩
      have ech : 2 * (k : Int) + 1 + 1 = (ch : Int) := by omega
      rw [hch] at hr1
      rw [ech]
      clear e9 e9b hu
      have hchn : first + ch < n := by omega
      have hkn : first + k < n := by omega
      obtain ⟨v, hv⟩ : ∃ v, ltN d1[first + k]! d1[first + ch]! = v := ⟨_, rfl⟩
      rw [hv] at hr1
      have e2 : ((first : Int) + (k : Int)).toNat = first + k := by omega
      have e3 : ((first : Int) + (ch : Int)).toNat = first + ch := by omega
      refine aA rfl ?_
      refine aA rfl ?_
      refine bB (Γ := bC [(59, .pure true dY)]) (fun k => if k = 12 then 0 else 2) [52, 0, 2, 3, 8, 9] bZ (aH jC aO) rfl rfl rfl (by kernel_rfl) (fun K hK => ?_)
      simp (disch := omega) only [Tryd.f68, go_sem, Nat.reduceAdd, ↓reduceIte, e2, e3, hv]
      refine hK _ ?_
      refine aB ?_
      cases v
      ·skip
       simp only [Bool.not_false, if_true] at hr1
       subst hr1
       refine eC (.tmp 52) rfl rfl rfl (fun h => ?_) (fun h => ?_)
       ·skip
        refine aI rfl ?_
        refine aS rfl ?_
        refine bI (bN (dF (bN ?_)))
        exact ⟨rfl, by simp only [aV, if_true], rfl, dZ _⟩
       ·skip
        refine aI rfl ?_
        cases h
      ·skip
       simp only [Bool.not_true, Bool.false_eq_true, if_false] at hr1
       refine eC (.tmp 52) rfl rfl rfl (fun h => ?_) (fun h => ?_)
       ·skip
        cases h
       ·skip
        refine aQ rfl ?_
        refine aB ?_
        refine aA rfl ?_
        have hsw : (d1.setIfInBounds (first + k) d1[first + ch]!).setIfInBounds (first + ch) d1[first + k]! = Sort.swp d1 (first + k) (first + ch) := rfl
        refine bB (Γ := aL) (fun _ => 2) [0, 2, 3, 9] bZ (aD _ _) rfl rfl rfl (by kernel_rfl) (fun K hK => ?_)
        simp (disch := omega) only [Tryd.f68, go_sem, Nat.reduceAdd, ↓reduceIte, e2, e3, hsw]
        refine hK _ ?_
        refine aB ?_
        refine aC (Γ := aL) [0, 2, 3, 8] (aD _ _) rfl rfl rfl (fun K hK => ?_)
        simp (disch := omega) only [Tryd.f68, go_sem, Nat.reduceAdd, ↓reduceIte]
        refine hK _ ?_
        refine bU (bT ?_)
        refine ⟨⟨ch, Sort.swp d1 (first + k) (first + ch), _⟩, ⟨hr1, by simp only [cW]; exact hs1, by simp only; omega, by simp only; omega⟩, by simp only; omega, ⟨fun _ => .inr rfl, bS (by simp (disch := omega) only [aV, ↓reduceIte, eq_self]) cB, Nat.le_refl _⟩⟩
     ·skip
      cases h
   ·skip
    have hd1 : decide (2 * (k : Int) + 1 + 1 < (hi : Int)) = false := decide_eq_false (by omega)
    refine bB (Γ := bC [(59, .pure true dY)]) (fun k => if k = 18 then 0 else 2) [36, 0, 2, 3, 8, 9] bZ (aH jC aO) rfl rfl rfl (by kernel_rfl) (fun K hK => ?_)
    simp (disch := omega) only [Tryd.f68, go_sem, Nat.reduceAdd, reduceCtorEq, ↓reduceIte, hd1]
    refine hK _ ?_
    refine aB ?_
    rw [sift_one _ _ _ _ hk1 (by rw [decide_eq_false (by omega : ¬ 2 * k + 2 < hi), Bool.false_and])] at hr1
    refine eC (.tmp 36) rfl rfl rfl (fun h => ?_) (fun h => ?_)
    ·skip
     refine aI rfl ?_
     cases h
    ·skip
     refine aI rfl ?_
     refine aQ rfl ?_
     refine aB ?_
     refine aA rfl ?_
     refine aA rfl ?_
     obtain ⟨ch, hch⟩ : ∃ ch, 2 * k + 1 = ch := ⟨_, rfl⟩
     have ech : 2 * (k : Int) + 1 = (ch : Int) := by omega
     rw [hch] at hr1
     rw [ech]
     clear e9 e9b
     have hchn : first + ch < n := by omega
     have hkn : first + k < n := by omega
     obtain ⟨v, hv⟩ : ∃ v, ltN d1[first + k]! d1[first + ch]! = v := ⟨_, rfl⟩
     rw [hv] at hr1
     have e2 : ((first : Int) + (k : Int)).toNat = first + k := by omega
     have e3 : ((first : Int) + (ch : Int)).toNat = first + ch := by omega
     refine bB (Γ := bC [(59, .pure true dY)]) (fun k => if k = 12 then 0 else 2) [52, 0, 2, 3, 8, 9] bZ (aH jC aO) rfl rfl rfl (by kernel_rfl) (fun K hK => ?_)
     simp (disch := omega) only [Tryd.f68, go_sem, Nat.reduceAdd, ↓reduceIte, e2, e3, hv]
     refine hK _ ?_
     refine aB ?_
     cases v
     ·skip
      simp only [Bool.not_false, if_true] at hr1
      subst hr1
      refine eC (.tmp 52) rfl rfl rfl (fun h => ?_) (fun h => ?_)
      ·skip
       refine aI rfl ?_
       refine aS rfl ?_
       refine bI (bN (dF (bN ?_)))
       exact ⟨rfl, by simp only [aV, if_true], rfl, dZ _⟩
      ·skip
       refine aI rfl ?_
       cases h
     ·skip
      simp only [Bool.not_true, Bool.false_eq_true, if_false] at hr1
      refine eC (.tmp 52) rfl rfl rfl (fun h => ?_) (fun h => ?_)
      ·skip
       cases h
      ·skip
       refine aQ rfl ?_
       refine aB ?_
       refine aA rfl ?_
       have hsw : (d1.setIfInBounds (first + k) d1[first + ch]!).setIfInBounds (first + ch) d1[first + k]! = Sort.swp d1 (first + k) (first + ch) := rfl
       refine bB (Γ := aL) (fun _ => 2) [0, 2, 3, 9] bZ (aD _ _) rfl rfl rfl (by kernel_rfl) (fun K hK => ?_)
       simp (disch := omega) only [Tryd.f68, go_sem, Nat.reduceAdd, ↓reduceIte, e2, e3, hsw]
       refine hK _ ?_
       refine aB ?_
       refine aC (Γ := aL) [0, 2, 3, 8] (aD _ _) rfl rfl rfl (fun K hK => ?_)
       simp (disch := omega) only [Tryd.f68, go_sem, Nat.reduceAdd, ↓reduceIte]
       refine hK _ ?_
       refine bU (bT ?_)
       refine ⟨⟨ch, Sort.swp d1 (first + k) (first + ch), _⟩, ⟨hr1, by simp only [cW]; exact hs1, by simp only; omega, by simp only; omega⟩, by simp only; omega, ⟨fun _ => .inr rfl, bS (by simp (disch := omega) only [aV, ↓reduceIte, eq_self]) cB, Nat.le_refl _⟩⟩
 ·cases hg
theorem oku104 : bX Tryd.prog GLh 68 (.heap (dP sifG)) := ⟨⟨_, Tryd.func68, rfl, rfl⟩, sif_ok⟩
theorem sif_size0 (hi first : Nat) : ∀ (m root : Nat) (d : Array T32), hi - root ≤ m → (Sort.siftDown ltN hi first root d).size = d.size := by
 intro m
 induction m with
 | zero => intro root d h; rw [sift_end _ _ _ _ (by omega)]
 | succ m ih =>
  intro root d h
  rw [Sort.siftDown]
  split
  ·rfl
  split
  ·split
   ·rfl
   split
   ·rw [ih _ _ (by omega), cW]
   ·rfl
  ·split
   ·rfl
   ·rw [ih _ _ (by omega), cW]
theorem sif_size (hi first root : Nat) (d : Array T32) : (Sort.siftDown ltN hi first root d).size = d.size := sif_size0 hi first _ root d (Nat.le_refl _)
def hepG : List AV → List AV → Option (AV × List AV)
 | [.os _ 0 n 1 _, .i a, .i b], xs => aK (unA xs) fun l => aN (l.length = n ∧ 0 ≤ a ∧ a < b ∧ b ≤ n ∧ n ≤ 1000000) (some (.tup [], cA (Sort.heapSort ltN l.toArray a.toNat b.toNat)))
 | _, _ => none
theorem hepG_eq (id n : Nat) (gg : Bool) (a b : Int) (xs : List AV) : hepG [.os id 0 n 1 gg, .i a, .i b] xs = aK (unA xs) fun l => aN (l.length = n ∧ 0 ≤ a ∧ a < b ∧ b ≤ n ∧ n ≤ 1000000) (some (.tup [], cA (Sort.heapSort ltN l.toArray a.toNat b.toNat))) := (rfl)
attribute [go_sem] hepG_eq sif_size Array.toArray_toList Array.length_toList
set_option maxHeartbeats 2000000 in
theorem hep_ok : cQ Tryd.prog GLh 54 (dP hepG) := by
 refine dN Tryd.func54 (aT rfl) ?_
 intro id off n e gg rest nx xs r ys hg
 unfold hepG at hg
 split at hg
 ·rename_i id2 n2 gg2 a0 b0 heq
  simp only [List.cons.injEq, AV.os.injEq] at heq
  obtain ⟨⟨rfl, rfl, rfl, rfl, rfl⟩, rfl⟩ := heq
  replace hg := aJ hg; obtain ⟨l, hl, hg⟩ := hg
  replace hg := aP hg; obtain ⟨⟨hn, ha, hab, hbn, hbig⟩, hg⟩ := hg
  simp only [Option.some.injEq, Prod.mk.injEq] at hg; obtain ⟨rfl, rfl⟩ := hg
  have := dO hl; subst this
  obtain ⟨a, rfl⟩ := Int.eq_ofNat_of_zero_le ha
  obtain ⟨b, rfl⟩ := Int.eq_ofNat_of_zero_le (show 0 ≤ b0 by omega)
  simp only [Int.toNat_natCast] at *
  obtain ⟨d, hd⟩ : ∃ d, l.toArray = d := ⟨_, rfl⟩
  have hds : d.size = n := by rw [← hd]; simpa using hn
  have hab2 : a < b := by omega
  have hbn2 : b ≤ n := by omega
  rw [hd]
  refine ⟨Nat.le_of_ble_eq_true rfl, fun hid => ?_⟩
  obtain ⟨R, hR⟩ : ∃ R, Sort.heapSort ltN d a b = R := ⟨_, rfl⟩
  obtain ⟨H, hH⟩ : ∃ H : Nat, b - a = H := ⟨_, rfl⟩
  obtain ⟨B, hB⟩ : ∃ B, Sort.heapBuild ltN H a ((H - 1) / 2 + 1) d = B := ⟨_, rfl⟩
  rw [hR]
  rw [Sort.heapSort, hH, hB] at hR
  have eH : (b : Int) - (a : Int) = (H : Int) := by omega
  have eq2 : ((H : Int) - 1).tdiv 2 = (((H - 1) / 2 : Nat) : Int) := by rw [Int.tdiv_eq_ediv_of_nonneg (by omega)]; omega
  clear hl hn ha hab hbn
  refine aA rfl ?_
  refine aC (Γ := aL) [0, 1, 2, 6] (aD _ _) rfl rfl rfl (fun K hK => ?_)
  simp (disch := omega) only [Tryd.f54, go_sem, Nat.reduceAdd, ↓reduceIte]
  refine hK _ ?_
  refine aB ?_
  refine aA rfl ?_
  refine aC (Γ := aL) [0, 1, 2, 6, 7] (aD _ _) rfl rfl rfl (fun K hK => ?_)
  simp (disch := omega) only [Tryd.f54, go_sem, ↓reduceIte]
  refine hK _ ?_
  refine aB ?_
  refine aA rfl ?_
  refine aC (Γ := aL) [0, 6, 7, 8] (aD _ _) rfl rfl rfl (fun K hK => ?_)
  simp (disch := omega) only [Tryd.f54, go_sem, Nat.reduceAdd, ↓reduceIte, eH]
  refine hK _ ?_
  refine aB ?_
  refine aA rfl ?_
  refine aA rfl ?_
  refine aC (Γ := aL) [0, 6, 7, 8, 9] (aD _ _) rfl rfl rfl (fun K hK => ?_)
  simp (disch := omega) only [Tryd.f54, go_sem, Nat.reduceAdd, Int.reduceEq, ↓reduceIte, eq2]
  refine hK _ ?_
  refine aB ?_
  refine aR 0 rfl rfl ?_
  refine bR (fun p : SDC => { fr := [(0, .os id 0 n 1 gg), (6, .i a), (7, .i 0), (8, .i H), (9, .i ((p.k : Int) - 1))], hp := upd (fun _ => none) id (.cells (cA p.d) true), nx := 0, cx := p.c }) (fun p => Sort.heapBuild ltN H a p.k p.d = B ∧ p.d.size = n ∧ p.k ≤ H ∧ id < p.c) (fun p => p.k) rfl ⟨⟨(H - 1) / 2 + 1, d, _⟩, ⟨hB, hds, by simp only; omega, by simp only; omega⟩, bD (by simp only [Int.natCast_add, Int.natCast_one, Int.add_sub_cancel]) rfl (Nat.le_refl _)⟩ ?_
  rintro ⟨k, d1, c⟩ ⟨hr1, hs1, hk, hc⟩ n0
  simp only at hr1 hs1 hk hc ⊢
  refine aA rfl ?_
  refine aA rfl ?_
  refine aC (Γ := aL) [19, 0, 6, 7, 8, 9] (aD _ _) rfl rfl rfl (fun K hK => ?_)
  simp (disch := omega) only [Tryd.f54, go_sem, Nat.reduceAdd, ↓reduceIte]
  refine hK _ ?_
  refine aB ?_
  refine aW (.tmp 19) rfl rfl rfl (fun h => ?_) (fun h => ?_)
  ·skip
   refine aI rfl ?_
   obtain ⟨i, rfl⟩ : ∃ i, k = i + 1 := ⟨k - 1, by omega⟩
   have e1 : ((i + 1 : Nat) : Int) - 1 = (i : Int) := by omega
   rw [Sort.heapBuild] at hr1
   refine aQ rfl ?_
   refine aB ?_
   refine aA rfl ?_
   refine aR 1 rfl rfl ?_
   refine aC (Γ := bC [(68, .heap (dP sifG))]) [0, 6, 7, 8, 9] (aH oku104 aO) rfl rfl rfl (fun K hK => ?_)
   simp (disch := omega) only [Tryd.f54, go_sem, Nat.reduceAdd, ↓reduceIte, e1, hs1, Int.toNat_natCast]
   refine hK _ ?_
   refine bU (aB ?_)
   refine aC (Γ := aL) [0, 6, 7, 8, 9] (aD _ _) rfl rfl rfl (fun K hK => ?_)
   simp (disch := omega) only [Tryd.f54, go_sem, Nat.reduceAdd, ↓reduceIte]
   refine hK _ ?_
   refine bT ?_
   refine ⟨⟨i, Sort.siftDown ltN H a i d1, _⟩, ⟨hr1, by simp only [sif_size]; exact hs1, by simp only; omega, by simp only; omega⟩, by simp only; omega, ⟨fun _ => .inr rfl, bS (by simp (disch := omega) only [aV, ↓reduceIte, eq_self]) cB, Nat.le_refl _⟩⟩
  ·skip
   refine aI rfl ?_
   refine bF 0 rfl rfl ?_
   refine aY (aZ (bE ?_))
   refine aB ?_
   refine aA rfl ?_
   obtain rfl : k = 0 := by omega
   rw [Sort.heapBuild] at hr1
   subst hr1
   refine aC (Γ := aL) [0, 6, 7, 10] (aD _ _) rfl rfl rfl (fun K hK => ?_)
   simp (disch := omega) only [Tryd.f54, go_sem, Nat.reduceAdd, ↓reduceIte]
   refine hK _ ?_
   refine aB ?_
   refine aR 2 rfl rfl ?_
   refine bR (fun p : SDC => { fr := [(0, .os id 0 n 1 gg), (6, .i a), (7, .i 0), (10, .i ((p.k : Int) - 1))], hp := upd (fun _ => none) id (.cells (cA p.d) true), nx := 0, cx := p.c }) (fun p => Sort.heapPop ltN a p.k p.d = R ∧ p.d.size = n ∧ p.k ≤ H ∧ id < p.c) (fun p => p.k) rfl ⟨⟨H, d1, _⟩, ⟨hR, hs1, Nat.le_refl _, by simp only; omega⟩, bD rfl rfl (Nat.le_refl _)⟩ ?_
   rintro ⟨k, d2, c2⟩ ⟨hr2, hs2, hk2, hc2⟩ n0
   simp only at hr2 hs2 hk2 hc2 ⊢
   refine aA rfl ?_
   refine aA rfl ?_
   refine aC (Γ := aL) [30, 0, 6, 7, 10] (aD _ _) rfl rfl rfl (fun K hK => ?_)
   simp (disch := omega) only [Tryd.f54, go_sem, Nat.reduceAdd, ↓reduceIte]
   refine hK _ ?_
   refine aB ?_
   refine aW (.tmp 30) rfl rfl rfl (fun h => ?_) (fun h => ?_)
   ·skip
    refine aI rfl ?_
    obtain ⟨i, rfl⟩ : ∃ i, k = i + 1 := ⟨k - 1, by omega⟩
    have e1 : ((i + 1 : Nat) : Int) - 1 = (i : Int) := by omega
    have e2 : ((a : Int) + (i : Int)).toNat = a + i := by omega
    have hsw : (d2.setIfInBounds a d2[a + i]!).setIfInBounds (a + i) d2[a]! = Sort.swp d2 a (a + i) := rfl
    have hss : (Sort.swp d2 a (a + i)).size = n := by rw [cW]; exact hs2
    rw [Sort.heapPop] at hr2
    refine aQ rfl ?_
    refine aB ?_
    refine aA rfl ?_
    refine aR 3 rfl rfl ?_
    refine aA rfl ?_
    refine bB (Γ := aL) (fun _ => 2) [0, 6, 7, 10] bZ (aD _ _) rfl rfl rfl (by kernel_rfl) (fun K hK => ?_)
    simp (disch := omega) only [Tryd.f54, go_sem, Nat.reduceAdd, ↓reduceIte, e1, e2, hsw]
    refine hK _ ?_
    refine aB ?_
    refine aC (Γ := bC [(68, .heap (dP sifG))]) [0, 6, 7, 10] (aH oku104 aO) rfl rfl rfl (fun K hK => ?_)
    simp (disch := omega) only [Tryd.f54, go_sem, Nat.reduceAdd, Int.reduceLE, Int.reduceToNat, ↓reduceIte, hss, Int.toNat_natCast]
    refine hK _ ?_
    refine bU (aB ?_)
    refine aC (Γ := aL) [0, 6, 7, 10] (aD _ _) rfl rfl rfl (fun K hK => ?_)
    simp (disch := omega) only [Tryd.f54, go_sem, Nat.reduceAdd, ↓reduceIte]
    refine hK _ ?_
    refine bT ?_
    refine ⟨⟨i, Sort.siftDown ltN i a 0 (Sort.swp d2 a (a + i)), _⟩, ⟨hr2, by simp only [sif_size]; exact hss, by simp only; omega, by simp only; omega⟩, by simp only; omega, ⟨fun _ => .inr rfl, bS (by simp (disch := omega) only [aV, ↓reduceIte, eq_self]) cB, Nat.le_refl _⟩⟩
   ·skip
    refine aI rfl ?_
    refine bF 2 rfl rfl ?_
    refine aY (aZ (bE ?_))
    obtain rfl : k = 0 := by omega
    rw [Sort.heapPop] at hr2
    subst hr2
    exact ⟨rfl, by simp only [aV, if_true], rfl, dZ _⟩
 ·cases hg
theorem oku94 : bX Tryd.prog GLh 54 (.heap (dP hepG)) := ⟨⟨_, Tryd.func54, rfl, rfl⟩, hep_ok⟩
end Go.AX
namespace Go.AX
open Go Go.Proofs
def rowO : AO → Option (List AV)
 | .cells xs mt => aN (mt = true) (some xs)
 | .mapo _ _ => none
theorem rowO_c (xs : List AV) (mt : Bool) : rowO (.cells xs mt) = aN (mt = true) (some xs) := (rfl)
theorem rowO_inv {o : AO} {xs : List AV} (h : rowO o = some xs) : o = .cells xs true := by
 obtain ⟨ys, mt, rfl⟩ : ∃ ys mt, o = .cells ys mt := by cases o with | cells ys mt => exact ⟨ys, mt, rfl⟩ | mapo _ _ => cases h
 obtain ⟨hm, h⟩ := aP h
 obtain rfl := Option.some.inj h
 rw [hm]
def oneI : List AV → Option Int
 | [.i s] => some s
 | _ => none
theorem oneI_eq (s : Int) : oneI [.i s] = some s := (rfl)
theorem oneI_inv {xs : List AV} {s : Int} (h : oneI xs = some s) : xs = [.i s] := by
 unfold oneI at h
 split at h
 ·obtain rfl := Option.some.inj h; rfl
 ·cases h
attribute [go_sem] rowO_c oneI_eq List.head?_cons List.set_cons_zero
theorem hsub_same {hp : H} {q : Nat} {a : AO} (h : hp q = some a) : ∀ j o, upd hp q a j = some o → hp j = some o := by
 intro j o hj
 rw [bJ] at hj
 split at hj
 ·rename_i e; rw [e, h]; exact hj
 ·exact hj
theorem hsub_up {hp t : H} {q : Nat} {a : AO} (h1 : t q = some a) (h2 : ∀ j, j ≠ q → t j = hp j) : ∀ j o, upd hp q a j = some o → t j = some o := by
 intro j o hj
 rw [bJ] at hj
 split at hj
 ·rename_i e; rw [e, h1]; exact hj
 ·rename_i e; rw [h2 j e]; exact hj
def ordH : List AV → H → Nat → Option (AV × H × Nat)
 | [.os id 0 n 1 _, .i a, .i b, .op q 0], hp, nx => aK (hp id) fun o => aK (rowO o) fun xs => aK (unA xs) fun l => aK (hp q) fun o2 => aK (rowO o2) fun ys => aK (oneI ys) fun s => aN (id ≠ q ∧ l.length = n ∧ 0 ≤ a ∧ a < n ∧ 0 ≤ b ∧ b < n ∧  n ≤ 1000000 ∧ 0 ≤ s ∧ s ≤ 1000) (some (.tup [.i (Sort.order2 ltN l.toArray a.toNat b.toNat s.toNat).1, .i (Sort.order2 ltN l.toArray a.toNat b.toNat s.toNat).2.1], upd hp q (.cells [.i (Sort.order2 ltN l.toArray a.toNat b.toNat s.toNat).2.2] true), nx + 60))
 | _, _, _ => none
theorem ordH_eq (id n q : Nat) (gg : Bool) (a b : Int) (hp : H) (nx : Nat) : ordH [.os id 0 n 1 gg, .i a, .i b, .op q 0] hp nx = aK (hp id) fun o => aK (rowO o) fun xs => aK (unA xs) fun l => aK (hp q) fun o2 => aK (rowO o2) fun ys => aK (oneI ys) fun s => aN (id ≠ q ∧ l.length = n ∧ 0 ≤ a ∧ a < n ∧ 0 ≤ b ∧ b < n ∧  n ≤ 1000000 ∧ 0 ≤ s ∧ s ≤ 1000) (some (.tup [.i (Sort.order2 ltN l.toArray a.toNat b.toNat s.toNat).1, .i (Sort.order2 ltN l.toArray a.toNat b.toNat s.toNat).2.1], upd hp q (.cells [.i (Sort.order2 ltN l.toArray a.toNat b.toNat s.toNat).2.2] true), nx + 60)) := (rfl)
attribute [go_sem] ordH_eq
set_option maxHeartbeats 1000000 in
theorem ord_ok : cQ Tryd.prog GLh 75 ordH := by
 refine gF Tryd.func75 (aT rfl) ?_
 intro args hp nx r hp' nx' hg
 unfold ordH at hg
 split at hg
 ·rename_i hp0 nx0 id n gg a0 b0 q
  replace hg := aJ hg; obtain ⟨o, ho, hg⟩ := hg
  replace hg := aJ hg; obtain ⟨xs, hxs, hg⟩ := hg
  obtain rfl := rowO_inv hxs
  replace hg := aJ hg; obtain ⟨l, hl, hg⟩ := hg
  replace hg := aJ hg; obtain ⟨o2, ho2, hg⟩ := hg
  replace hg := aJ hg; obtain ⟨ys, hys, hg⟩ := hg
  obtain rfl := rowO_inv hys
  replace hg := aJ hg; obtain ⟨s0, hs0, hg⟩ := hg
  obtain rfl := oneI_inv hs0
  replace hg := aP hg; obtain ⟨⟨hne, hn, hal, hau, hbl, hbu, hbig, hsl, hsu⟩, hg⟩ := hg
  simp only [Option.some.injEq, Prod.mk.injEq] at hg; obtain ⟨rfl, rfl, rfl⟩ := hg
  have := dO hl; subst this
  obtain ⟨a, rfl⟩ := Int.eq_ofNat_of_zero_le hal
  obtain ⟨b, rfl⟩ := Int.eq_ofNat_of_zero_le hbl
  obtain ⟨s, rfl⟩ := Int.eq_ofNat_of_zero_le hsl
  simp only [Int.toNat_natCast] at *
  obtain ⟨d, hd⟩ : ∃ d, l.toArray = d := ⟨_, rfl⟩
  have hds : d.size = n := by rw [← hd]; simpa using hn
  rw [hd] at ho ⊢
  have hqi : q ≠ id := fun e => hne e.symm
  refine ⟨Nat.le_of_ble_eq_true rfl, by omega, fun hnone => ?_⟩
  have hidn : id < nx := by
   apply Classical.byContradiction; intro hc; rw [hnone id (by omega)] at ho; cases ho
  have hqn : q < nx := by
   apply Classical.byContradiction; intro hc; rw [hnone q (by omega)] at ho2; cases ho2
  obtain ⟨v, hv⟩ : ∃ v, ltN d[b]! d[a]! = v := ⟨_, rfl⟩
  simp only [Sort.order2, hv]
  refine aA rfl ?_
  refine aC (Γ := aL) [0, 1, 2, 3] (aD _ _) rfl rfl rfl (fun K hK => ?_)
  simp (disch := omega) only [Tryd.f75, go_sem, Nat.reduceAdd, ↓reduceIte]
  refine hK _ ?_
  refine aB ?_
  refine aA rfl ?_
  refine aA rfl ?_
  refine bB (Γ := bC [(59, .pure true dY)]) (fun k => if k = 8 then 0 else 2) [18, 1, 2, 3] bZ (aH jC aO) rfl rfl rfl (by kernel_rfl) (fun K hK => ?_)
  simp (disch := omega) only [Tryd.f75, go_sem, Nat.reduceAdd, ↓reduceIte, ho, hv, Int.toNat_natCast]
  refine hK _ ?_
  refine aB ?_
  cases v
  ·skip
   refine eC (.tmp 18) rfl rfl rfl (fun h => ?_) (fun h => ?_)
   ·skip
    refine aI rfl ?_
    cases h
   ·skip
    refine aI rfl ?_
    refine aQ rfl ?_
    refine aB ?_
    refine aA rfl ?_
    refine aC (Γ := aL) [8, 9] (aD _ _) rfl rfl rfl (fun K hK => ?_)
    simp (disch := omega) only [Tryd.f75, go_sem, Nat.reduceAdd, ↓reduceIte]
    refine hK _ ?_
    refine aB ?_
    refine aS rfl ?_
    exact ⟨rfl, hsub_same ho2, by simp only; omega⟩
  ·skip
   refine eC (.tmp 18) rfl rfl rfl (fun h => ?_) (fun h => ?_)
   ·skip
    refine aA rfl ?_
    refine aC (Γ := aL) [1, 2] (aD _ _) rfl rfl rfl (fun K hK => ?_)
    simp (disch := omega) only [Tryd.f75, go_sem, Nat.reduceAdd, Nat.reduceLeDiff, ↓reduceIte, ho2]
    refine hK _ ?_
    refine aB ?_
    refine aA rfl ?_
    refine aC (Γ := aL) [8, 9] (aD _ _) rfl rfl rfl (fun K hK => ?_)
    simp (disch := omega) only [Tryd.f75, go_sem, Nat.reduceAdd, ↓reduceIte]
    refine hK _ ?_
    refine aB ?_
    refine aS rfl ?_
    refine bI ?_
    refine ⟨rfl, hsub_up (by simp only [aV, if_true, Int.natCast_add, Int.natCast_one]; try rfl) (fun j hj => by simp only [aV, if_neg hj]), by simp only; omega⟩
   ·skip
    cases h
 ·cases hg
theorem oku110 : bX Tryd.prog GLh 75 (.heap ordH) := ⟨⟨_, Tryd.func75, rfl, rfl⟩, ord_ok⟩
theorem ord_facts {d : Array T32} {a b s x y t : Nat} (h : Sort.order2 ltN d a b s = (x, y, t)) : ((x = a ∧ y = b) ∨ (x = b ∧ y = a)) ∧ t ≤ s + 1 := by
 unfold Sort.order2 at h
 split at h <;> (simp only [Prod.mk.injEq] at h; obtain ⟨rfl, rfl, rfl⟩ := h; omega)
theorem med_facts {d : Array T32} {a b c s x t : Nat} (h : Sort.median ltN d a b c s = (x, t)) : (x = a ∨ x = b ∨ x = c) ∧ t ≤ s + 3 := by
 obtain ⟨⟨x1, y1, s1⟩, h1⟩ : ∃ r, Sort.order2 ltN d a b s = r := ⟨_, rfl⟩
 have f1 := ord_facts h1
 obtain ⟨⟨x2, y2, s2⟩, h2⟩ : ∃ r, Sort.order2 ltN d y1 c s1 = r := ⟨_, rfl⟩
 have f2 := ord_facts h2
 obtain ⟨⟨x3, y3, s3⟩, h3⟩ : ∃ r, Sort.order2 ltN d x1 x2 s2 = r := ⟨_, rfl⟩
 have f3 := ord_facts h3
 simp only [Sort.median, h1, h2, h3, Prod.mk.injEq] at h
 omega
attribute [go_sem] Array.toArray_toList Array.length_toList
def medH : List AV → H → Nat → Option (AV × H × Nat)
 | [.os id 0 n 1 _, .i a, .i b, .i c, .op q 0], hp, nx => aK (hp id) fun o => aK (rowO o) fun xs => aK (unA xs) fun l => aK (hp q) fun o2 => aK (rowO o2) fun ys => aK (oneI ys) fun s => aN (id ≠ q ∧ l.length = n ∧ 0 ≤ a ∧ a < n ∧ 0 ≤ b ∧ b < n ∧ 0 ≤ c ∧ c < n ∧  n ≤ 1000000 ∧ 0 ≤ s ∧ s ≤ 900) (some (.i (Sort.median ltN l.toArray a.toNat b.toNat c.toNat s.toNat).1, upd hp q (.cells [.i (Sort.median ltN l.toArray a.toNat b.toNat c.toNat s.toNat).2] true), nx + 300))
 | _, _, _ => none
theorem medH_eq (id n q : Nat) (gg : Bool) (a b c : Int) (hp : H) (nx : Nat) : medH [.os id 0 n 1 gg, .i a, .i b, .i c, .op q 0] hp nx = aK (hp id) fun o => aK (rowO o) fun xs => aK (unA xs) fun l => aK (hp q) fun o2 => aK (rowO o2) fun ys => aK (oneI ys) fun s => aN (id ≠ q ∧ l.length = n ∧ 0 ≤ a ∧ a < n ∧ 0 ≤ b ∧ b < n ∧ 0 ≤ c ∧ c < n ∧  n ≤ 1000000 ∧ 0 ≤ s ∧ s ≤ 900) (some (.i (Sort.median ltN l.toArray a.toNat b.toNat c.toNat s.toNat).1, upd hp q (.cells [.i (Sort.median ltN l.toArray a.toNat b.toNat c.toNat s.toNat).2] true), nx + 300)) := (rfl)
attribute [go_sem] medH_eq
set_option maxHeartbeats 1000000 in
theorem med_ok : cQ Tryd.prog GLh 72 medH := by
 refine gF Tryd.func72 (aT rfl) ?_
 intro args hp nx r hp' nx' hg
 unfold medH at hg
 split at hg
 ·rename_i hp0 nx0 id n gg a0 b0 c0 q
  replace hg := aJ hg; obtain ⟨o, ho, hg⟩ := hg
  replace hg := aJ hg; obtain ⟨xs, hxs, hg⟩ := hg
  obtain rfl := rowO_inv hxs
  replace hg := aJ hg; obtain ⟨l, hl, hg⟩ := hg
  replace hg := aJ hg; obtain ⟨o2, ho2, hg⟩ := hg
  replace hg := aJ hg; obtain ⟨ys, hys, hg⟩ := hg
  obtain rfl := rowO_inv hys
  replace hg := aJ hg; obtain ⟨s0, hs0, hg⟩ := hg
  obtain rfl := oneI_inv hs0
  replace hg := aP hg; obtain ⟨⟨hne, hn, hal, hau, hbl, hbu, hcl, hcu, hbig, hsl, hsu⟩, hg⟩ := hg
  simp only [Option.some.injEq, Prod.mk.injEq] at hg; obtain ⟨rfl, rfl, rfl⟩ := hg
  have := dO hl; subst this
  obtain ⟨a, rfl⟩ := Int.eq_ofNat_of_zero_le hal
  obtain ⟨b, rfl⟩ := Int.eq_ofNat_of_zero_le hbl
  obtain ⟨c, rfl⟩ := Int.eq_ofNat_of_zero_le hcl
  obtain ⟨s, rfl⟩ := Int.eq_ofNat_of_zero_le hsl
  simp only [Int.toNat_natCast] at *
  obtain ⟨d, hd⟩ : ∃ d, l.toArray = d := ⟨_, rfl⟩
  have hds : d.size = n := by rw [← hd]; simpa using hn
  rw [hd] at ho ⊢
  have hqi : q ≠ id := fun e => hne e.symm
  refine ⟨Nat.le_of_ble_eq_true rfl, by omega, fun hnone => ?_⟩
  have hidn : id < nx := by
   apply Classical.byContradiction; intro hc; rw [hnone id (by omega)] at ho; cases ho
  have hqn : q < nx := by
   apply Classical.byContradiction; intro hc; rw [hnone q (by omega)] at ho2; cases ho2
  obtain ⟨⟨x1, y1, s1⟩, h1⟩ : ∃ r, Sort.order2 ltN d a b s = r := ⟨_, rfl⟩
  have f1 := ord_facts h1
  obtain ⟨⟨x2, y2, s2⟩, h2⟩ : ∃ r, Sort.order2 ltN d y1 c s1 = r := ⟨_, rfl⟩
  have f2 := ord_facts h2
  obtain ⟨⟨x3, y3, s3⟩, h3⟩ : ∃ r, Sort.order2 ltN d x1 x2 s2 = r := ⟨_, rfl⟩
  have f3 := ord_facts h3
  have hx1 : x1 < n := by omega
  have hy1 : y1 < n := by omega
  have hx2 : x2 < n := by omega
  simp only [Sort.median, h1, h2, h3]
  refine aA rfl ?_
  refine aC (Γ := aL) [0, 1, 2, 3, 4] (aD _ _) rfl rfl rfl (fun K hK => ?_)
  simp (disch := omega) only [Tryd.f72, go_sem, Nat.reduceAdd, ↓reduceIte]
  refine hK _ ?_
  refine aB ?_
  refine aA rfl ?_
  refine aC (Γ := bC [(75, .heap ordH)]) [0, 1, 2, 3, 4] (aH oku110 aO) rfl rfl rfl (fun K hK => ?_)
  simp (disch := omega) only [Tryd.f72, go_sem, Nat.reduceAdd, ↓reduceIte, ho, ho2, hds, h1, Int.toNat_natCast, Int.natCast_nonneg]
  refine hK _ ?_
  refine aB ?_
  refine aA rfl ?_
  refine aC (Γ := bC [(75, .heap ordH)]) [0, 1, 2, 4] (aH oku110 aO) rfl rfl rfl (fun K hK => ?_)
  simp (disch := omega) only [Tryd.f72, go_sem, Nat.reduceAdd, ↓reduceIte, ho, hds, h2, hne, Int.toNat_natCast]
  refine hK _ ?_
  refine aB ?_
  refine aA rfl ?_
  refine aC (Γ := bC [(75, .heap ordH)]) [2] (aH oku110 aO) rfl rfl rfl (fun K hK => ?_)
  simp (disch := omega) only [Tryd.f72, go_sem, Nat.reduceAdd, ↓reduceIte, ho, hds, h3, hne, Int.toNat_natCast]
  refine hK _ ?_
  refine aB ?_
  refine aA rfl ?_
  refine aC (Γ := aL) [10] (aD _ _) rfl rfl rfl (fun K hK => ?_)
  simp (disch := omega) only [Tryd.f72, go_sem, Nat.reduceAdd, ↓reduceIte]
  refine hK _ ?_
  refine aB ?_
  refine aS rfl ?_
  refine ⟨rfl, hsub_up (by simp only [aV, if_true]) (fun j hj => by simp only [aV, if_neg hj]), by simp only; omega⟩
 ·cases hg
theorem oku108 : bX Tryd.prog GLh 72 (.heap medH) := ⟨⟨_, Tryd.func72, rfl, rfl⟩, med_ok⟩
theorem adj_facts {d : Array T32} {a s x t : Nat} (h : Sort.medianAdjacent ltN d a s = (x, t)) : (x = a - 1 ∨ x = a ∨ x = a + 1) ∧ t ≤ s + 3 := med_facts h
def adjH : List AV → H → Nat → Option (AV × H × Nat)
 | [.os id 0 n 1 _, .i a, .op q 0], hp, nx => aK (hp id) fun o => aK (rowO o) fun xs => aK (unA xs) fun l => aK (hp q) fun o2 => aK (rowO o2) fun ys => aK (oneI ys) fun s => aN (id ≠ q ∧ l.length = n ∧ 1 ≤ a ∧ a + 1 < n ∧  n ≤ 1000000 ∧ 0 ≤ s ∧ s ≤ 800) (some (.i (Sort.medianAdjacent ltN l.toArray a.toNat s.toNat).1, upd hp q (.cells [.i (Sort.medianAdjacent ltN l.toArray a.toNat s.toNat).2] true), nx + 400))
 | _, _, _ => none
theorem adjH_eq (id n q : Nat) (gg : Bool) (a : Int) (hp : H) (nx : Nat) : adjH [.os id 0 n 1 gg, .i a, .op q 0] hp nx = aK (hp id) fun o => aK (rowO o) fun xs => aK (unA xs) fun l => aK (hp q) fun o2 => aK (rowO o2) fun ys => aK (oneI ys) fun s => aN (id ≠ q ∧ l.length = n ∧ 1 ≤ a ∧ a + 1 < n ∧  n ≤ 1000000 ∧ 0 ≤ s ∧ s ≤ 800) (some (.i (Sort.medianAdjacent ltN l.toArray a.toNat s.toNat).1, upd hp q (.cells [.i (Sort.medianAdjacent ltN l.toArray a.toNat s.toNat).2] true), nx + 400)) := (rfl)
attribute [go_sem] adjH_eq
set_option maxHeartbeats 1000000 in
theorem adj_ok : cQ Tryd.prog GLh 71 adjH := by
 refine gF Tryd.func71 (aT rfl) ?_
 intro args hp nx r hp' nx' hg
 unfold adjH at hg
 split at hg
 ·rename_i hp0 nx0 id n gg a0 q
  replace hg := aJ hg; obtain ⟨o, ho, hg⟩ := hg
  replace hg := aJ hg; obtain ⟨xs, hxs, hg⟩ := hg
  obtain rfl := rowO_inv hxs
  replace hg := aJ hg; obtain ⟨l, hl, hg⟩ := hg
  replace hg := aJ hg; obtain ⟨o2, ho2, hg⟩ := hg
  replace hg := aJ hg; obtain ⟨ys, hys, hg⟩ := hg
  obtain rfl := rowO_inv hys
  replace hg := aJ hg; obtain ⟨s0, hs0, hg⟩ := hg
  obtain rfl := oneI_inv hs0
  replace hg := aP hg; obtain ⟨⟨hne, hn, hal1, hau, hbig, hsl, hsu⟩, hg⟩ := hg
  simp only [Option.some.injEq, Prod.mk.injEq] at hg; obtain ⟨rfl, rfl, rfl⟩ := hg
  have := dO hl; subst this
  have hal : 0 ≤ a0 := by omega
  obtain ⟨a, rfl⟩ := Int.eq_ofNat_of_zero_le hal
  obtain ⟨s, rfl⟩ := Int.eq_ofNat_of_zero_le hsl
  simp only [Int.toNat_natCast] at *
  obtain ⟨d, hd⟩ : ∃ d, l.toArray = d := ⟨_, rfl⟩
  have hds : d.size = n := by rw [← hd]; simpa using hn
  rw [hd] at ho ⊢
  have hqi : q ≠ id := fun e => hne e.symm
  refine ⟨Nat.le_of_ble_eq_true rfl, by omega, fun hnone => ?_⟩
  have hidn : id < nx := by
   apply Classical.byContradiction; intro hc; rw [hnone id (by omega)] at ho; cases ho
  have hqn : q < nx := by
   apply Classical.byContradiction; intro hc; rw [hnone q (by omega)] at ho2; cases ho2
  obtain ⟨⟨x1, s1⟩, h1⟩ : ∃ r, Sort.median ltN d (a - 1) a (a + 1) s = r := ⟨_, rfl⟩
  simp only [Sort.medianAdjacent, h1]
  have e1 : (a : Int) - 1 = ((a - 1 : Nat) : Int) := by omega
  have e2 : (a : Int) + 1 = ((a + 1 : Nat) : Int) := by omega
  refine aA rfl ?_
  refine aC (Γ := aL) [0, 1, 2] (aD _ _) rfl rfl rfl (fun K hK => ?_)
  simp (disch := omega) only [Tryd.f71, go_sem, Nat.reduceAdd, ↓reduceIte]
  refine hK _ ?_
  refine aB ?_
  refine aA rfl ?_
  refine aC (Γ := bC [(72, .heap medH)]) [6] (aH oku108 aO) rfl rfl rfl (fun K hK => ?_)
  simp (disch := omega) only [Tryd.f71, go_sem, Nat.reduceAdd, ↓reduceIte, ho, ho2, hds, h1, e1, e2, Int.toNat_natCast]
  refine hK _ ?_
  refine aB ?_
  refine aS rfl ?_
  refine ⟨rfl, hsub_up (by simp only [aV, if_true]) (fun j hj => by simp only [aV, if_neg hj]), by simp only; omega⟩
 ·cases hg
theorem oku107 : bX Tryd.prog GLh 71 (.heap adjH) := ⟨⟨_, Tryd.func71, rfl, rfl⟩, adj_ok⟩
def gM : Sort.Hint → Int
 | .unknown => 0
 | .increasing => 1
 | .decreasing => 2
def chG : List AV → List AV → Option (AV × List AV)
 | [.os _ 0 n 1 _, .i a, .i b], xs => aK (unA xs) fun l => aN (l.length = n ∧ 0 ≤ a ∧ a < b ∧ b ≤ n ∧ n ≤ 1000000) (some (.tup [.i (Sort.choosePivot ltN l.toArray a.toNat b.toNat).1, .i (gM (Sort.choosePivot ltN l.toArray a.toNat b.toNat).2)], cA l.toArray))
 | _, _ => none
theorem chG_eq (id n : Nat) (gg : Bool) (a b : Int) (xs : List AV) : chG [.os id 0 n 1 gg, .i a, .i b] xs = aK (unA xs) fun l => aN (l.length = n ∧ 0 ≤ a ∧ a < b ∧ b ≤ n ∧ n ≤ 1000000) (some (.tup [.i (Sort.choosePivot ltN l.toArray a.toNat b.toNat).1, .i (gM (Sort.choosePivot ltN l.toArray a.toNat b.toNat).2)], cA l.toArray)) := (rfl)
attribute [go_sem] chG_eq
set_option maxHeartbeats 2000000 in
theorem ch_ok : cQ Tryd.prog GLh 56 (dP chG) := by
 refine dN Tryd.func56 (aT rfl) ?_
 intro id off n e gg rest nx xs r ys hg
 unfold chG at hg
 split at hg
 ·rename_i id2 n2 gg2 a0 b0 heq
  simp only [List.cons.injEq, AV.os.injEq] at heq
  obtain ⟨⟨rfl, rfl, rfl, rfl, rfl⟩, rfl⟩ := heq
  replace hg := aJ hg; obtain ⟨l, hl, hg⟩ := hg
  replace hg := aP hg; obtain ⟨⟨hn, ha, hab, hbn, hbig⟩, hg⟩ := hg
  simp only [Option.some.injEq, Prod.mk.injEq] at hg; obtain ⟨rfl, rfl⟩ := hg
  have := dO hl; subst this
  obtain ⟨a, rfl⟩ := Int.eq_ofNat_of_zero_le ha
  obtain ⟨b, rfl⟩ := Int.eq_ofNat_of_zero_le (show 0 ≤ b0 by omega)
  simp only [Int.toNat_natCast] at *
  obtain ⟨d, hd⟩ : ∃ d, l.toArray = d := ⟨_, rfl⟩
  have hds : d.size = n := by rw [← hd]; simpa using hn
  have hab2 : a < b := by omega
  have hbn2 : b ≤ n := by omega
  rw [hd]
  refine ⟨Nat.le_of_ble_eq_true rfl, fun hid => ?_⟩
  clear hl hn ha hab hbn
  have eq4 : (((b : Int) - (a : Int)).tdiv 4) = (((b - a) / 4 : Nat) : Int) := by rw [Int.tdiv_eq_ediv_of_nonneg (by omega)]; omega
  obtain ⟨L, hL⟩ : ∃ L : Nat, b - a = L := ⟨_, rfl⟩
  obtain ⟨Q, hQ⟩ : ∃ Q : Nat, (b - a) / 4 = Q := ⟨_, rfl⟩
  have ebL : (b : Int) - (a : Int) = (L : Int) := by omega
  rw [ebL, hQ] at eq4
  have ei : (a : Int) + (Q : Int) * 1 = ((a + Q * 1 : Nat) : Int) := by omega
  have ej : (a : Int) + (Q : Int) * 2 = ((a + Q * 2 : Nat) : Int) := by omega
  have ek : (a : Int) + (Q : Int) * 3 = ((a + Q * 3 : Nat) : Int) := by omega
  obtain ⟨CP, hCP⟩ : ∃ CP, Sort.choosePivot ltN d a b = CP := ⟨_, rfl⟩
  rw [hCP]
  refine aA rfl ?_
  refine aC (Γ := aL) [0, 1, 2] (aD _ _) rfl rfl rfl (fun K hK => ?_)
  simp (disch := omega) only [Tryd.f56, go_sem, Nat.reduceAdd, ↓reduceIte]
  refine hK _ ?_
  refine aB ?_
  refine aA rfl ?_
  refine aC (Γ := aL) [0, 1, 8] (aD _ _) rfl rfl rfl (fun K hK => ?_)
  simp (disch := omega) only [Tryd.f56, go_sem, Nat.reduceAdd, ↓reduceIte, ebL]
  refine hK _ ?_
  refine aB ?_
  refine aA rfl ?_
  refine aC (Γ := aL) [0, 1, 8, 9] (aD _ _) rfl rfl rfl (fun K hK => ?_)
  simp (disch := omega) only [Tryd.f56, go_sem, ↓reduceIte]
  refine hK _ ?_
  refine aB ?_
  refine aA rfl ?_
  refine aC (Γ := aL) [0, 1, 8, 9, 10] (aD _ _) rfl rfl rfl (fun K hK => ?_)
  simp (disch := omega) only [Tryd.f56, go_sem, Nat.reduceAdd, Int.reduceEq, ↓reduceIte, eq4, ei]
  refine hK _ ?_
  refine aB ?_
  refine aA rfl ?_
  refine aC (Γ := aL) [0, 1, 8, 9, 10, 11] (aD _ _) rfl rfl rfl (fun K hK => ?_)
  simp (disch := omega) only [Tryd.f56, go_sem, Nat.reduceAdd, Int.reduceEq, ↓reduceIte, eq4, ej]
  refine hK _ ?_
  refine aB ?_
  refine aA rfl ?_
  refine aC (Γ := aL) [0, 8, 9, 10, 11, 12] (aD _ _) rfl rfl rfl (fun K hK => ?_)
  simp (disch := omega) only [Tryd.f56, go_sem, Nat.reduceAdd, Int.reduceEq, ↓reduceIte, eq4, ek]
  refine hK _ ?_
  refine aB ?_
  refine aA rfl ?_
  refine aA rfl ?_
  refine aC (Γ := aL) [32, 0, 8, 9, 10, 11, 12] (aD _ _) rfl rfl rfl (fun K hK => ?_)
  simp (disch := omega) only [Tryd.f56, go_sem, Nat.reduceAdd, ↓reduceIte]
  refine hK _ ?_
  refine aB ?_
  have hne : id ≠ nx + 6 := by omega
  have hQL : Q = L / 4 := by omega
  refine aW (.tmp 32) rfl rfl rfl (fun h => ?_) (fun h => ?_)
  ·skip
   refine aI rfl ?_
   have hL8 : 8 ≤ L := by omega
   refine aA rfl ?_
   refine aA rfl ?_
   refine aC (Γ := aL) [34, 0, 9, 10, 11, 12] (aD _ _) rfl rfl rfl (fun K hK => ?_)
   simp (disch := omega) only [Tryd.f56, go_sem, Nat.reduceAdd, ↓reduceIte]
   refine hK _ ?_
   refine aB ?_
   refine aW (.tmp 34) rfl rfl rfl (fun h => ?_) (fun h => ?_)
   ·skip
    refine aI rfl ?_
    have hL50 : 50 ≤ L := by omega
    obtain ⟨⟨x1, s1⟩, h1⟩ : ∃ r, Sort.medianAdjacent ltN d (a + Q) 0 = r := ⟨_, rfl⟩
    have f1 := adj_facts h1
    obtain ⟨⟨x2, s2⟩, h2⟩ : ∃ r, Sort.medianAdjacent ltN d (a + Q * 2) s1 = r := ⟨_, rfl⟩
    have f2 := adj_facts h2
    obtain ⟨⟨x3, s3⟩, h3⟩ : ∃ r, Sort.medianAdjacent ltN d (a + Q * 3) s2 = r := ⟨_, rfl⟩
    have f3 := adj_facts h3
    obtain ⟨⟨p, sw⟩, h4⟩ : ∃ r, Sort.median ltN d x1 x2 x3 s3 = r := ⟨_, rfl⟩
    obtain rfl : CP = (p, if sw = 0 then .increasing else if sw = 12 then .decreasing else .unknown) := by
     rw [← hCP]; unfold Sort.choosePivot
     simp only [hL, ← hQL, ge_iff_le, hL8, hL50, if_true, Nat.mul_one, h1, h2, h3, h4]
    have hx1 : x1 < n := by omega
    have hx2 : x2 < n := by omega
    have hx3 : x3 < n := by omega
    have g1 : a + Q + 1 < n := by omega
    have g2 : a + Q * 2 + 1 < n := by omega
    have g3 : a + Q * 3 + 1 < n := by omega
    refine aA rfl ?_
    refine aC (Γ := bC [(71, .heap adjH)]) [0, 9, 10, 11, 12] (aH oku107 aO) rfl rfl rfl (fun K hK => ?_)
    simp (disch := omega) only [Tryd.f56, go_sem, Nat.reduceAdd, Int.reduceLE, ↓reduceIte, hds, h1, hne, Int.toNat_natCast, Int.toNat_zero]
    refine hK _ ?_
    refine aB ?_
    refine aA rfl ?_
    refine aC (Γ := bC [(71, .heap adjH)]) [0, 9, 10, 11, 12] (aH oku107 aO) rfl rfl rfl (fun K hK => ?_)
    simp (disch := omega) only [Tryd.f56, go_sem, Nat.reduceAdd, ↓reduceIte, hds, h2, hne, Int.toNat_natCast]
    refine hK _ ?_
    refine aB ?_
    refine aC (Γ := bC [(71, .heap adjH)]) [0, 9, 10, 11, 12] (aH oku107 aO) rfl rfl rfl (fun K hK => ?_)
    simp (disch := omega) only [Tryd.f56, go_sem, Nat.reduceAdd, ↓reduceIte, hds, h3, hne, Int.toNat_natCast]
    refine hK _ ?_
    refine aB ?_
    refine aC (Γ := bC [(72, .heap medH)]) [9, 11] (aH oku108 aO) rfl rfl rfl (fun K hK => ?_)
    simp (disch := omega) only [Tryd.f56, go_sem, Nat.reduceAdd, ↓reduceIte, hds, h4, hne, Int.toNat_natCast]
    refine hK _ ?_
    refine aB ?_
    refine aA rfl ?_
    refine aC (Γ := aL) [11, 49] (aD _ _) rfl rfl rfl (fun K hK => ?_)
    simp (disch := omega) only [Tryd.f56, go_sem, ↓reduceIte]
    refine hK _ ?_
    refine aB ?_
    refine aR 0 rfl rfl ?_
    refine aA rfl ?_
    refine aC (Γ := aL) [51, 11, 49] (aD _ _) rfl rfl rfl (fun K hK => ?_)
    simp (disch := omega) only [Tryd.f56, go_sem, Nat.reduceAdd, ↓reduceIte]
    refine hK _ ?_
    refine aB ?_
    refine aW (.tmp 51) rfl rfl rfl (fun h => ?_) (fun h => ?_)
    ·skip
     refine aI rfl ?_
     have h0 : sw = 0 := by omega
     refine aA rfl ?_
     refine aC (Γ := aL) [6, 7] (aD _ _) rfl rfl rfl (fun K hK => ?_)
     simp (disch := omega) only [Tryd.f56, go_sem, Nat.reduceAdd, ↓reduceIte]
     refine hK _ ?_
     refine aB ?_
     refine aS rfl ?_
     refine bN ?_
     exact ⟨by simp only [h0, if_true, gM, bV]; rfl, by simp (disch := omega) only [aV, bY, if_true, if_false], rfl, dZ _⟩
    ·skip
     refine aI rfl ?_
     refine aA rfl ?_
     refine aC (Γ := aL) [54, 11] (aD _ _) rfl rfl rfl (fun K hK => ?_)
     simp (disch := omega) only [Tryd.f56, go_sem, Nat.reduceAdd, ↓reduceIte]
     refine hK _ ?_
     refine aB ?_
     refine aW (.tmp 54) rfl rfl rfl (fun h => ?_) (fun h => ?_)
     ·skip
      refine aI rfl ?_
      have h0 : sw = 12 := by omega
      refine aA rfl ?_
      refine aC (Γ := aL) [6, 7] (aD _ _) rfl rfl rfl (fun K hK => ?_)
      simp (disch := omega) only [Tryd.f56, go_sem, Nat.reduceAdd, ↓reduceIte]
      refine hK _ ?_
      refine aB ?_
      refine aS rfl ?_
      refine bN ?_
      exact ⟨by simp only [h0, if_true, gM, bV]; rfl, by simp (disch := omega) only [aV, bY, if_true, if_false], rfl, dZ _⟩
     ·skip
      refine aI rfl ?_
      have h0 : sw ≠ 0 := by omega
      have h1 : sw ≠ 12 := by omega
      refine aA rfl ?_
      refine aC (Γ := aL) [6, 7] (aD _ _) rfl rfl rfl (fun K hK => ?_)
      simp (disch := omega) only [Tryd.f56, go_sem, Nat.reduceAdd, ↓reduceIte]
      refine hK _ ?_
      refine aB ?_
      refine aS rfl ?_
      refine bN ?_
      exact ⟨by simp only [h0, h1, if_false, gM, bV]; rfl, by simp (disch := omega) only [aV, bY, if_true, if_false], rfl, dZ _⟩
   ·skip
    refine aI rfl ?_
    have hL50 : ¬ 50 ≤ L := by omega
    obtain ⟨⟨p, sw⟩, h4⟩ : ∃ r, Sort.median ltN d (a + Q) (a + Q * 2) (a + Q * 3) 0 = r := ⟨_, rfl⟩
    obtain rfl : CP = (p, if sw = 0 then .increasing else if sw = 12 then .decreasing else .unknown) := by
     rw [← hCP]; unfold Sort.choosePivot
     simp only [hL, ← hQL, ge_iff_le, hL8, hL50, if_true, if_false, Nat.mul_one, h4]
    have g1 : a + Q < n := by omega
    have g2 : a + Q * 2 < n := by omega
    have g3 : a + Q * 3 < n := by omega
    refine aQ rfl ?_
    refine aB ?_
    refine aC (Γ := bC [(72, .heap medH)]) [9, 11] (aH oku108 aO) rfl rfl rfl (fun K hK => ?_)
    simp (disch := omega) only [Tryd.f56, go_sem, Nat.reduceAdd, Int.reduceLE, ↓reduceIte, hds, h4, hne, Int.toNat_natCast, Int.toNat_zero]
    refine hK _ ?_
    refine aB ?_
    refine aA rfl ?_
    refine aC (Γ := aL) [11, 49] (aD _ _) rfl rfl rfl (fun K hK => ?_)
    simp (disch := omega) only [Tryd.f56, go_sem, ↓reduceIte]
    refine hK _ ?_
    refine aB ?_
    refine aR 0 rfl rfl ?_
    refine aA rfl ?_
    refine aC (Γ := aL) [51, 11, 49] (aD _ _) rfl rfl rfl (fun K hK => ?_)
    simp (disch := omega) only [Tryd.f56, go_sem, Nat.reduceAdd, ↓reduceIte]
    refine hK _ ?_
    refine aB ?_
    refine aW (.tmp 51) rfl rfl rfl (fun h => ?_) (fun h => ?_)
    ·skip
     refine aI rfl ?_
     have h0 : sw = 0 := by omega
     refine aA rfl ?_
     refine aC (Γ := aL) [6, 7] (aD _ _) rfl rfl rfl (fun K hK => ?_)
     simp (disch := omega) only [Tryd.f56, go_sem, Nat.reduceAdd, ↓reduceIte]
     refine hK _ ?_
     refine aB ?_
     refine aS rfl ?_
     refine bN ?_
     exact ⟨by simp only [h0, if_true, gM, bV]; rfl, by simp (disch := omega) only [aV, bY, if_true, if_false], rfl, dZ _⟩
    ·skip
     refine aI rfl ?_
     refine aA rfl ?_
     refine aC (Γ := aL) [54, 11] (aD _ _) rfl rfl rfl (fun K hK => ?_)
     simp (disch := omega) only [Tryd.f56, go_sem, Nat.reduceAdd, ↓reduceIte]
     refine hK _ ?_
     refine aB ?_
     refine aW (.tmp 54) rfl rfl rfl (fun h => ?_) (fun h => ?_)
     ·skip
      refine aI rfl ?_
      have h0 : sw = 12 := by omega
      refine aA rfl ?_
      refine aC (Γ := aL) [6, 7] (aD _ _) rfl rfl rfl (fun K hK => ?_)
      simp (disch := omega) only [Tryd.f56, go_sem, Nat.reduceAdd, ↓reduceIte]
      refine hK _ ?_
      refine aB ?_
      refine aS rfl ?_
      refine bN ?_
      exact ⟨by simp only [h0, if_true, gM, bV]; rfl, by simp (disch := omega) only [aV, bY, if_true, if_false], rfl, dZ _⟩
     ·skip
      refine aI rfl ?_
      have h0 : sw ≠ 0 := by omega
      have h1 : sw ≠ 12 := by omega
      refine aA rfl ?_
      refine aC (Γ := aL) [6, 7] (aD _ _) rfl rfl rfl (fun K hK => ?_)
      simp (disch := omega) only [Tryd.f56, go_sem, Nat.reduceAdd, ↓reduceIte]
      refine hK _ ?_
      refine aB ?_
      refine aS rfl ?_
      refine bN ?_
      exact ⟨by simp only [h0, h1, if_false, gM, bV]; rfl, by simp (disch := omega) only [aV, bY, if_true, if_false], rfl, dZ _⟩
  ·skip
   refine aI rfl ?_
   have hL8 : ¬ 8 ≤ L := by omega
   obtain rfl : CP = (a + Q * 2, .increasing) := by
    rw [← hCP]; unfold Sort.choosePivot
    simp only [hL, ← hQL, ge_iff_le, hL8, if_true, if_false]
   refine aQ rfl ?_
   refine aB ?_
   refine aA rfl ?_
   refine aC (Γ := aL) [11, 49] (aD _ _) rfl rfl rfl (fun K hK => ?_)
   simp (disch := omega) only [Tryd.f56, go_sem, ↓reduceIte]
   refine hK _ ?_
   refine aB ?_
   refine aR 0 rfl rfl ?_
   refine aA rfl ?_
   refine aC (Γ := aL) [51, 11, 49] (aD _ _) rfl rfl rfl (fun K hK => ?_)
   simp (disch := omega) only [Tryd.f56, go_sem, Nat.reduceAdd, ↓reduceIte]
   refine hK _ ?_
   refine aB ?_
   refine eC (.tmp 51) rfl rfl rfl (fun h => ?_) (fun h => ?_)
   ·skip
    refine aI rfl ?_
    refine aA rfl ?_
    refine aC (Γ := aL) [6, 7] (aD _ _) rfl rfl rfl (fun K hK => ?_)
    simp (disch := omega) only [Tryd.f56, go_sem, Nat.reduceAdd, ↓reduceIte]
    refine hK _ ?_
    refine aB ?_
    refine aS rfl ?_
    refine bN ?_
    exact ⟨rfl, by simp (disch := omega) only [aV, bY, if_true, if_false], rfl, dZ _⟩
   ·skip
    refine aI rfl ?_
    cases h
 ·cases hg
theorem oku96 : bX Tryd.prog GLh 56 (.heap (dP chG)) := ⟨⟨_, Tryd.func56, rfl, rfl⟩, ch_ok⟩
end Go.AX
namespace Go.AX
open Go Go.Proofs
structure SDJ where
 k : Nat
 j : Nat
 d : Array T32
 c : Nat
def revG : List AV → List AV → Option (AV × List AV)
 | [.os _ 0 n 1 _, .i a, .i b], xs => aK (unA xs) fun l => aN (l.length = n ∧ 0 ≤ a ∧ a < b ∧ b ≤ n ∧ n ≤ 1000000) (some (.tup [], cA (Sort.reverseRange l.toArray a.toNat b.toNat)))
 | _, _ => none
theorem revG_eq (id n : Nat) (gg : Bool) (a b : Int) (xs : List AV) : revG [.os id 0 n 1 gg, .i a, .i b] xs = aK (unA xs) fun l => aN (l.length = n ∧ 0 ≤ a ∧ a < b ∧ b ≤ n ∧ n ≤ 1000000) (some (.tup [], cA (Sort.reverseRange l.toArray a.toNat b.toNat))) := (rfl)
attribute [go_sem] revG_eq
set_option maxHeartbeats 2000000 in
theorem rev_ok : cQ Tryd.prog GLh 57 (dP revG) := by
 refine dN Tryd.func57 (aT rfl) ?_
 intro id off n e gg rest nx xs r ys hg
 unfold revG at hg
 split at hg
 ·rename_i id2 n2 gg2 a0 b0 heq
  simp only [List.cons.injEq, AV.os.injEq] at heq
  obtain ⟨⟨rfl, rfl, rfl, rfl, rfl⟩, rfl⟩ := heq
  replace hg := aJ hg; obtain ⟨l, hl, hg⟩ := hg
  replace hg := aP hg; obtain ⟨⟨hn, ha, hab, hbn, hbig⟩, hg⟩ := hg
  simp only [Option.some.injEq, Prod.mk.injEq] at hg; obtain ⟨rfl, rfl⟩ := hg
  have := dO hl; subst this
  obtain ⟨a, rfl⟩ := Int.eq_ofNat_of_zero_le ha
  obtain ⟨b, rfl⟩ := Int.eq_ofNat_of_zero_le (show 0 ≤ b0 by omega)
  simp only [Int.toNat_natCast] at *
  obtain ⟨d, hd⟩ : ∃ d, l.toArray = d := ⟨_, rfl⟩
  have hds : d.size = n := by rw [← hd]; simpa using hn
  have hab2 : a < b := by omega
  have hbn2 : b ≤ n := by omega
  rw [hd]
  refine ⟨Nat.le_of_ble_eq_true rfl, fun hid => ?_⟩
  clear hl hn ha hab hbn
  obtain ⟨R, hR⟩ : ∃ R, Sort.reverseRange d a b = R := ⟨_, rfl⟩
  have hR0 : Sort.reverseLoop a (b - 1) d = R := hR
  rw [hR]
  clear hR
  have eb : (b : Int) - 1 = ((b - 1 : Nat) : Int) := by omega
  refine aA rfl ?_
  refine aC (Γ := aL) [0, 2, 6] (aD _ _) rfl rfl rfl (fun K hK => ?_)
  simp (disch := omega) only [Tryd.f57, go_sem, Nat.reduceAdd, ↓reduceIte]
  refine hK _ ?_
  refine aB ?_
  refine aA rfl ?_
  refine aC (Γ := aL) [0, 6, 7] (aD _ _) rfl rfl rfl (fun K hK => ?_)
  simp (disch := omega) only [Tryd.f57, go_sem, Nat.reduceAdd, ↓reduceIte, eb]
  refine hK _ ?_
  refine aB ?_
  refine aR 0 rfl rfl ?_
  refine bR (fun p : SDJ => { fr := [(0, .os id 0 n 1 gg), (6, .i p.k), (7, .i p.j)], hp := upd (fun _ => none) id (.cells (cA p.d) true), nx := 0, cx := p.c }) (fun p => Sort.reverseLoop p.k p.j p.d = R ∧ p.d.size = n ∧ p.j < n ∧ id < p.c) (fun p => p.j - p.k) rfl ⟨⟨a, b - 1, d, _⟩, ⟨hR0, hds, by simp only; omega, by simp only; omega⟩, bD rfl rfl (Nat.le_refl _)⟩ ?_
  rintro ⟨k, j, d1, c⟩ ⟨hr1, hs1, hj, hc⟩ n0
  simp only at hr1 hs1 hj hc ⊢
  refine aA rfl ?_
  refine aA rfl ?_
  refine aC (Γ := aL) [13, 0, 6, 7] (aD _ _) rfl rfl rfl (fun K hK => ?_)
  simp (disch := omega) only [Tryd.f57, go_sem, Nat.reduceAdd, ↓reduceIte]
  refine hK _ ?_
  refine aB ?_
  refine aW (.tmp 13) rfl rfl rfl (fun h => ?_) (fun h => ?_)
  ·skip
   refine aI rfl ?_
   have hkj : k < j := by omega
   rw [Sort.reverseLoop, if_pos hkj] at hr1
   have hkn : k < n := by omega
   have hsw : (d1.setIfInBounds k d1[j]!).setIfInBounds j d1[k]! = Sort.swp d1 k j := rfl
   have ej : (j : Int) - 1 = ((j - 1 : Nat) : Int) := by omega
   refine aQ rfl ?_
   refine aB ?_
   refine aR 1 rfl rfl ?_
   refine aA rfl ?_
   refine bB (Γ := aL) (fun _ => 2) [0, 6, 7] bZ (aD _ _) rfl rfl rfl (by kernel_rfl) (fun K hK => ?_)
   simp (disch := omega) only [Tryd.f57, go_sem, Nat.reduceAdd, ↓reduceIte, hsw, Int.toNat_natCast]
   refine hK _ ?_
   refine aB ?_
   refine aA rfl ?_
   refine aC (Γ := aL) [0, 6, 7] (aD _ _) rfl rfl rfl (fun K hK => ?_)
   simp (disch := omega) only [Tryd.f57, go_sem, Nat.reduceAdd, ↓reduceIte]
   refine hK _ ?_
   refine aB ?_
   refine aC (Γ := aL) [0, 6, 7] (aD _ _) rfl rfl rfl (fun K hK => ?_)
   simp (disch := omega) only [Tryd.f57, go_sem, Nat.reduceAdd, ↓reduceIte, ej]
   refine hK _ ?_
   refine bU (bT ?_)
   refine ⟨⟨k + 1, j - 1, Sort.swp d1 k j, _⟩, ⟨hr1, by simp only [cW]; exact hs1, by simp only; omega, by simp only; omega⟩, by simp only; omega, ⟨fun _ => .inr (by simp only [Int.natCast_add, Int.natCast_one]), bS (by simp (disch := omega) only [aV, ↓reduceIte, eq_self]) cB, Nat.le_refl _⟩⟩
  ·skip
   refine aI rfl ?_
   refine bF 0 rfl rfl ?_
   refine aY (aZ (bE ?_))
   have hkj : ¬ k < j := by omega
   rw [Sort.reverseLoop, if_neg hkj] at hr1
   subst hr1
   exact ⟨rfl, by simp only [aV, if_true], rfl, dZ _⟩
 ·cases hg
theorem oku97 : bX Tryd.prog GLh 57 (.heap (dP revG)) := ⟨⟨_, Tryd.func57, rfl, rfl⟩, rev_ok⟩
def one64 : List AV → Option (BitVec 64)
 | [.w64 s] => some s
 | _ => none
theorem one64_eq (s : BitVec 64) : one64 [.w64 s] = some s := (rfl)
theorem one64_inv {xs : List AV} {s : BitVec 64} (h : one64 xs = some s) : xs = [.w64 s] := by
 unfold one64 at h
 split at h
 ·obtain rfl := Option.some.inj h; rfl
 ·cases h
def xs64 (x : BitVec 64) : BitVec 64 := (Sort.xorNext (.ofBitVec x)).toBitVec
def nxtH : List AV → H → Nat → Option (AV × H × Nat)
 | [.op q 0], hp, nx => aK (hp q) fun o2 => aK (rowO o2) fun ys => aK (one64 ys) fun s => some (.w64 (xs64 s), upd hp q (.cells [.w64 (xs64 s)] true), nx + 60)
 | _, _, _ => none
theorem nxtH_eq (q : Nat) (hp : H) (nx : Nat) : nxtH [.op q 0] hp nx = aK (hp q) fun o2 => aK (rowO o2) fun ys => aK (one64 ys) fun s => some (.w64 (xs64 s), upd hp q (.cells [.w64 (xs64 s)] true), nx + 60) := (rfl)
attribute [go_sem] nxtH_eq one64_eq
set_option maxHeartbeats 1000000 in
theorem nxt_ok : cQ Tryd.prog GLh 70 nxtH := by
 refine gF Tryd.func70 (aT rfl) ?_
 intro args hp nx r hp' nx' hg
 unfold nxtH at hg
 split at hg
 ·rename_i hp0 nx0 q
  replace hg := aJ hg; obtain ⟨o2, ho2, hg⟩ := hg
  replace hg := aJ hg; obtain ⟨ys, hys, hg⟩ := hg
  obtain rfl := rowO_inv hys
  replace hg := aJ hg; obtain ⟨s0, hs0, hg⟩ := hg
  obtain rfl := one64_inv hs0
  simp only [Option.some.injEq, Prod.mk.injEq] at hg; obtain ⟨rfl, rfl, rfl⟩ := hg
  refine ⟨Nat.le_of_ble_eq_true rfl, by omega, fun hnone => ?_⟩
  have hqn : q < nx := by
   apply Classical.byContradiction; intro hc; rw [hnone q (by omega)] at ho2; cases ho2
  refine aA rfl ?_
  refine aC (Γ := aL) [0] (aD _ _) rfl rfl rfl (fun K hK => ?_)
  simp (disch := omega) only [Tryd.f70, go_sem, Int.reduceLE, Int.reduceLT, BitVec.reduceOfInt, ↓reduceIte]
  refine hK _ ?_
  refine aB ?_
  refine aA rfl ?_
  refine bB (Γ := aL) (fun _ => 2) [0] bZ (aD _ _) rfl rfl rfl (by kernel_rfl) (fun K hK => ?_)
  simp (disch := omega) only [Tryd.f70, go_sem, Nat.reduceAdd, Nat.reduceLeDiff, Int.reduceLE, Int.reduceLT, BitVec.reduceOfInt, BitVec.reduceToNat, ↓reduceIte, ho2]
  refine hK _ ?_
  refine aB ?_
  refine aA rfl ?_
  refine bB (Γ := aL) (fun _ => 2) [0] bZ (aD _ _) rfl rfl rfl (by kernel_rfl) (fun K hK => ?_)
  simp (disch := omega) only [Tryd.f70, go_sem, Nat.reduceAdd, Nat.reduceLeDiff, Int.reduceLE, Int.reduceLT, BitVec.reduceOfInt, BitVec.reduceToNat, ↓reduceIte]
  refine hK _ ?_
  refine aB ?_
  refine aA rfl ?_
  refine bB (Γ := aL) (fun _ => 2) [0] bZ (aD _ _) rfl rfl rfl (by kernel_rfl) (fun K hK => ?_)
  simp (disch := omega) only [Tryd.f70, go_sem, Nat.reduceAdd, Nat.reduceLeDiff, Int.reduceLE, Int.reduceLT, BitVec.reduceOfInt, BitVec.reduceToNat, ↓reduceIte]
  refine hK _ ?_
  refine aB ?_
  refine aA rfl ?_
  refine aC (Γ := aL) [2] (aD _ _) rfl rfl rfl (fun K hK => ?_)
  simp (disch := omega) only [Tryd.f70, go_sem, Nat.reduceAdd, ↓reduceIte]
  refine hK _ ?_
  refine aB ?_
  refine aS rfl ?_
  refine ⟨rfl, hsub_up (by simp only [aV, if_true]; rfl) (fun j hj => by simp only [aV, if_neg hj]), by simp only; omega⟩
 ·cases hg
theorem oku106 : bX Tryd.prog GLh 70 (.heap nxtH) := ⟨⟨_, Tryd.func70, rfl, rfl⟩, nxt_ok⟩
def L8 : List B8 := [0#8, 1#8, 2#8, 2#8, 3#8, 3#8, 3#8, 3#8, 4#8, 4#8, 4#8, 4#8, 4#8, 4#8, 4#8, 4#8, 5#8, 5#8, 5#8, 5#8, 5#8, 5#8, 5#8, 5#8, 5#8, 5#8, 5#8, 5#8, 5#8, 5#8, 5#8, 5#8, 6#8, 6#8, 6#8, 6#8, 6#8, 6#8, 6#8, 6#8, 6#8, 6#8, 6#8, 6#8, 6#8, 6#8, 6#8, 6#8, 6#8, 6#8, 6#8, 6#8, 6#8, 6#8, 6#8, 6#8, 6#8, 6#8, 6#8, 6#8, 6#8, 6#8, 6#8, 6#8, 7#8, 7#8, 7#8, 7#8, 7#8, 7#8, 7#8, 7#8, 7#8, 7#8, 7#8, 7#8, 7#8, 7#8, 7#8, 7#8, 7#8, 7#8, 7#8, 7#8, 7#8, 7#8, 7#8, 7#8, 7#8, 7#8, 7#8, 7#8, 7#8, 7#8, 7#8, 7#8, 7#8, 7#8, 7#8, 7#8, 7#8, 7#8, 7#8, 7#8, 7#8, 7#8, 7#8, 7#8, 7#8, 7#8, 7#8, 7#8, 7#8, 7#8, 7#8, 7#8, 7#8, 7#8, 7#8, 7#8, 7#8, 7#8, 7#8, 7#8, 7#8, 7#8, 7#8, 7#8, 8#8, 8#8, 8#8, 8#8, 8#8, 8#8, 8#8, 8#8, 8#8, 8#8, 8#8, 8#8, 8#8, 8#8, 8#8, 8#8, 8#8, 8#8, 8#8, 8#8, 8#8, 8#8, 8#8, 8#8, 8#8, 8#8, 8#8, 8#8, 8#8, 8#8, 8#8, 8#8, 8#8, 8#8, 8#8, 8#8, 8#8, 8#8, 8#8, 8#8, 8#8, 8#8, 8#8, 8#8, 8#8, 8#8, 8#8, 8#8, 8#8, 8#8, 8#8, 8#8, 8#8, 8#8, 8#8, 8#8, 8#8, 8#8, 8#8, 8#8, 8#8, 8#8, 8#8, 8#8, 8#8, 8#8, 8#8, 8#8, 8#8, 8#8, 8#8, 8#8, 8#8, 8#8, 8#8, 8#8, 8#8, 8#8, 8#8, 8#8, 8#8, 8#8, 8#8, 8#8, 8#8, 8#8, 8#8, 8#8, 8#8, 8#8, 8#8, 8#8, 8#8, 8#8, 8#8, 8#8, 8#8, 8#8, 8#8, 8#8, 8#8, 8#8, 8#8, 8#8, 8#8, 8#8, 8#8, 8#8, 8#8, 8#8, 8#8, 8#8, 8#8, 8#8, 8#8, 8#8, 8#8, 8#8, 8#8, 8#8, 8#8, 8#8, 8#8, 8#8, 8#8, 8#8, 8#8, 8#8]
set_option maxRecDepth 10000 in
theorem L8_s : ofV (Value.string ⟨((([0, 1, 2, 2, 3, 3, 3, 3, 4, 4, 4, 4, 4, 4, 4, 4, 5, 5, 5, 5, 5, 5, 5, 5, 5, 5, 5, 5, 5, 5, 5, 5, 6, 6, 6, 6, 6, 6, 6, 6, 6, 6, 6, 6, 6, 6, 6, 6, 6, 6, 6, 6, 6, 6, 6, 6, 6, 6, 6, 6, 6, 6, 6, 6] : List UInt8).append [7, 7, 7, 7, 7, 7, 7, 7, 7, 7, 7, 7, 7, 7, 7, 7, 7, 7, 7, 7, 7, 7, 7, 7, 7, 7, 7, 7, 7, 7, 7, 7, 7, 7, 7, 7, 7, 7, 7, 7, 7, 7, 7, 7, 7, 7, 7, 7, 7, 7, 7, 7, 7, 7, 7, 7, 7, 7, 7, 7, 7, 7, 7, 7]).append (([8, 8, 8, 8, 8, 8, 8, 8, 8, 8, 8, 8, 8, 8, 8, 8, 8, 8, 8, 8, 8, 8, 8, 8, 8, 8, 8, 8, 8, 8, 8, 8, 8, 8, 8, 8, 8, 8, 8, 8, 8, 8, 8, 8, 8, 8, 8, 8, 8, 8, 8, 8, 8, 8, 8, 8, 8, 8, 8, 8, 8, 8, 8, 8] : List UInt8).append [8, 8, 8, 8, 8, 8, 8, 8, 8, 8, 8, 8, 8, 8, 8, 8, 8, 8, 8, 8, 8, 8, 8, 8, 8, 8, 8, 8, 8, 8, 8, 8, 8, 8, 8, 8, 8, 8, 8, 8, 8, 8, 8, 8, 8, 8, 8, 8, 8, 8, 8, 8, 8, 8, 8, 8, 8, 8, 8, 8, 8, 8, 8, 8])).toArray⟩) = .s L8 := by rfl
theorem L8_all : ∀ k, k < 256 → L8[k]? = some (BitVec.ofNat 8 (Sort.bitsLen k)) := by decide +kernel
theorem L8_at (x : BitVec 64) (h : x.toNat < 256) : L8[(x.setWidth 8).toNat]? = some (BitVec.ofNat 8 (Sort.bitsLen x.toNat)) := by
 rw [BitVec.toNat_setWidth, Nat.mod_eq_of_lt (by omega)]; exact L8_all _ h
theorem bits8 {n : Nat} (h : n < 256) : Sort.bitsLen n ≤ 8 := (Sort.bitsLen_le_iff n 8).2 h
theorem bits8n {n : Nat} (h : n < 256) : (BitVec.ofNat 8 (Sort.bitsLen n)).toNat = Sort.bitsLen n := by have := bits8 h; rw [BitVec.toNat_ofNat]; exact Nat.mod_eq_of_lt (by omega)
theorem gB (n k : Nat) (h : 2 ^ k ≤ n) : Sort.bitsLen n = k + Sort.bitsLen (n >>> k) := by
 have e1 : ∀ j, Sort.bitsLen n ≤ k + j ↔ Sort.bitsLen (n >>> k) ≤ j := fun j => by
  rw [Sort.bitsLen_le_iff, Sort.bitsLen_le_iff, Nat.shiftRight_eq_div_pow, Nat.div_lt_iff_lt_mul (Nat.two_pow_pos k), Nat.pow_add, Nat.mul_comm]
 have h1 : k < Sort.bitsLen n := Nat.lt_of_not_le fun hc => absurd ((Sort.bitsLen_le_iff n k).1 hc) (by omega)
 have h2 := (e1 (Sort.bitsLen n - k)).1 (by omega)
 have h3 := (e1 (Sort.bitsLen (n >>> k))).2 (Nat.le_refl _)
 omega
def blenG : List AV → Option AV
 | [.w64 x] => some (.i (Sort.bitsLen x.toNat))
 | _ => none
theorem blenG_eq (x : BitVec 64) : blenG [.w64 x] = some (.i (Sort.bitsLen x.toNat)) := (rfl)
attribute [go_sem] blenG_eq
set_option maxHeartbeats 1000000 in
theorem len_ok : cL Tryd.prog GLh 63 blenG := by
 refine cC Tryd.func63 (aT rfl) ?_
 intro args r hg
 unfold blenG at hg
 split at hg
 ·rename_i x
  obtain rfl := Option.some.inj hg
  refine ⟨Nat.le_of_ble_eq_true rfl, fun nx => ?_⟩
  clear hg
  refine aA rfl ?_
  refine aC (Γ := aL) [0, 2] (aD _ _) rfl rfl rfl (fun K hK => ?_)
  simp (disch := omega) only [Tryd.f63, go_sem, ↓reduceIte]
  refine hK _ ?_
  refine aB ?_
  refine aA rfl ?_
  refine aA rfl ?_
  refine aC (Γ := aL) [4, 0, 2] (aD _ _) rfl rfl rfl (fun K hK => ?_)
  simp (disch := omega) only [Tryd.f63, go_sem, Nat.reduceAdd, Int.reduceLE, Int.reduceLT, BitVec.reduceOfInt, ↓reduceIte]
  refine hK _ ?_
  refine aB ?_
  refine aW (.tmp 4) rfl rfl rfl (fun h => ?_) (fun h => ?_)
  ·skip
   refine aI rfl ?_
   have hk0 := gB (x).toNat 32 (by have := BitVec.le_def.1 h; exact this)
   rw [← BitVec.toNat_ushiftRight] at hk0
   refine aA rfl ?_
   refine aC (Γ := aL) [0] (aD _ _) rfl rfl rfl (fun K hK => ?_)
   simp (disch := omega) only [Tryd.f63, go_sem, Nat.reduceAdd, Int.reduceLE, Int.reduceLT, BitVec.reduceOfInt, BitVec.reduceToNat, ↓reduceIte]
   refine hK _ ?_
   refine aB ?_
   refine aC (Γ := aL) [0, 2] (aD _ _) rfl rfl rfl (fun K hK => ?_)
   simp (disch := omega) only [Tryd.f63, go_sem, ↓reduceIte]
   refine hK _ ?_
   refine aB ?_
   refine aA rfl ?_
   refine aA rfl ?_
   refine aC (Γ := aL) [8, 0, 2] (aD _ _) rfl rfl rfl (fun K hK => ?_)
   simp (disch := omega) only [Tryd.f63, go_sem, Nat.reduceAdd, Int.reduceLE, Int.reduceLT, BitVec.reduceOfInt, ↓reduceIte]
   refine hK _ ?_
   refine aB ?_
   refine aW (.tmp 8) rfl rfl rfl (fun h => ?_) (fun h => ?_)
   ·skip
    refine aI rfl ?_
    have hk1 := gB (x >>> 32).toNat 16 (by have := BitVec.le_def.1 h; exact this)
    rw [← BitVec.toNat_ushiftRight] at hk1
    refine aA rfl ?_
    refine aC (Γ := aL) [0, 2] (aD _ _) rfl rfl rfl (fun K hK => ?_)
    simp (disch := omega) only [Tryd.f63, go_sem, Nat.reduceAdd, Int.reduceLE, Int.reduceLT, BitVec.reduceOfInt, BitVec.reduceToNat, ↓reduceIte]
    refine hK _ ?_
    refine aB ?_
    refine aC (Γ := aL) [0, 2] (aD _ _) rfl rfl rfl (fun K hK => ?_)
    simp (disch := omega) only [Tryd.f63, go_sem, Nat.reduceAdd, Int.reduceAdd, ↓reduceIte]
    refine hK _ ?_
    refine aB ?_
    refine aA rfl ?_
    refine aA rfl ?_
    refine aC (Γ := aL) [14, 0, 2] (aD _ _) rfl rfl rfl (fun K hK => ?_)
    simp (disch := omega) only [Tryd.f63, go_sem, Nat.reduceAdd, Int.reduceLE, Int.reduceLT, BitVec.reduceOfInt, ↓reduceIte]
    refine hK _ ?_
    refine aB ?_
    refine aW (.tmp 14) rfl rfl rfl (fun h => ?_) (fun h => ?_)
    ·skip
     refine aI rfl ?_
     have hk2 := gB (x >>> 32 >>> 16).toNat 8 (by have := BitVec.le_def.1 h; exact this)
     rw [← BitVec.toNat_ushiftRight] at hk2
     refine aA rfl ?_
     refine aC (Γ := aL) [0, 2] (aD _ _) rfl rfl rfl (fun K hK => ?_)
     simp (disch := omega) only [Tryd.f63, go_sem, Nat.reduceAdd, Int.reduceLE, Int.reduceLT, BitVec.reduceOfInt, BitVec.reduceToNat, ↓reduceIte]
     refine hK _ ?_
     refine aB ?_
     refine aC (Γ := aL) [0, 2] (aD _ _) rfl rfl rfl (fun K hK => ?_)
     simp (disch := omega) only [Tryd.f63, go_sem, Nat.reduceAdd, Int.reduceAdd, ↓reduceIte]
     refine hK _ ?_
     refine aB ?_
     have hx256 : (x >>> 32 >>> 16 >>> 8).toNat < 256 := by bv_omega
     have e1 := L8_at (x >>> 32 >>> 16 >>> 8) hx256
     refine aA rfl ?_
     refine aC (Γ := aL) [2] (aD _ _) rfl rfl rfl (fun K hK => ?_)
     simp (disch := omega) only [Tryd.f63, go_sem, Nat.reduceAdd, ↓reduceIte, L8_s, e1]
     refine hK _ ?_
     refine aB ?_
     refine aS rfl ?_
     simp (disch := omega) only [cN, bV, bK, bQ, Tryd.f63, go_sem, ↓reduceIte]
     have e2 := bits8n hx256
     refine congrArg some (congrArg AV.i ?_)
     omega
    ·skip
     refine aI rfl ?_
     refine aQ rfl ?_
     refine aB ?_
     refine aA rfl ?_
     have hx256 : (x >>> 32 >>> 16).toNat < 256 := by bv_omega
     have e1 := L8_at (x >>> 32 >>> 16) hx256
     refine aC (Γ := aL) [2] (aD _ _) rfl rfl rfl (fun K hK => ?_)
     simp (disch := omega) only [Tryd.f63, go_sem, Nat.reduceAdd, ↓reduceIte, L8_s, e1]
     refine hK _ ?_
     refine aB ?_
     refine aS rfl ?_
     simp (disch := omega) only [cN, bV, bK, bQ, Tryd.f63, go_sem, ↓reduceIte]
     have e2 := bits8n hx256
     refine congrArg some (congrArg AV.i ?_)
     omega
   ·skip
    refine aI rfl ?_
    refine aQ rfl ?_
    refine aB ?_
    refine aA rfl ?_
    refine aA rfl ?_
    refine aC (Γ := aL) [14, 0, 2] (aD _ _) rfl rfl rfl (fun K hK => ?_)
    simp (disch := omega) only [Tryd.f63, go_sem, Nat.reduceAdd, Int.reduceLE, Int.reduceLT, BitVec.reduceOfInt, ↓reduceIte]
    refine hK _ ?_
    refine aB ?_
    refine aW (.tmp 14) rfl rfl rfl (fun h => ?_) (fun h => ?_)
    ·skip
     refine aI rfl ?_
     have hk2 := gB (x >>> 32).toNat 8 (by have := BitVec.le_def.1 h; exact this)
     rw [← BitVec.toNat_ushiftRight] at hk2
     refine aA rfl ?_
     refine aC (Γ := aL) [0, 2] (aD _ _) rfl rfl rfl (fun K hK => ?_)
     simp (disch := omega) only [Tryd.f63, go_sem, Nat.reduceAdd, Int.reduceLE, Int.reduceLT, BitVec.reduceOfInt, BitVec.reduceToNat, ↓reduceIte]
     refine hK _ ?_
     refine aB ?_
     refine aC (Γ := aL) [0, 2] (aD _ _) rfl rfl rfl (fun K hK => ?_)
     simp (disch := omega) only [Tryd.f63, go_sem, Nat.reduceAdd, Int.reduceAdd, ↓reduceIte]
     refine hK _ ?_
     refine aB ?_
     have hx256 : (x >>> 32 >>> 8).toNat < 256 := by bv_omega
     have e1 := L8_at (x >>> 32 >>> 8) hx256
     refine aA rfl ?_
     refine aC (Γ := aL) [2] (aD _ _) rfl rfl rfl (fun K hK => ?_)
     simp (disch := omega) only [Tryd.f63, go_sem, Nat.reduceAdd, ↓reduceIte, L8_s, e1]
     refine hK _ ?_
     refine aB ?_
     refine aS rfl ?_
     simp (disch := omega) only [cN, bV, bK, bQ, Tryd.f63, go_sem, ↓reduceIte]
     have e2 := bits8n hx256
     refine congrArg some (congrArg AV.i ?_)
     omega
    ·skip
     refine aI rfl ?_
     refine aQ rfl ?_
     refine aB ?_
     refine aA rfl ?_
     have hx256 : (x >>> 32).toNat < 256 := by bv_omega
     have e1 := L8_at (x >>> 32) hx256
     refine aC (Γ := aL) [2] (aD _ _) rfl rfl rfl (fun K hK => ?_)
     simp (disch := omega) only [Tryd.f63, go_sem, Nat.reduceAdd, ↓reduceIte, L8_s, e1]
     refine hK _ ?_
     refine aB ?_
     refine aS rfl ?_
     simp (disch := omega) only [cN, bV, bK, bQ, Tryd.f63, go_sem, ↓reduceIte]
     have e2 := bits8n hx256
     refine congrArg some (congrArg AV.i ?_)
     omega
  ·skip
   refine aI rfl ?_
   refine aQ rfl ?_
   refine aB ?_
   refine aA rfl ?_
   refine aA rfl ?_
   refine aC (Γ := aL) [8, 0, 2] (aD _ _) rfl rfl rfl (fun K hK => ?_)
   simp (disch := omega) only [Tryd.f63, go_sem, Nat.reduceAdd, Int.reduceLE, Int.reduceLT, BitVec.reduceOfInt, ↓reduceIte]
   refine hK _ ?_
   refine aB ?_
   refine aW (.tmp 8) rfl rfl rfl (fun h => ?_) (fun h => ?_)
   ·skip
    refine aI rfl ?_
    have hk1 := gB (x).toNat 16 (by have := BitVec.le_def.1 h; exact this)
    rw [← BitVec.toNat_ushiftRight] at hk1
    refine aA rfl ?_
    refine aC (Γ := aL) [0, 2] (aD _ _) rfl rfl rfl (fun K hK => ?_)
    simp (disch := omega) only [Tryd.f63, go_sem, Nat.reduceAdd, Int.reduceLE, Int.reduceLT, BitVec.reduceOfInt, BitVec.reduceToNat, ↓reduceIte]
    refine hK _ ?_
    refine aB ?_
    refine aC (Γ := aL) [0, 2] (aD _ _) rfl rfl rfl (fun K hK => ?_)
    simp (disch := omega) only [Tryd.f63, go_sem, Nat.reduceAdd, Int.reduceAdd, ↓reduceIte]
    refine hK _ ?_
    refine aB ?_
    refine aA rfl ?_
    refine aA rfl ?_
    refine aC (Γ := aL) [14, 0, 2] (aD _ _) rfl rfl rfl (fun K hK => ?_)
    simp (disch := omega) only [Tryd.f63, go_sem, Nat.reduceAdd, Int.reduceLE, Int.reduceLT, BitVec.reduceOfInt, ↓reduceIte]
    refine hK _ ?_
    refine aB ?_
    refine aW (.tmp 14) rfl rfl rfl (fun h => ?_) (fun h => ?_)
    ·skip
     refine aI rfl ?_
     have hk2 := gB (x >>> 16).toNat 8 (by have := BitVec.le_def.1 h; exact this)
     rw [← BitVec.toNat_ushiftRight] at hk2
     refine aA rfl ?_
     refine aC (Γ := aL) [0, 2] (aD _ _) rfl rfl rfl (fun K hK => ?_)
     simp (disch := omega) only [Tryd.f63, go_sem, Nat.reduceAdd, Int.reduceLE, Int.reduceLT, BitVec.reduceOfInt, BitVec.reduceToNat, ↓reduceIte]
     refine hK _ ?_
     refine aB ?_
     refine aC (Γ := aL) [0, 2] (aD _ _) rfl rfl rfl (fun K hK => ?_)
     simp (disch := omega) only [Tryd.f63, go_sem, Nat.reduceAdd, Int.reduceAdd, ↓reduceIte]
     refine hK _ ?_
     refine aB ?_
     have hx256 : (x >>> 16 >>> 8).toNat < 256 := by bv_omega
     have e1 := L8_at (x >>> 16 >>> 8) hx256
     refine aA rfl ?_
     refine aC (Γ := aL) [2] (aD _ _) rfl rfl rfl (fun K hK => ?_)
     simp (disch := omega) only [Tryd.f63, go_sem, Nat.reduceAdd, ↓reduceIte, L8_s, e1]
     refine hK _ ?_
     refine aB ?_
     refine aS rfl ?_
     simp (disch := omega) only [cN, bV, bK, bQ, Tryd.f63, go_sem, ↓reduceIte]
     have e2 := bits8n hx256
     refine congrArg some (congrArg AV.i ?_)
     omega
    ·skip
     refine aI rfl ?_
     refine aQ rfl ?_
     refine aB ?_
     refine aA rfl ?_
     have hx256 : (x >>> 16).toNat < 256 := by bv_omega
     have e1 := L8_at (x >>> 16) hx256
     refine aC (Γ := aL) [2] (aD _ _) rfl rfl rfl (fun K hK => ?_)
     simp (disch := omega) only [Tryd.f63, go_sem, Nat.reduceAdd, ↓reduceIte, L8_s, e1]
     refine hK _ ?_
     refine aB ?_
     refine aS rfl ?_
     simp (disch := omega) only [cN, bV, bK, bQ, Tryd.f63, go_sem, ↓reduceIte]
     have e2 := bits8n hx256
     refine congrArg some (congrArg AV.i ?_)
     omega
   ·skip
    refine aI rfl ?_
    refine aQ rfl ?_
    refine aB ?_
    refine aA rfl ?_
    refine aA rfl ?_
    refine aC (Γ := aL) [14, 0, 2] (aD _ _) rfl rfl rfl (fun K hK => ?_)
    simp (disch := omega) only [Tryd.f63, go_sem, Nat.reduceAdd, Int.reduceLE, Int.reduceLT, BitVec.reduceOfInt, ↓reduceIte]
    refine hK _ ?_
    refine aB ?_
    refine aW (.tmp 14) rfl rfl rfl (fun h => ?_) (fun h => ?_)
    ·skip
     refine aI rfl ?_
     have hk2 := gB (x).toNat 8 (by have := BitVec.le_def.1 h; exact this)
     rw [← BitVec.toNat_ushiftRight] at hk2
     refine aA rfl ?_
     refine aC (Γ := aL) [0, 2] (aD _ _) rfl rfl rfl (fun K hK => ?_)
     simp (disch := omega) only [Tryd.f63, go_sem, Nat.reduceAdd, Int.reduceLE, Int.reduceLT, BitVec.reduceOfInt, BitVec.reduceToNat, ↓reduceIte]
     refine hK _ ?_
     refine aB ?_
     refine aC (Γ := aL) [0, 2] (aD _ _) rfl rfl rfl (fun K hK => ?_)
     simp (disch := omega) only [Tryd.f63, go_sem, Nat.reduceAdd, Int.reduceAdd, ↓reduceIte]
     refine hK _ ?_
     refine aB ?_
     have hx256 : (x >>> 8).toNat < 256 := by bv_omega
     have e1 := L8_at (x >>> 8) hx256
     refine aA rfl ?_
     refine aC (Γ := aL) [2] (aD _ _) rfl rfl rfl (fun K hK => ?_)
     simp (disch := omega) only [Tryd.f63, go_sem, Nat.reduceAdd, ↓reduceIte, L8_s, e1]
     refine hK _ ?_
     refine aB ?_
     refine aS rfl ?_
     simp (disch := omega) only [cN, bV, bK, bQ, Tryd.f63, go_sem, ↓reduceIte]
     have e2 := bits8n hx256
     refine congrArg some (congrArg AV.i ?_)
     omega
    ·skip
     refine aI rfl ?_
     refine aQ rfl ?_
     refine aB ?_
     refine aA rfl ?_
     have hx256 : (x).toNat < 256 := by bv_omega
     have e1 := L8_at (x) hx256
     refine aC (Γ := aL) [2] (aD _ _) rfl rfl rfl (fun K hK => ?_)
     simp (disch := omega) only [Tryd.f63, go_sem, Nat.reduceAdd, ↓reduceIte, L8_s, e1]
     refine hK _ ?_
     refine aB ?_
     refine aS rfl ?_
     simp (disch := omega) only [cN, bV, bK, bQ, Tryd.f63, go_sem, ↓reduceIte]
     have e2 := bits8n hx256
     refine congrArg some (congrArg AV.i ?_)
     omega
 ·cases hg
theorem oku103 : bX Tryd.prog GLh 63 (.pure true blenG) := ⟨⟨_, Tryd.func63, rfl, rfl⟩, len_ok⟩
set_option maxHeartbeats 1000000 in
theorem blen_ok : cL Tryd.prog GLh 49 blenG := by
 refine cC Tryd.func49 (aT rfl) ?_
 intro args r hg
 unfold blenG at hg
 split at hg
 ·rename_i x
  obtain rfl := Option.some.inj hg
  refine ⟨Nat.le_of_ble_eq_true rfl, fun nx => ?_⟩
  refine aA rfl ?_
  refine aC (Γ := aL) [0] (aD _ _) rfl rfl rfl (fun K hK => ?_)
  simp (disch := omega) only [Tryd.f49, go_sem, ↓reduceIte]
  refine hK _ ?_
  refine aB ?_
  refine aA rfl ?_
  refine eC _ rfl rfl rfl (fun h => ?_) (fun h => ?_)
  ·skip
   cases h
  ·skip
   refine aQ rfl ?_
   refine aB ?_
   refine aA rfl ?_
   refine aC (Γ := bC [(63, .pure true blenG)]) [2] (aH oku103 aO) rfl rfl rfl (fun K hK => ?_)
   simp (disch := omega) only [Tryd.f49, go_sem, Nat.reduceAdd, ↓reduceIte]
   refine hK _ ?_
   refine aB ?_
   refine aS rfl ?_
   simp (disch := omega) only [cN, bV, bK, bQ, Tryd.f49, go_sem, ↓reduceIte]
 ·cases hg
theorem oku92 : bX Tryd.prog GLh 49 (.pure true blenG) := ⟨⟨_, Tryd.func49, rfl, rfl⟩, blen_ok⟩
def npG : List AV → Option AV
 | [.i n] => aN (0 ≤ n ∧ n ≤ 1000000) (some (.w64 (1#64 <<< Sort.bitsLen n.toNat)))
 | _ => none
theorem npG_eq (n : Int) : npG [.i n] = aN (0 ≤ n ∧ n ≤ 1000000) (some (.w64 (1#64 <<< Sort.bitsLen n.toNat))) := (rfl)
attribute [go_sem] npG_eq
theorem bits20 {n : Nat} (h : n ≤ 1000000) : Sort.bitsLen n ≤ 20 := (Sort.bitsLen_le_iff n 20).2 (by omega)
theorem ofI_nat {n : Nat} (h : n ≤ 1000000) : (BitVec.ofInt 64 (n : Int)).toNat = n := by
 rw [BitVec.toNat_ofInt]; omega
set_option maxHeartbeats 1000000 in
theorem np_ok : cL Tryd.prog GLh 69 npG := by
 refine cC Tryd.func69 (aT rfl) ?_
 intro args r hg
 unfold npG at hg
 split at hg
 ·rename_i n0
  replace hg := aP hg; obtain ⟨⟨hn, hbig⟩, hg⟩ := hg
  obtain rfl := Option.some.inj hg
  obtain ⟨n, rfl⟩ := Int.eq_ofNat_of_zero_le hn
  simp only [Int.toNat_natCast] at *
  have hbn : n ≤ 1000000 := by omega
  have h20 := bits20 hbn
  have e1 := ofI_nat hbn
  refine ⟨Nat.le_of_ble_eq_true rfl, fun nx => ?_⟩
  refine aA rfl ?_
  refine aC (Γ := aL) [0] (aD _ _) rfl rfl rfl (fun K hK => ?_)
  simp (disch := omega) only [Tryd.f69, go_sem, Int.reduceLE, Int.reduceLT, BitVec.reduceOfInt, ↓reduceIte]
  refine hK _ ?_
  refine aB ?_
  refine aA rfl ?_
  refine aC (Γ := bC [(49, .pure true blenG)]) [2] (aH oku92 aO) rfl rfl rfl (fun K hK => ?_)
  simp (disch := omega) only [Tryd.f69, go_sem, Nat.reduceAdd, Int.reduceLE, Int.reduceLT, BitVec.reduceOfInt, ↓reduceIte, e1, Int.toNat_natCast]
  refine hK _ ?_
  refine aB ?_
  refine aS rfl ?_
  simp (disch := omega) only [cN, bV, bK, bQ, Tryd.f69, go_sem, ↓reduceIte]
 ·cases hg
theorem oku105 : bX Tryd.prog GLh 69 (.pure true npG) := ⟨⟨_, Tryd.func69, rfl, rfl⟩, np_ok⟩
def brkL (a len modulus : Nat) : Nat → Nat → UInt64 × Array T32 → Array T32
 | 0, _, st => st.2
 | m + 1, idx, st => brkL a len modulus m (idx + 1) (Sort.breakStep a len modulus st idx)
theorem brk_and (x : BitVec 64) (k : Nat) (h : k ≤ 20) : (x &&& ((1#64 <<< k) - 1#64)).toNat = x.toNat &&& ((1 <<< k) - 1) := by
 have hp : 2 ^ k ≤ 2 ^ 20 := Nat.pow_le_pow_right (by decide) h
 have h0 := Nat.two_pow_pos k
 rw [BitVec.toNat_and]
 congr 1
 rw [BitVec.toNat_sub, BitVec.toNat_shiftLeft, Nat.shiftLeft_eq, Nat.shiftLeft_eq]
 simp only [BitVec.toNat_ofNat, Nat.reduceMod, Nat.reducePow, Nat.one_mul] at hp ⊢
 omega
theorem brk_le (x k n : Nat) (h : 0 < n) (hk : k = Sort.bitsLen n) : x &&& ((1 <<< k) - 1) < 2 * n := by
 have h1 := Nat.and_le_right (n := x) (m := (1 <<< k) - 1)
 have h2 := Sort.two_pow_bitsLen_le h
 have h0 := Nat.two_pow_pos k
 rw [Nat.shiftLeft_eq, Nat.one_mul] at h1 ⊢
 rw [hk] at *
 omega
structure SDR where
 m : Nat
 i : Nat
 r : BitVec 64
 d : Array T32
 c : Nat
def brkG : List AV → List AV → Option (AV × List AV)
 | [.os _ 0 n 1 _, .i a, .i b], xs => aK (unA xs) fun l => aN (l.length = n ∧ 0 ≤ a ∧ a < b ∧ b ≤ n ∧ n ≤ 1000000) (some (.tup [], cA (Sort.breakPatterns l.toArray a.toNat b.toNat)))
 | _, _ => none
theorem brkG_eq (id n : Nat) (gg : Bool) (a b : Int) (xs : List AV) : brkG [.os id 0 n 1 gg, .i a, .i b] xs = aK (unA xs) fun l => aN (l.length = n ∧ 0 ≤ a ∧ a < b ∧ b ≤ n ∧ n ≤ 1000000) (some (.tup [], cA (Sort.breakPatterns l.toArray a.toNat b.toNat))) := (rfl)
attribute [go_sem] brkG_eq
set_option maxHeartbeats 2000000 in
theorem brk_ok : cQ Tryd.prog GLh 55 (dP brkG) := by
 refine dN Tryd.func55 (aT rfl) ?_
 intro id off n e gg rest nx xs r ys hg
 unfold brkG at hg
 split at hg
 ·rename_i id2 n2 gg2 a0 b0 heq
  simp only [List.cons.injEq, AV.os.injEq] at heq
  obtain ⟨⟨rfl, rfl, rfl, rfl, rfl⟩, rfl⟩ := heq
  replace hg := aJ hg; obtain ⟨l, hl, hg⟩ := hg
  replace hg := aP hg; obtain ⟨⟨hn, ha, hab, hbn, hbig⟩, hg⟩ := hg
  simp only [Option.some.injEq, Prod.mk.injEq] at hg; obtain ⟨rfl, rfl⟩ := hg
  have := dO hl; subst this
  obtain ⟨a, rfl⟩ := Int.eq_ofNat_of_zero_le ha
  obtain ⟨b, rfl⟩ := Int.eq_ofNat_of_zero_le (show 0 ≤ b0 by omega)
  simp only [Int.toNat_natCast] at *
  obtain ⟨d, hd⟩ : ∃ d, l.toArray = d := ⟨_, rfl⟩
  have hds : d.size = n := by rw [← hd]; simpa using hn
  have hab2 : a < b := by omega
  have hbn2 : b ≤ n := by omega
  rw [hd]
  refine ⟨Nat.le_of_ble_eq_true rfl, fun hid => ?_⟩
  clear hl hn ha hab hbn
  have eq4 : (((b : Int) - (a : Int)).tdiv 4) = (((b - a) / 4 : Nat) : Int) := by rw [Int.tdiv_eq_ediv_of_nonneg (by omega)]; omega
  obtain ⟨L, hL⟩ : ∃ L : Nat, b - a = L := ⟨_, rfl⟩
  obtain ⟨Q, hQ⟩ : ∃ Q : Nat, (b - a) / 4 = Q := ⟨_, rfl⟩
  have ebL : (b : Int) - (a : Int) = (L : Int) := by omega
  rw [ebL, hQ] at eq4
  have hQL : L / 4 = Q := by omega
  have hLb : L ≤ 1000000 := by omega
  have h20 := bits20 hLb
  obtain ⟨R, hR⟩ : ∃ R, Sort.breakPatterns d a b = R := ⟨_, rfl⟩
  rw [hR]
  refine aA rfl ?_
  refine aC (Γ := aL) [0, 1, 6] (aD _ _) rfl rfl rfl (fun K hK => ?_)
  simp (disch := omega) only [Tryd.f55, go_sem, Nat.reduceAdd, ↓reduceIte, ebL]
  refine hK _ ?_
  refine aB ?_
  refine aA rfl ?_
  refine aC (Γ := aL) [15, 0, 1, 6] (aD _ _) rfl rfl rfl (fun K hK => ?_)
  simp (disch := omega) only [Tryd.f55, go_sem, Nat.reduceAdd, ↓reduceIte]
  refine hK _ ?_
  refine aB ?_
  refine aW (.tmp 15) rfl rfl rfl (fun h => ?_) (fun h => ?_)
  ·skip
   refine aI rfl ?_
   have hL8 : L ≥ 8 := by omega
   have hR2 : brkL a L (1 <<< Sort.bitsLen L) 3 (a + Q * 2 - 1) (UInt64.ofNat L, d) = R := by
    rw [← hR]; unfold Sort.breakPatterns; simp only [hL, hQL, if_pos hL8]; rfl
   have ei : (a : Int) + (Q : Int) * 2 - 1 = ((a + Q * 2 - 1 : Nat) : Int) := by omega
   obtain ⟨i0, hi0⟩ : ∃ i0, a + Q * 2 - 1 = i0 := ⟨_, rfl⟩
   rw [hi0] at hR2 ei
   have ej : (a : Int) + (Q : Int) * 2 + 1 = ((i0 + 2 : Nat) : Int) := by omega
   refine aA rfl ?_
   refine aC (Γ := aL) [0, 1, 6, 7] (aD _ _) rfl rfl rfl (fun K hK => ?_)
   simp (disch := omega) only [Tryd.f55, go_sem, Nat.reduceAdd, Nat.reduceLeDiff, ↓reduceIte]
   refine hK _ ?_
   refine aB ?_
   refine aA rfl ?_
   refine aC (Γ := bC [(69, .pure true npG)]) [0, 1, 6, 7, 8] (aH oku105 aO) rfl rfl rfl (fun K hK => ?_)
   simp (disch := omega) only [Tryd.f55, go_sem, Nat.reduceAdd, ↓reduceIte, Int.toNat_natCast]
   refine hK _ ?_
   refine aB ?_
   refine aA rfl ?_
   refine aC (Γ := aL) [0, 1, 6, 7, 8, 9] (aD _ _) rfl rfl rfl (fun K hK => ?_)
   simp (disch := omega) only [Tryd.f55, go_sem, Nat.reduceAdd, Int.reduceEq, ↓reduceIte, eq4, ei]
   refine hK _ ?_
   refine aB ?_
   obtain ⟨q, hq⟩ : ∃ q, nx + 4 + 2 + 2 = q := ⟨_, rfl⟩
   have hqid : id < q := by omega
   rw [hq]
   refine aR 0 rfl rfl ?_
   refine bR (fun p : SDR => { fr := [(0, .os id 0 n 1 gg), (1, .i a), (6, .i L), (7, .op q 0), (8, .w64 (1#64 <<< Sort.bitsLen L)), (9, .i p.i)], hp := upd (upd (fun _ => none) id (.cells (cA p.d) true)) q (.cells [.w64 p.r] true), nx := 0, cx := p.c }) (fun p => brkL a L (1 <<< Sort.bitsLen L) p.m p.i (.ofBitVec p.r, p.d) = R ∧ p.d.size = n ∧ p.m + p.i = i0 + 3 ∧ i0 ≤ p.i ∧ q < p.c) (fun p => p.m) rfl ⟨⟨3, i0, BitVec.ofInt 64 (L : Int), d, _⟩, ⟨by rw [← hR2]; simp only; rw [BitVec.ofInt_natCast]; rfl, hds, by simp only; omega, by simp only; omega, by simp only; omega⟩, bD rfl rfl (Nat.le_refl _)⟩ ?_
   rintro ⟨m, i, r, d1, c⟩ ⟨hr1, hs1, hm, hi, hc⟩ n0
   simp only at hr1 hs1 hm hi hc ⊢
   have eqq : (a : Int) + ((L : Int).tdiv 4) * 2 + 1 = ((i0 + 2 : Nat) : Int) := by rw [eq4]; exact ej
   refine aA rfl ?_
   refine aA rfl ?_
   refine aC (Γ := aL) [33, 0, 1, 6, 7, 8, 9] (aD _ _) rfl rfl rfl (fun K hK => ?_)
   simp (disch := omega) only [Tryd.f55, go_sem, Nat.reduceAdd, Int.reduceEq, ↓reduceIte, eq4, ej]
   refine hK _ ?_
   refine aB ?_
   refine aW (.tmp 33) rfl rfl rfl (fun h => ?_) (fun h => ?_)
   ·skip
    refine aI rfl ?_
    obtain ⟨m, rfl⟩ : ∃ m', m = m' + 1 := ⟨m - 1, by omega⟩
    rw [brkL] at hr1
    obtain ⟨o, ho⟩ : ∃ o, (xs64 r).toNat &&& ((1 <<< Sort.bitsLen L) - 1) = o := ⟨_, rfl⟩
    have ho2 : o < 2 * L := by rw [← ho]; exact brk_le _ _ _ (by omega) rfl
    have hst : Sort.breakStep a L (1 <<< Sort.bitsLen L) (UInt64.ofBitVec r, d1) i = (.ofBitVec (xs64 r), Sort.swp d1 i (a + if o ≥ L then o - L else o)) := by
     rw [← ho]; rfl
    rw [hst] at hr1
    have hin : i < n := by omega
    have eand : (xs64 r &&& (1#64 <<< Sort.bitsLen L - 1#64)).toNat = o := by rw [brk_and _ _ h20]; exact ho
    refine aQ rfl ?_
    refine aB ?_
    refine aA rfl ?_
    refine aR 1 rfl rfl ?_
    refine aA rfl ?_
    refine aC (Γ := bC [(70, .heap nxtH)]) [0, 1, 6, 7, 8, 9, 10] (aH oku106 aO) rfl rfl rfl (fun K hK => ?_)
    simp (disch := omega) only [Tryd.f55, go_sem, Nat.reduceAdd, Int.reduceLE, Int.reduceLT, BitVec.reduceOfInt, ↓reduceIte, eand]
    refine hK _ ?_
    refine aB ?_
    refine aA rfl ?_
    refine aA rfl ?_
    refine aC (Γ := aL) [43, 0, 1, 6, 7, 8, 9, 10] (aD _ _) rfl rfl rfl (fun K hK => ?_)
    simp (disch := omega) only [Tryd.f55, go_sem, Nat.reduceAdd, ↓reduceIte]
    refine hK _ ?_
    refine aB ?_
    refine aW (.tmp 43) rfl rfl rfl (fun h => ?_) (fun h => ?_)
    ·skip
     refine aI rfl ?_
     have hoL : o ≥ L := by omega
     rw [if_pos hoL] at hr1
     have eo : (o : Int) - (L : Int) = ((o - L : Nat) : Int) := by omega
     refine aC (Γ := aL) [0, 1, 6, 7, 8, 9, 10] (aD _ _) rfl rfl rfl (fun K hK => ?_)
     simp (disch := omega) only [Tryd.f55, go_sem, Nat.reduceAdd, ↓reduceIte, eo]
     refine hK _ ?_
     refine aB ?_
     obtain ⟨w, hw⟩ : ∃ w, a + (o - L) = w := ⟨_, rfl⟩
     have ew : (a : Int) + ((o - L : Nat) : Int) = (w : Int) := by omega
     have hwn : w < n := by omega
     rw [hw] at hr1
     have hsw : (d1.setIfInBounds i d1[w]!).setIfInBounds w d1[i]! = Sort.swp d1 i w := rfl
     refine bB (Γ := aL) (fun _ => 2) [0, 1, 6, 7, 8, 9] bZ (aD _ _) rfl rfl rfl (by kernel_rfl) (fun K hK => ?_)
     simp (disch := omega) only [Tryd.f55, go_sem, Nat.reduceAdd, ↓reduceIte, ew, hsw, Int.toNat_natCast]
     refine hK _ ?_
     refine bU (aB ?_)
     refine aC (Γ := aL) [0, 1, 6, 7, 8, 9] (aD _ _) rfl rfl rfl (fun K hK => ?_)
     simp (disch := omega) only [Tryd.f55, go_sem, Nat.reduceAdd, ↓reduceIte]
     refine hK _ ?_
     refine bT ?_
     refine ⟨⟨m, i + 1, xs64 r, Sort.swp d1 i w, _⟩, ⟨hr1, by simp only [cW]; exact hs1, by simp only; omega, by simp only; omega, by simp only; omega⟩, by simp only; omega, ⟨fun _ => .inr (by simp only [Int.natCast_add, Int.natCast_one]), bS (by simp (disch := omega) only [aV, bY, ↓reduceIte, eq_self]) (bS (by simp (disch := omega) only [aV, ↓reduceIte, eq_self]) cB), Nat.le_refl _⟩⟩
    ·skip
     refine aI rfl ?_
     have hoL : ¬ o ≥ L := by omega
     rw [if_neg hoL] at hr1
     refine aQ rfl ?_
     refine aB ?_
     obtain ⟨w, hw⟩ : ∃ w, a + o = w := ⟨_, rfl⟩
     have ew : (a : Int) + (o : Int) = (w : Int) := by omega
     have hwn : w < n := by omega
     rw [hw] at hr1
     have hsw : (d1.setIfInBounds i d1[w]!).setIfInBounds w d1[i]! = Sort.swp d1 i w := rfl
     refine bB (Γ := aL) (fun _ => 2) [0, 1, 6, 7, 8, 9] bZ (aD _ _) rfl rfl rfl (by kernel_rfl) (fun K hK => ?_)
     simp (disch := omega) only [Tryd.f55, go_sem, Nat.reduceAdd, ↓reduceIte, ew, hsw, Int.toNat_natCast]
     refine hK _ ?_
     refine bU (aB ?_)
     refine aC (Γ := aL) [0, 1, 6, 7, 8, 9] (aD _ _) rfl rfl rfl (fun K hK => ?_)
     simp (disch := omega) only [Tryd.f55, go_sem, Nat.reduceAdd, ↓reduceIte]
     refine hK _ ?_
     refine bT ?_
     refine ⟨⟨m, i + 1, xs64 r, Sort.swp d1 i w, _⟩, ⟨hr1, by simp only [cW]; exact hs1, by simp only; omega, by simp only; omega, by simp only; omega⟩, by simp only; omega, ⟨fun _ => .inr (by simp only [Int.natCast_add, Int.natCast_one]), bS (by simp (disch := omega) only [aV, bY, ↓reduceIte, eq_self]) (bS (by simp (disch := omega) only [aV, ↓reduceIte, eq_self]) cB), Nat.le_refl _⟩⟩
   ·skip
    refine aI rfl ?_
    refine bF 0 rfl rfl ?_
    refine aY (aZ (bE ?_))
    obtain rfl : m = 0 := by omega
    rw [brkL] at hr1
    simp only at hr1
    subst hr1
    exact ⟨rfl, by simp (disch := omega) only [aV, bY, if_true, if_false], rfl, dZ _⟩
  ·skip
   refine aI rfl ?_
   have hL8 : ¬ L ≥ 8 := by omega
   refine aQ rfl ?_
   have hR2 : d = R := by rw [← hR]; unfold Sort.breakPatterns; simp only [hL, if_neg hL8]
   subst hR2
   exact ⟨rfl, by simp only [aV, if_true], rfl, dZ _⟩
 ·cases hg
theorem oku95 : bX Tryd.prog GLh 55 (.heap (dP brkG)) := ⟨⟨_, Tryd.func55, rfl, rfl⟩, brk_ok⟩
end Go.AX
