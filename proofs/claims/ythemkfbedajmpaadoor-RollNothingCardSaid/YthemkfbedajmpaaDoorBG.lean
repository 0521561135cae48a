/-
  Rolls, part A: sums of times; numbers held against one another; settings. Rolls, part B: the keys of a role. Rolls, part C: rows of keys cloned; keys struck out of them; the keys of a role. Rolls, part D: which keys sign; what is due. Rolls, part E: all that is due. Rolls, part F: what is due first. Rolls, part G: one key turned, and told. Rolls, part H: all that is due is turned. Rolls, part I: a new key is begun. AX, part AyP: a region that draws its order, where a few orders stand for all: each other order is one of them but for operations that don't touch one another.
-/
import Derived.Test.YthemkfbedajmpaaDoorBF
import Derived.Test.YthemkfbedajmpaaDoorBD
namespace Go.AX
open Go Go.Proofs
set_option maxRecDepth 8000
theorem min2_32 (a b : W32) : min2A (.w32 a) (.w32 b) = some (.w32 (if b < a then b else a)) := (rfl)
attribute [go_sem] min2_32
def plV (a b : W32) : W32 := a + (if 4294967295#32 - a < b then 4294967295#32 - a else b)
def plusG : List AV → Option AV
 | [.w32 a, .w32 b] => some (.w32 (plV a b))
 | _ => none
theorem plusG_eq (a b : W32) : plusG [.w32 a, .w32 b] = some (.w32 (plV a b)) := (rfl)
attribute [go_sem] plusG_eq
theorem plus_ok : cL Tryd.prog GLh 52 plusG := by
 refine cC Tryd.func52 (aT rfl) ?_
 intro args r hg
 unfold plusG at hg
 split at hg
 ·rename_i a b
  obtain rfl := Option.some.inj hg
  refine ⟨Nat.le_of_ble_eq_true rfl, fun nx => ?_⟩
  refine aA rfl ?_
  refine aC (Γ := aL) [0, 1] (aD _ _) rfl rfl rfl (fun K hK => ?_)
  simp (disch := omega) only [Tryd.f52, go_sem, Int.reduceLE, Int.reduceLT, BitVec.reduceOfInt, ↓reduceIte]
  refine hK _ ?_
  refine aB ?_
  refine aA rfl ?_
  refine aC (Γ := aL) [4] (aD _ _) rfl rfl rfl (fun K hK => ?_)
  simp (disch := omega) only [Tryd.f52, go_sem, Nat.reduceAdd, Int.reduceLE, Int.reduceLT, BitVec.reduceOfInt, ↓reduceIte]
  refine hK _ ?_
  refine aB ?_
  refine aS rfl ?_
  simp (disch := omega) only [cN, bV, bK, bQ, Tryd.f52, go_sem, ↓reduceIte]
  rfl
 ·cases hg
theorem okh41 : bX Tryd.prog GLh 52 (.pure true plusG) := ⟨⟨_, Tryd.func52, rfl, rfl⟩, plus_ok⟩
def bhV (t a b : W32) : W32 := plV (plV t a) b
def behG : List AV → Option AV
 | [.w32 t, .w32 a, .w32 b] => some (.w32 (bhV t a b))
 | _ => none
theorem behG_eq (t a b : W32) : behG [.w32 t, .w32 a, .w32 b] = some (.w32 (bhV t a b)) := (rfl)
attribute [go_sem] behG_eq
theorem beh_ok : cL Tryd.prog GLh 45 behG := by
 refine cC Tryd.func45 (aT rfl) ?_
 intro args r hg
 unfold behG at hg
 split at hg
 ·rename_i t a b
  obtain rfl := Option.some.inj hg
  refine ⟨Nat.le_of_ble_eq_true rfl, fun nx => ?_⟩
  refine aA rfl ?_
  refine aC (Γ := aL) [0, 1, 2] (aD _ _) rfl rfl rfl (fun K hK => ?_)
  simp (disch := omega) only [Tryd.f45, go_sem, Nat.reduceAdd, Int.reduceLE, Int.reduceLT, BitVec.reduceOfInt, ↓reduceIte]
  refine hK _ ?_
  refine aB ?_
  refine aA rfl ?_
  refine aC (Γ := bC [(52, .pure true plusG)]) [6] (aH okh41 aO) rfl rfl rfl (fun K hK => ?_)
  simp (disch := omega) only [Tryd.f45, go_sem, Nat.reduceAdd, ↓reduceIte]
  refine hK _ ?_
  refine aB ?_
  refine aS rfl ?_
  simp (disch := omega) only [cN, bV, bK, bQ, Tryd.f45, go_sem, ↓reduceIte]
  rfl
 ·cases hg
theorem okh36 : bX Tryd.prog GLh 45 (.pure true behG) := ⟨⟨_, Tryd.func45, rfl, rfl⟩, beh_ok⟩
def dueG : List AV → Option AV
 | [.w32 a, .w32 b] => some (.b (decide (b ≤ a)))
 | _ => none
theorem dueG_eq (a b : W32) : dueG [.w32 a, .w32 b] = some (.b (decide (b ≤ a))) := (rfl)
attribute [go_sem] dueG_eq
theorem due_ok : cL Tryd.prog GLh 27 dueG := by
 refine cC Tryd.func27 (aT rfl) ?_
 intro args r hg
 unfold dueG at hg
 split at hg
 ·rename_i a b
  obtain rfl := Option.some.inj hg
  refine ⟨Nat.le_of_ble_eq_true rfl, fun nx => ?_⟩
  refine aA rfl ?_
  refine aC (Γ := aL) [0, 1] (aD _ _) rfl rfl rfl (fun K hK => ?_)
  simp (disch := omega) only [Tryd.f27, go_sem, ↓reduceIte]
  refine hK _ ?_
  refine aB ?_
  refine aA rfl ?_
  refine aC (Γ := aL) [4] (aD _ _) rfl rfl rfl (fun K hK => ?_)
  simp (disch := omega) only [Tryd.f27, go_sem, Nat.reduceAdd, ↓reduceIte]
  refine hK _ ?_
  refine aB ?_
  refine aS rfl ?_
  simp (disch := omega) only [cN, bV, bK, bQ, Tryd.f27, go_sem, ↓reduceIte]
 ·cases hg
theorem okh26 : bX Tryd.prog GLh 27 (.pure true dueG) := ⟨⟨_, Tryd.func27, rfl, rfl⟩, due_ok⟩
theorem take_next32 {a b : List W32} {k : Nat} (ha : k < a.length) (hb : k < b.length) (h : a.take k = b.take k) (e : a.getD k 0#32 = b.getD k 0#32) : a.take (k + 1) = b.take (k + 1) := by
 rw [List.take_add_one, List.take_add_one, h, List.getElem?_eq_getElem ha, List.getElem?_eq_getElem hb]
 rw [List.getD_eq_getElem?_getD, List.getD_eq_getElem?_getD, List.getElem?_eq_getElem ha, List.getElem?_eq_getElem hb] at e
 rw [show a[k] = b[k] from e]
def idsG : List AV → Option AV
 | [.sl n xs, .sl m ys] => aK (un32 xs) fun a => aK (un32 ys) fun b => aN (a.length = n ∧ b.length = m ∧ n ≤ 9223372036854775807 ∧ m ≤ 9223372036854775807) (some (.b (decide (a = b))))
 | _ => none
theorem idsG_eq (n m : Nat) (xs ys : List AV) : idsG [.sl n xs, .sl m ys] = aK (un32 xs) fun a => aK (un32 ys) fun b => aN (a.length = n ∧ b.length = m ∧ n ≤ 9223372036854775807 ∧ m ≤ 9223372036854775807) (some (.b (decide (a = b)))) := (rfl)
attribute [go_sem] idsG_eq
set_option maxHeartbeats 1000000 in
theorem ids_ok : cL Tryd.prog GLh 14 idsG := by
 refine cC Tryd.func14 (aT rfl) ?_
 intro args r hg
 unfold idsG at hg
 split at hg
 ·rename_i n xs m ys
  replace hg := aJ hg; obtain ⟨a, ha, hg⟩ := hg
  replace hg := aJ hg; obtain ⟨b, hb, hg⟩ := hg
  replace hg := aP hg; obtain ⟨⟨hn, hm, hbig, hbig2⟩, hg⟩ := hg
  obtain rfl := Option.some.inj hg
  have := un32_inv _ ha; subst this
  have := un32_inv _ hb; subst this
  subst hn; subst hm
  clear hg ha hb
  refine ⟨Nat.le_of_ble_eq_true rfl, fun nx => ?_⟩
  refine aA rfl ?_
  refine aC (Γ := aL) [0, 1] (aD _ _) rfl rfl rfl (fun K hK => ?_)
  simp (disch := omega) only [Tryd.f14, go_sem, ↓reduceIte]
  refine hK _ ?_
  refine aB ?_
  refine aA rfl ?_
  refine aA rfl ?_
  refine aC (Γ := aL) [10, 0, 1] (aD _ _) rfl rfl rfl (fun K hK => ?_)
  simp (disch := omega) only [Tryd.f14, go_sem, Nat.reduceAdd, ↓reduceIte]
  refine hK _ ?_
  refine aB ?_
  refine awp_ifE (.tmp 10) rfl rfl rfl (fun h => ?_) (fun h => ?_)
  ·skip
   refine aI rfl ?_
   have hl : decide (a = b) = false := decide_eq_false (fun e => h (by rw [e]))
   refine aA rfl ?_
   refine aC (Γ := aL) [4] (aD _ _) rfl rfl rfl (fun K hK => ?_)
   simp (disch := omega) only [Tryd.f14, go_sem, ↓reduceIte]
   refine hK _ ?_
   refine aB ?_
   refine aS rfl ?_
   refine bI ?_
   simp (disch := omega) only [cN, bV, bK, bQ, Tryd.f14, go_sem, ↓reduceIte, hl]
  ·skip
   refine aI rfl ?_
   have hab : a.length = b.length := by omega
   refine aQ rfl ?_
   refine aB ?_
   refine aA rfl ?_
   refine aA rfl ?_
   refine aC (Γ := aL) [0, 1, 5] (aD _ _) rfl rfl rfl (fun K hK => ?_)
   simp (disch := omega) only [Tryd.f14, go_sem, ↓reduceIte]
   refine hK _ ?_
   refine aB ?_
   refine aR 0 rfl rfl ?_
   refine bR (fun p : KC => { fr := [(0, .sl a.length (c32 a)), (1, .sl b.length (c32 b)), (5, .i p.k)], hp := fun _ => none, nx := 0, cx := p.c }) (fun p => p.k ≤ a.length ∧ a.take p.k = b.take p.k) (fun p => a.length - p.k) rfl ⟨⟨0, _⟩, ⟨Nat.zero_le _, rfl⟩, bD rfl rfl (Nat.le_refl _)⟩ ?_
   rintro ⟨k, c⟩ ⟨hk, ht⟩ n0
   simp only at hk ht ⊢
   refine aA rfl ?_
   refine aA rfl ?_
   refine aC (Γ := aL) [14, 0, 1, 5] (aD _ _) rfl rfl rfl (fun K hK => ?_)
   simp (disch := omega) only [Tryd.f14, go_sem, Nat.reduceAdd, ↓reduceIte]
   refine hK _ ?_
   refine aB ?_
   refine aW (.tmp 14) rfl rfl rfl (fun h => ?_) (fun h => ?_)
   ·skip
    refine aI rfl ?_
    have hka : k < a.length := by omega
    have hkb : k < b.length := by omega
    refine aQ rfl ?_
    refine aB ?_
    refine aA rfl ?_
    refine aR 1 rfl rfl ?_
    refine aA rfl ?_
    refine bB (Γ := aL) (fun _ => 2) [25, 0, 1, 5] bZ (aD _ _) rfl rfl rfl (by kernel_rfl) (fun K hK => ?_)
    simp (disch := omega) only [Tryd.f14, go_sem, Nat.reduceAdd, ↓reduceIte]
    refine hK _ ?_
    refine aB ?_
    refine awp_ifE (.tmp 25) rfl rfl rfl (fun h => ?_) (fun h => ?_)
    ·skip
     refine aI rfl ?_
     have hl : decide (a = b) = false := decide_eq_false (fun e => h (by rw [e]))
     refine aA rfl ?_
     refine aC (Γ := aL) [4] (aD _ _) rfl rfl rfl (fun K hK => ?_)
     simp (disch := omega) only [Tryd.f14, go_sem, ↓reduceIte]
     refine hK _ ?_
     refine aB ?_
     refine aS rfl ?_
     refine bN (bI (dF (bN (bI ?_))))
     simp (disch := omega) only [cN, bV, bK, bQ, Tryd.f14, go_sem, ↓reduceIte, hl]
    ·skip
     refine aI rfl ?_
     refine aQ rfl ?_
     refine bU (aB ?_)
     refine aC (Γ := aL) [0, 1, 5] (aD _ _) rfl rfl rfl (fun K hK => ?_)
     simp (disch := omega) only [Tryd.f14, go_sem, Nat.reduceAdd, ↓reduceIte]
     refine hK _ ?_
     refine bT ?_
     refine ⟨⟨k + 1, _⟩, ⟨by simp only; omega, take_next32 hka hkb ht h⟩, by simp only; omega, bD ?_ rfl (Nat.le_refl _)⟩
     simp only [Int.natCast_add, Int.natCast_one]
   ·skip
    refine aI rfl ?_
    refine bF 0 rfl rfl ?_
    refine aY (aZ (bE ?_))
    refine aB ?_
    refine aA rfl ?_
    obtain rfl : k = a.length := by omega
    have hl : decide (a = b) = true := decide_eq_true (by rw [List.take_length, hab, List.take_length] at ht; exact ht)
    refine aC (Γ := aL) [4] (aD _ _) rfl rfl rfl (fun K hK => ?_)
    simp (disch := omega) only [Tryd.f14, go_sem, ↓reduceIte]
    refine hK _ ?_
    refine aB ?_
    refine aS rfl ?_
    simp (disch := omega) only [cN, bV, bK, bQ, Tryd.f14, go_sem, ↓reduceIte, hl]
 ·cases hg
theorem okh10 : bX Tryd.prog GLh 14 (.pure true idsG) := ⟨⟨_, Tryd.func14, rfl, rfl⟩, ids_ok⟩
def cfgV (k : BitVec 16) : CF := ⟨[apN], 10#32 + BitVec.setWidth 32 (k &&& 3#16) * 10#32, BitVec.setWidth 32 (k >>> 2 &&& 3#16), 8#32, BitVec.setWidth 32 (k >>> 4 &&& 3#16), 300#32 + BitVec.setWidth 32 (k >>> 6 &&& 3#16) * 200#32, 100#32, 20#32, 60#32,
 [170#8, 187#8, 204#8].take (k >>> 10 &&& 3#16).toNat, k >>> 8 &&& 3#16, 6, if k >>> 12 &&& 3#16 = 0#16 then 1400#16 else 16000#16⟩
theorem cfgV_eq (k : BitVec 16) : cfgV k = ⟨[apN], 10#32 + BitVec.setWidth 32 (k &&& 3#16) * 10#32, BitVec.setWidth 32 (k >>> 2 &&& 3#16), 8#32, BitVec.setWidth 32 (k >>> 4 &&& 3#16), 300#32 + BitVec.setWidth 32 (k >>> 6 &&& 3#16) * 200#32, 100#32, 20#32, 60#32,
 [170#8, 187#8, 204#8].take (k >>> 10 &&& 3#16).toNat, k >>> 8 &&& 3#16, 6, if k >>> 12 &&& 3#16 = 0#16 then 1400#16 else 16000#16⟩ := rfl
def cfgG21 : List AV → Option AV
 | [.w16 k] => some (.agg (cfC (cfgV k)))
 | _ => none
theorem cfgG21_eq (k : BitVec 16) : cfgG21 [.w16 k] = some (.agg (cfC (cfgV k))) := (rfl)
attribute [go_sem] cfgG21_eq
theorem and3 (k : BitVec 16) : k &&& 3#16 = 0#16 ∨ k &&& 3#16 = 1#16 ∨ k &&& 3#16 = 2#16 ∨ k &&& 3#16 = 3#16 := by
 have h : (k &&& 3#16).toNat ≤ 3 := by rw [BitVec.toNat_and]; exact Nat.and_le_right
 rcases (by omega : (k &&& 3#16).toNat = 0 ∨ (k &&& 3#16).toNat = 1 ∨ (k &&& 3#16).toNat = 2 ∨ (k &&& 3#16).toNat = 3) with e | e | e | e
 ·exact .inl (BitVec.eq_of_toNat_eq e)
 ·exact .inr (.inl (BitVec.eq_of_toNat_eq e))
 ·exact .inr (.inr (.inl (BitVec.eq_of_toNat_eq e)))
 ·exact .inr (.inr (.inr (BitVec.eq_of_toNat_eq e)))
set_option maxHeartbeats 1000000 in
theorem cfg21_ok : cL Tryd.prog GLh 18 cfgG21 := by
 refine cC Tryd.func18 (aT rfl) ?_
 intro args r hg
 unfold cfgG21 at hg
 split at hg
 ·rename_i k
  obtain rfl := Option.some.inj hg
  refine ⟨Nat.le_of_ble_eq_true rfl, fun nx => ?_⟩
  have ek := cfgV_eq k
  refine aA rfl ?_
  refine aC (Γ := aL) [0, 2] (aD _ _) rfl rfl rfl (fun K hK => ?_)
  simp (disch := omega) only [Tryd.f18, go_sem, ↓reduceIte]
  refine hK _ ?_
  refine aB ?_
  refine aA rfl ?_
  refine aC (Γ := bC [(35, .fresh true apexG)]) [0, 2, 3] (aH okd46 aO) rfl rfl rfl (fun K hK => ?_)
  simp (disch := omega) only [Tryd.f18, go_sem, Nat.reduceAdd, Nat.reduceLeDiff, Int.reduceLE, Int.reduceLT, BitVec.reduceOfInt, BitVec.reduceToNat, ↓reduceIte, cK, List.nil_append, List.cons_append, List.take_succ_cons, List.take_zero, List.drop_succ_cons, List.drop_zero, List.all_cons, List.all_nil, Option.isSome_some, Bool.and_self]
  refine hK _ ?_
  refine aB ?_
  rcases and3 (k >>> 10) with e | e | e | e
  ·skip
   refine aA rfl ?_
   refine aC (Γ := aL) [0, 2, 3] (aD _ _) rfl rfl rfl (fun K hK => ?_)
   simp (disch := omega) only [Tryd.f18, go_sem, Nat.reduceAdd, Nat.reduceSub, Nat.reduceLeDiff, Nat.reduceLT, Int.reduceLE, Int.reduceLT, Int.reduceToNat, BitVec.reduceOfInt, BitVec.reduceToNat, ↓reduceIte, e, BitVec.reduceMod, BitVec.reduceEq, List.set_cons_succ, List.set_cons_zero]
   refine hK _ ?_
   refine aB ?_
   refine aA rfl ?_
   refine aA rfl ?_
   refine aC (Γ := aL) [38, 2, 3] (aD _ _) rfl rfl rfl (fun K hK => ?_)
   simp (disch := omega) only [Tryd.f18, go_sem, Nat.reduceAdd, Int.reduceLE, Int.reduceLT, BitVec.reduceOfInt, BitVec.reduceToNat, ↓reduceIte]
   refine hK _ ?_
   refine aB ?_
   refine aW (.tmp 38) rfl rfl rfl (fun h => ?_) (fun h => ?_)
   ·skip
    refine aI rfl ?_
    rw [e, if_pos h] at ek
    refine aC (Γ := aL) [2, 3] (aD _ _) rfl rfl rfl (fun K hK => ?_)
    simp (disch := omega) only [Tryd.f18, go_sem, Nat.reduceAdd, Nat.reduceLeDiff, Nat.reduceLT, Int.reduceLE, Int.reduceLT, BitVec.reduceOfInt, ↓reduceIte]
    refine hK _ ?_
    refine aB ?_
    refine aA rfl ?_
    refine aC (Γ := aL) [2] (aD _ _) rfl rfl rfl (fun K hK => ?_)
    simp (disch := omega) only [Tryd.f18, go_sem, Nat.reduceAdd, Nat.reduceLeDiff, ↓reduceIte]
    refine hK _ ?_
    refine aB ?_
    refine aS rfl ?_
    simp (maxSteps := 400000) (disch := omega) only [cN, bV, bK, bQ, Tryd.f18, go_sem, Nat.reduceAdd, Nat.reduceLeDiff, BitVec.reduceToNat, ↓reduceIte, ek, jI, ldV, List.set_cons_succ, List.set_cons_zero, List.take_succ_cons, List.take_zero, List.drop_zero]
    rfl
   ·skip
    refine aI rfl ?_
    rw [e, if_neg h] at ek
    refine aQ rfl ?_
    refine aB ?_
    refine aA rfl ?_
    refine aC (Γ := aL) [2] (aD _ _) rfl rfl rfl (fun K hK => ?_)
    simp (disch := omega) only [Tryd.f18, go_sem, Nat.reduceAdd, Nat.reduceLeDiff, ↓reduceIte]
    refine hK _ ?_
    refine aB ?_
    refine aS rfl ?_
    simp (maxSteps := 400000) (disch := omega) only [cN, bV, bK, bQ, Tryd.f18, go_sem, Nat.reduceAdd, Nat.reduceLeDiff, BitVec.reduceToNat, ↓reduceIte, ek, jI, ldV, List.take_succ_cons, List.take_zero, List.drop_zero]
    rfl
  ·skip
   refine aA rfl ?_
   refine aC (Γ := aL) [0, 2, 3] (aD _ _) rfl rfl rfl (fun K hK => ?_)
   simp (disch := omega) only [Tryd.f18, go_sem, Nat.reduceAdd, Nat.reduceSub, Nat.reduceLeDiff, Nat.reduceLT, Int.reduceLE, Int.reduceLT, Int.reduceToNat, BitVec.reduceOfInt, BitVec.reduceToNat, ↓reduceIte, e, BitVec.reduceMod, BitVec.reduceEq, List.set_cons_succ, List.set_cons_zero]
   refine hK _ ?_
   refine aB ?_
   refine aA rfl ?_
   refine aA rfl ?_
   refine aC (Γ := aL) [38, 2, 3] (aD _ _) rfl rfl rfl (fun K hK => ?_)
   simp (disch := omega) only [Tryd.f18, go_sem, Nat.reduceAdd, Int.reduceLE, Int.reduceLT, BitVec.reduceOfInt, BitVec.reduceToNat, ↓reduceIte]
   refine hK _ ?_
   refine aB ?_
   refine aW (.tmp 38) rfl rfl rfl (fun h => ?_) (fun h => ?_)
   ·skip
    refine aI rfl ?_
    rw [e, if_pos h] at ek
    refine aC (Γ := aL) [2, 3] (aD _ _) rfl rfl rfl (fun K hK => ?_)
    simp (disch := omega) only [Tryd.f18, go_sem, Nat.reduceAdd, Nat.reduceLeDiff, Nat.reduceLT, Int.reduceLE, Int.reduceLT, BitVec.reduceOfInt, ↓reduceIte]
    refine hK _ ?_
    refine aB ?_
    refine aA rfl ?_
    refine aC (Γ := aL) [2] (aD _ _) rfl rfl rfl (fun K hK => ?_)
    simp (disch := omega) only [Tryd.f18, go_sem, Nat.reduceAdd, Nat.reduceLeDiff, ↓reduceIte]
    refine hK _ ?_
    refine aB ?_
    refine aS rfl ?_
    simp (maxSteps := 400000) (disch := omega) only [cN, bV, bK, bQ, Tryd.f18, go_sem, Nat.reduceAdd, Nat.reduceLeDiff, BitVec.reduceToNat, ↓reduceIte, ek, jI, ldV, List.set_cons_succ, List.set_cons_zero, List.take_succ_cons, List.take_zero, List.drop_zero]
    rfl
   ·skip
    refine aI rfl ?_
    rw [e, if_neg h] at ek
    refine aQ rfl ?_
    refine aB ?_
    refine aA rfl ?_
    refine aC (Γ := aL) [2] (aD _ _) rfl rfl rfl (fun K hK => ?_)
    simp (disch := omega) only [Tryd.f18, go_sem, Nat.reduceAdd, Nat.reduceLeDiff, ↓reduceIte]
    refine hK _ ?_
    refine aB ?_
    refine aS rfl ?_
    simp (maxSteps := 400000) (disch := omega) only [cN, bV, bK, bQ, Tryd.f18, go_sem, Nat.reduceAdd, Nat.reduceLeDiff, BitVec.reduceToNat, ↓reduceIte, ek, jI, ldV, List.take_succ_cons, List.take_zero, List.drop_zero]
    rfl
  ·skip
   refine aA rfl ?_
   refine aC (Γ := aL) [0, 2, 3] (aD _ _) rfl rfl rfl (fun K hK => ?_)
   simp (disch := omega) only [Tryd.f18, go_sem, Nat.reduceAdd, Nat.reduceSub, Nat.reduceLeDiff, Nat.reduceLT, Int.reduceLE, Int.reduceLT, Int.reduceToNat, BitVec.reduceOfInt, BitVec.reduceToNat, ↓reduceIte, e, BitVec.reduceMod, BitVec.reduceEq, List.set_cons_succ, List.set_cons_zero]
   refine hK _ ?_
   refine aB ?_
   refine aA rfl ?_
   refine aA rfl ?_
   refine aC (Γ := aL) [38, 2, 3] (aD _ _) rfl rfl rfl (fun K hK => ?_)
   simp (disch := omega) only [Tryd.f18, go_sem, Nat.reduceAdd, Int.reduceLE, Int.reduceLT, BitVec.reduceOfInt, BitVec.reduceToNat, ↓reduceIte]
   refine hK _ ?_
   refine aB ?_
   refine aW (.tmp 38) rfl rfl rfl (fun h => ?_) (fun h => ?_)
   ·skip
    refine aI rfl ?_
    rw [e, if_pos h] at ek
    refine aC (Γ := aL) [2, 3] (aD _ _) rfl rfl rfl (fun K hK => ?_)
    simp (disch := omega) only [Tryd.f18, go_sem, Nat.reduceAdd, Nat.reduceLeDiff, Nat.reduceLT, Int.reduceLE, Int.reduceLT, BitVec.reduceOfInt, ↓reduceIte]
    refine hK _ ?_
    refine aB ?_
    refine aA rfl ?_
    refine aC (Γ := aL) [2] (aD _ _) rfl rfl rfl (fun K hK => ?_)
    simp (disch := omega) only [Tryd.f18, go_sem, Nat.reduceAdd, Nat.reduceLeDiff, ↓reduceIte]
    refine hK _ ?_
    refine aB ?_
    refine aS rfl ?_
    simp (maxSteps := 400000) (disch := omega) only [cN, bV, bK, bQ, Tryd.f18, go_sem, Nat.reduceAdd, Nat.reduceLeDiff, BitVec.reduceToNat, ↓reduceIte, ek, jI, ldV, List.set_cons_succ, List.set_cons_zero, List.take_succ_cons, List.take_zero, List.drop_zero]
    rfl
   ·skip
    refine aI rfl ?_
    rw [e, if_neg h] at ek
    refine aQ rfl ?_
    refine aB ?_
    refine aA rfl ?_
    refine aC (Γ := aL) [2] (aD _ _) rfl rfl rfl (fun K hK => ?_)
    simp (disch := omega) only [Tryd.f18, go_sem, Nat.reduceAdd, Nat.reduceLeDiff, ↓reduceIte]
    refine hK _ ?_
    refine aB ?_
    refine aS rfl ?_
    simp (maxSteps := 400000) (disch := omega) only [cN, bV, bK, bQ, Tryd.f18, go_sem, Nat.reduceAdd, Nat.reduceLeDiff, BitVec.reduceToNat, ↓reduceIte, ek, jI, ldV, List.take_succ_cons, List.take_zero, List.drop_zero]
    rfl
  ·skip
   refine aA rfl ?_
   refine aC (Γ := aL) [0, 2, 3] (aD _ _) rfl rfl rfl (fun K hK => ?_)
   simp (disch := omega) only [Tryd.f18, go_sem, Nat.reduceAdd, Nat.reduceSub, Nat.reduceLeDiff, Nat.reduceLT, Int.reduceLE, Int.reduceLT, Int.reduceToNat, BitVec.reduceOfInt, BitVec.reduceToNat, ↓reduceIte, e, BitVec.reduceMod, BitVec.reduceEq, List.set_cons_succ, List.set_cons_zero]
   refine hK _ ?_
   refine aB ?_
   refine aA rfl ?_
   refine aA rfl ?_
   refine aC (Γ := aL) [38, 2, 3] (aD _ _) rfl rfl rfl (fun K hK => ?_)
   simp (disch := omega) only [Tryd.f18, go_sem, Nat.reduceAdd, Int.reduceLE, Int.reduceLT, BitVec.reduceOfInt, BitVec.reduceToNat, ↓reduceIte]
   refine hK _ ?_
   refine aB ?_
   refine aW (.tmp 38) rfl rfl rfl (fun h => ?_) (fun h => ?_)
   ·skip
    refine aI rfl ?_
    rw [e, if_pos h] at ek
    refine aC (Γ := aL) [2, 3] (aD _ _) rfl rfl rfl (fun K hK => ?_)
    simp (disch := omega) only [Tryd.f18, go_sem, Nat.reduceAdd, Nat.reduceLeDiff, Nat.reduceLT, Int.reduceLE, Int.reduceLT, BitVec.reduceOfInt, ↓reduceIte]
    refine hK _ ?_
    refine aB ?_
    refine aA rfl ?_
    refine aC (Γ := aL) [2] (aD _ _) rfl rfl rfl (fun K hK => ?_)
    simp (disch := omega) only [Tryd.f18, go_sem, Nat.reduceAdd, Nat.reduceLeDiff, ↓reduceIte]
    refine hK _ ?_
    refine aB ?_
    refine aS rfl ?_
    simp (maxSteps := 400000) (disch := omega) only [cN, bV, bK, bQ, Tryd.f18, go_sem, Nat.reduceAdd, Nat.reduceLeDiff, BitVec.reduceToNat, ↓reduceIte, ek, jI, ldV, List.set_cons_succ, List.set_cons_zero, List.take_succ_cons, List.take_zero, List.drop_zero]
    rfl
   ·skip
    refine aI rfl ?_
    rw [e, if_neg h] at ek
    refine aQ rfl ?_
    refine aB ?_
    refine aA rfl ?_
    refine aC (Γ := aL) [2] (aD _ _) rfl rfl rfl (fun K hK => ?_)
    simp (disch := omega) only [Tryd.f18, go_sem, Nat.reduceAdd, Nat.reduceLeDiff, ↓reduceIte]
    refine hK _ ?_
    refine aB ?_
    refine aS rfl ?_
    simp (maxSteps := 400000) (disch := omega) only [cN, bV, bK, bQ, Tryd.f18, go_sem, Nat.reduceAdd, Nat.reduceLeDiff, BitVec.reduceToNat, ↓reduceIte, ek, jI, ldV, List.take_succ_cons, List.take_zero, List.drop_zero]
    rfl
 ·cases hg
theorem okh15 : bX Tryd.prog GLh 18 (.pure false cfgG21) := ⟨⟨_, Tryd.func18, rfl, rfl⟩, cfg21_ok⟩
end Go.AX
namespace Go.AX
open Go Go.Proofs
set_option maxRecDepth 8000
open Classical in
noncomputable def kysU (xs : List AV) : Option (List KY) := if h : ∃ L, xs = hP L then some (Classical.choose h) else none
theorem kysU_C (L : List KY) : kysU (hP L) = some L := by
 have hx : ∃ L', hP L = hP L' := ⟨L, rfl⟩
 unfold kysU
 rw [dif_pos hx]
 exact congrArg some (kysC_inj (Classical.choose_spec hx)).symm
theorem kysU_inv {xs : List AV} {L : List KY} (h : kysU xs = some L) : xs = hP L := by
 unfold kysU at h
 split at h
 ·rename_i hx
  rw [← Option.some.inj h]
  exact Classical.choose_spec hx
 ·cases h
attribute [go_sem] kysU_C
def gP (r : Int) (L : List KY) : List KY := L.filter fun k => decide (k.role = r)
theorem jP (r : Int) (L : List KY) : (gP r L).length ≤ L.length := List.length_filter_le _ _
theorem kys_row (L : List KY) (k : Nat) (hk : k < L.length) : (List.drop (15 * k) (hP L)).take 15 = kyC (kyA L k) := by
 have := kys_drop L k 0 hk
 rw [Nat.add_zero, List.drop_zero] at this
 rw [this]
 exact List.take_left' rfl
theorem kys_put : ∀ (L : List KY) (k : Nat) (v : KY), k < L.length → cK (hP L) (15 * k) (kyC v) = hP (L.set k v)
 | [], k, v, h => by simp at h
 | y :: r, 0, v, _ => by
  have h15 : (kyC y).length = 15 := rfl
  have e15 : (kyC v).length = 15 := rfl
  rw [cK, Nat.mul_zero, List.take_zero, List.nil_append, Nat.zero_add, e15, hP, List.drop_left' h15, List.set_cons_zero, hP]
 | y :: r, k + 1, v, h => by
  have h15 : (kyC y).length = 15 := rfl
  have ih := kys_put r k v (by simpa using h)
  have e15 : (kyC v).length = 15 := rfl
  have e1 : 15 * (k + 1) = (kyC y).length + 15 * k := by rw [h15]; omega
  have e2 : 15 * (k + 1) + 15 = (kyC y).length + (15 * k + 15) := by rw [h15]; omega
  rw [cK, e15] at ih ⊢
  rw [e2, e1, hP, List.take_append, List.drop_append, List.set_cons_succ, hP, ← ih]
  rw [List.take_of_length_le (by omega), Nat.add_sub_cancel_left, List.drop_of_length_le (by omega), Nat.add_sub_cancel_left]
  simp [List.append_assoc]
def rowD (r : Int) (L : List KY) (k : Nat) : List KY := gP r (L.take k) ++ L.drop (gP r (L.take k)).length
theorem role_take_le (r : Int) (L : List KY) (k : Nat) : (gP r (L.take k)).length ≤ k := Nat.le_trans (jP _ _) (by rw [List.length_take]; omega)
theorem rowD_len (r : Int) (L : List KY) (k : Nat) (hk : k ≤ L.length) : (rowD r L k).length = L.length := by
 have := role_take_le r L k
 rw [rowD, List.length_append, List.length_drop]; omega
theorem role_next (r : Int) (L : List KY) (k : Nat) (hk : k < L.length) : gP r (L.take (k + 1)) = gP r (L.take k) ++ if (kyA L k).role = r then [kyA L k] else [] := by
 have e : kyA L k = L[k] := by simp [kyA, List.getD_eq_getElem?_getD, hk]
 rw [List.take_add_one, List.getElem?_eq_getElem hk, gP, List.filter_append, e]
 simp only [Option.toList_some, List.filter_cons, List.filter_nil, decide_eq_true_eq]
 rfl
theorem rowD_at (r : Int) (L : List KY) (k : Nat) : kyA (rowD r L k) k = kyA L k := by
 have h := role_take_le r L k
 unfold kyA rowD
 rw [List.getD_eq_getElem?_getD, List.getD_eq_getElem?_getD, List.getElem?_append_right h, List.getElem?_drop]
 congr 2
 omega
theorem rowD_y (r : Int) (L : List KY) (k : Nat) (hk : k < L.length) (h : (kyA L k).role = r) : rowD r L (k + 1) = (rowD r L k).set (gP r (L.take k)).length (kyA L k) := by
 have hl := role_take_le r L k
 unfold rowD
 rw [role_next r L k hk, if_pos h, List.length_append, List.length_singleton, List.set_append_right _ _ (Nat.le_refl _), Nat.sub_self]
 rw [List.drop_eq_getElem_cons (by omega : (gP r (L.take k)).length < L.length), List.set_cons_zero, List.append_assoc]
 rfl
theorem rowD_n (r : Int) (L : List KY) (k : Nat) (hk : k < L.length) (h : ¬ (kyA L k).role = r) : rowD r L (k + 1) = rowD r L k := by
 unfold rowD
 rw [role_next r L k hk, if_neg h, List.append_nil]
def dfL (r : Int) (L : List KY) : List KY := gP r L ++ List.replicate (L.length - (gP r L).length) ky0
theorem kys_rep : ∀ n : Nat, rep n (kyC ky0) = hP (List.replicate n ky0)
 | 0 => rfl
 | n + 1 => by
  have ih := kys_rep n
  unfold rep at ih ⊢
  rw [List.replicate_succ, List.flatten_cons, List.replicate_succ, hP, ih]
theorem kys_clr (r : Int) (L : List KY) : cK (hP (rowD r L L.length)) (15 * (gP r L).length) (rep (L.length - (gP r L).length) (kyC ky0)) = hP (dfL r L) := by
 have hl := jP r L
 have e : rowD r L L.length = gP r L ++ L.drop (gP r L).length := by rw [rowD, List.take_length]
 have h1 : (hP (gP r L)).length = 15 * (gP r L).length := iJ _
 rw [e, cK, kysC_app, List.take_left' h1, kys_rep, dfL, kysC_app]
 rw [List.drop_of_length_le, List.append_nil]
 rw [List.length_append, iJ, iJ, iJ, List.length_replicate, List.length_drop]
 omega
def ixV (r : Int) : List KY → Nat → Int
 | [], _ => -1
 | k :: t, j => if k.role = r then ixV r t (j + 1) else j
theorem ixV_step (r : Int) (L : List KY) (k : Nat) (hk : k < L.length) : ixV r (L.drop k) k = if (kyA L k).role = r then ixV r (L.drop (k + 1)) (k + 1) else (k : Int) := by
 rw [List.drop_eq_getElem_cons hk]
 have e : kyA L k = L[k] := by simp [kyA, List.getD_eq_getElem?_getD, hk]
 rw [e, ixV]
theorem ixV_spec (r : Int) : ∀ (L : List KY) (j : Nat), (ixV r L j = -1 ∧ gP r L = L) ∨ ∃ i, i < L.length ∧ ixV r L j = ((j + i : Nat) : Int) ∧ gP r (L.take (i + 1)) = L.take i
 | [], j => .inl ⟨rfl, rfl⟩
 | k :: t, j => by
  by_cases h : k.role = r
  ·have e : ixV r (k :: t) j = ixV r t (j + 1) := by rw [ixV, if_pos h]
   rcases ixV_spec r t (j + 1) with ⟨h1, h2⟩ | ⟨i, h1, h2, h3⟩
   ·refine .inl ⟨e.trans h1, ?_⟩
    unfold gP at h2 ⊢
    rw [List.filter_cons, if_pos (by simpa using h), h2]
   ·refine .inr ⟨i + 1, by simpa using h1, e.trans (by rw [h2]; congr 1; omega), ?_⟩
    unfold gP at h3 ⊢
    rw [List.take_succ_cons, List.filter_cons, if_pos (by simpa using h), h3, List.take_succ_cons]
  ·refine .inr ⟨0, by simp, by rw [ixV, if_neg h]; simp, ?_⟩
   simp [gP, h]
noncomputable def of1O (k : KY) (hp : H) (nx : Nat) : AO → Option (AV × H × Nat)
 | .cells [.i r] _ => some (.b (!decide (k.role = r)), hp, nx + 20)
 | _ => none
noncomputable def of1G : List AV → H → Nat → Option (AV × H × Nat)
 | [.agg xs, .op b 0], hp, nx => aK (kyOf xs) fun k => aK (hp b) (of1O k hp nx)
 | _, _, _ => none
theorem of1G_eq (xs : List AV) (b : Nat) (hp : H) (nx : Nat) : of1G [.agg xs, .op b 0] hp nx = aK (kyOf xs) fun k => aK (hp b) (of1O k hp nx) := (rfl)
theorem of1O_c (k : KY) (hp : H) (nx : Nat) (r : Int) (mt : Bool) : of1O k hp nx (.cells [.i r] mt) = some (.b (!decide (k.role = r)), hp, nx + 20) := (rfl)
attribute [go_sem] of1G_eq of1O_c kyOf_kyC
theorem of1O_inv {k : KY} {hp : H} {nx : Nat} {o : AO} {z : AV × H × Nat} (h : of1O k hp nx o = some z) : ∃ r mt, o = .cells [.i r] mt ∧ (.b (!decide (k.role = r)), hp, nx + 20) = z := by
 unfold of1O at h
 split at h
 ·rename_i r mt; exact ⟨r, mt, rfl, Option.some.inj h⟩
 ·cases h
theorem of1_ok : cQ Tryd.prog GLh 39 of1G := by
 refine gF Tryd.func39 (aT rfl) ?_
 intro args hp nx r hp' nx' hg
 unfold of1G at hg
 split at hg
 ·rename_i xs b
  replace hg := aJ hg; obtain ⟨k, hk, hg⟩ := hg
  have := kyOf_inv hk; subst this
  replace hg := aJ hg; obtain ⟨o, ho, hg⟩ := hg
  obtain ⟨r, mt, rfl, e⟩ := of1O_inv hg
  simp only [Prod.mk.injEq] at e; obtain ⟨rfl, rfl, rfl⟩ := e
  refine ⟨Nat.le_of_ble_eq_true rfl, by omega, fun hnone => ?_⟩
  have hlt : ∀ k o, hp k = some o → k < nx := fun k o hk => gI hnone hk
  have hb := hlt _ _ ho
  refine aA rfl ?_
  refine aC (Γ := aL) [1, 2] (aD _ _) rfl rfl rfl (fun K hK => ?_)
  simp (disch := omega) only [Tryd.f39, go_sem, Nat.reduceAdd, ↓reduceIte]
  refine hK _ ?_
  refine aB ?_
  refine aA rfl ?_
  refine aC (Γ := aL) [3] (aD _ _) rfl rfl rfl (fun K hK => ?_)
  simp (disch := omega) only [Tryd.f39, go_sem, Nat.reduceAdd, Nat.reduceLT, ↓reduceIte, ho, kyC, List.head?_cons, List.drop_succ_cons, List.drop_zero]
  refine hK _ ?_
  refine aB ?_
  refine aS rfl ?_
  refine ⟨rfl, fun j o h => ?_, by simp only; omega⟩
  have := hlt j o h
  simp (disch := omega) only [aV, bY, ↓reduceIte]
  exact h
 ·cases hg
theorem okh32 : bX Tryd.prog GLh 39 (.heap of1G) := ⟨⟨_, Tryd.func39, rfl, rfl⟩, of1_ok⟩
noncomputable def ixO2 (L : List KY) (hp : H) (nx : Nat) : AO → Option (AV × H × Nat)
 | .cells [.i r] _ => some (.i (ixV r L 0), hp, nx + 40 + 60 * L.length)
 | _ => none
noncomputable def ixO (n b : Nat) (hp : H) (nx : Nat) : AO → Option (AV × H × Nat)
 | .cells xs _ => aK (kysU xs) fun L => aN (L.length = n ∧ n ≤ 1000) (aK (hp b) (ixO2 L hp nx))
 | _ => none
noncomputable def ixG : List AV → H → Nat → Option (AV × H × Nat)
 | [.os s 0 n 15 _, .fn 39 [.op b 0]], hp, nx => aK (hp s) (ixO n b hp nx)
 | [.v (.slice none 0 0), .fn 39 [.op _ 0]], hp, nx => some (.i (-1), hp, nx + 40)
 | _, _, _ => none
theorem ixG_os (s n b : Nat) (g : Bool) (hp : H) (nx : Nat) : ixG [.os s 0 n 15 g, .fn 39 [.op b 0]] hp nx = aK (hp s) (ixO n b hp nx) := (rfl)
theorem ixG_nil (b : Nat) (hp : H) (nx : Nat) : ixG [.v (.slice none 0 0), .fn 39 [.op b 0]] hp nx = some (.i (-1), hp, nx + 40) := (rfl)
theorem ixO_c (n b : Nat) (hp : H) (nx : Nat) (xs : List AV) (mt : Bool) : ixO n b hp nx (.cells xs mt) = aK (kysU xs) fun L => aN (L.length = n ∧ n ≤ 1000) (aK (hp b) (ixO2 L hp nx)) := (rfl)
theorem ixO2_c (L : List KY) (hp : H) (nx : Nat) (r : Int) (mt : Bool) : ixO2 L hp nx (.cells [.i r] mt) = some (.i (ixV r L 0), hp, nx + 40 + 60 * L.length) := (rfl)
attribute [go_sem] ixG_os ixG_nil ixO_c ixO2_c
theorem ixO2_inv {L : List KY} {hp : H} {nx : Nat} {o : AO} {z : AV × H × Nat} (h : ixO2 L hp nx o = some z) : ∃ r mt, o = .cells [.i r] mt ∧ (.i (ixV r L 0), hp, nx + 40 + 60 * L.length) = z := by
 unfold ixO2 at h
 split at h
 ·rename_i r mt; exact ⟨r, mt, rfl, Option.some.inj h⟩
 ·cases h
set_option maxHeartbeats 1000000 in
theorem ix_ok : cQ Tryd.prog GLh 46 ixG := by
 refine gF Tryd.func46 (aT rfl) ?_
 intro args hp nx r hp' nx' hg
 unfold ixG at hg
 split at hg
 ·rename_i s n gg b
  replace hg := aJ hg; obtain ⟨o, ho, hg⟩ := hg
  cases o with
  | mapo es mt => cases hg
  | cells xs mt =>
  rw [ixO_c] at hg
  replace hg := aJ hg; obtain ⟨L, hL, hg⟩ := hg
  have := kysU_inv hL; subst this
  replace hg := aP hg; obtain ⟨⟨hn, hbig⟩, hg⟩ := hg
  replace hg := aJ hg; obtain ⟨o2, ho2, hg⟩ := hg
  obtain ⟨r, mt2, rfl, e⟩ := ixO2_inv hg
  simp only [Prod.mk.injEq] at e; obtain ⟨rfl, rfl, rfl⟩ := e
  refine ⟨Nat.le_of_ble_eq_true rfl, by omega, fun hnone => ?_⟩
  have hlt : ∀ k o, hp k = some o → k < nx := fun k o hk => gI hnone hk
  have hb := hlt _ _ ho2
  have hs := hlt _ _ ho
  have hkl := iJ L
  refine aA rfl ?_
  refine aC (Γ := aL) [0, 1] (aD _ _) rfl rfl rfl (fun K hK => ?_)
  simp (disch := omega) only [Tryd.f46, go_sem, Int.reduceNeg, ↓reduceIte]
  refine hK _ ?_
  refine aB ?_
  refine aA rfl ?_
  refine aA rfl ?_
  refine aC (Γ := aL) [0, 1, 7, 8] (aD _ _) rfl rfl rfl (fun K hK => ?_)
  simp (disch := omega) only [Tryd.f46, go_sem, Nat.reduceAdd, Int.reduceNeg, ↓reduceIte]
  refine hK _ ?_
  refine aB ?_
  refine aR 0 rfl rfl ?_
  refine bR (fun g : Nat => { fr := [(0, .os s 0 n 15 gg), (1, .fn 39 [.op b 0]), (7, .i n), (8, .i g)], hp := hp, nx := 0, cx := nx + 30 + 50 * g }) (fun g => g ≤ n ∧ ixV r L 0 = ixV r (L.drop g) g) (fun g => n - g) rfl ⟨0, ⟨Nat.zero_le _, rfl⟩, ⟨fun _ => .inr rfl, fun j o h => h, by simp only; omega⟩⟩ ?_
  rintro g ⟨hg1, hg2⟩ n0
  simp only at hg1 hg2 ⊢
  refine aA rfl ?_
  refine aC (Γ := aL) [9, 0, 1, 7, 8] (aD _ _) rfl rfl rfl (fun K hK => ?_)
  simp (disch := omega) only [Tryd.f46, go_sem, Int.reduceNeg, ↓reduceIte]
  refine hK _ ?_
  refine aB ?_
  refine aA rfl ?_
  refine aW (.tmp 9) rfl rfl rfl (fun h => ?_) (fun h => ?_)
  ·skip
   refine aI rfl ?_
   have hgl : g < L.length := by omega
   have hst := ixV_step r L g hgl
   have hrow := kys_row L g hgl
   have hdl : 15 ≤ (List.drop (15 * g) (hP L)).length := by rw [List.length_drop]; omega
   have e15 : g * 15 = 15 * g := by omega
   refine aQ rfl ?_
   refine aB ?_
   refine aA rfl ?_
   refine aR 1 rfl rfl ?_
   refine aA rfl ?_
   refine aC (Γ := aL) [0, 1, 5, 7, 8] (aD _ _) rfl rfl rfl (fun K hK => ?_)
   simp (disch := omega) only [Tryd.f46, go_sem, Nat.reduceAdd, Int.reduceNeg, ↓reduceIte]
   refine hK _ ?_
   refine aB ?_
   refine aA rfl ?_
   refine aC (Γ := bC [(39, .heap of1G)]) [16, 0, 1, 5, 7, 8] (aH okh32 aO) rfl rfl rfl (fun K hK => ?_)
   simp (disch := omega) only [Tryd.f46, go_sem, Nat.reduceAdd, Int.reduceNeg, ↓reduceIte, ho, ho2, hrow, hdl, e15]
   refine hK _ ?_
   refine aB ?_
   refine awp_ifE (.tmp 16) rfl rfl rfl (fun h => ?_) (fun h => ?_)
   ·skip
    refine aI rfl ?_
    rw [if_neg h] at hst
    refine aA rfl ?_
    refine aC (Γ := aL) [4] (aD _ _) rfl rfl rfl (fun K hK => ?_)
    simp (disch := omega) only [Tryd.f46, go_sem, Nat.reduceAdd, Int.reduceNeg, ↓reduceIte]
    refine hK _ ?_
    refine aB ?_
    refine aS rfl ?_
    refine bN (bI (dF (bN (bI ?_))))
    exact ⟨by rw [hg2, hst]; rfl, fun j o h => h, by simp only; omega⟩
   ·skip
    refine aI rfl ?_
    rw [if_pos h] at hst
    refine aQ rfl ?_
    refine bU (aB ?_)
    refine aC (Γ := aL) [0, 1, 7, 8] (aD _ _) rfl rfl rfl (fun K hK => ?_)
    simp (disch := omega) only [Tryd.f46, go_sem, Nat.reduceAdd, Int.reduceNeg, ↓reduceIte]
    refine hK _ ?_
    refine bT ?_
    exact ⟨g + 1, ⟨by omega, by rw [hg2, hst]⟩, by omega, ⟨fun _ => .inr (by simp only [Int.natCast_add, Int.natCast_one]), fun j o h => h, by simp only; omega⟩⟩
  ·skip
   refine aI rfl ?_
   refine bF 0 rfl rfl ?_
   refine aY (aZ (bE ?_))
   refine aB ?_
   refine aA rfl ?_
   obtain rfl : g = L.length := by omega
   rw [List.drop_length] at hg2
   refine aC (Γ := aL) [4] (aD _ _) rfl rfl rfl (fun K hK => ?_)
   simp (disch := omega) only [Tryd.f46, go_sem, Int.reduceNeg, ↓reduceIte]
   refine hK _ ?_
   refine aB ?_
   refine aS rfl ?_
   exact ⟨by rw [hg2]; rfl, fun j o h => h, by simp only; omega⟩
 ·rename_i b
  simp only [Option.some.injEq, Prod.mk.injEq] at hg; obtain ⟨rfl, rfl, rfl⟩ := hg
  refine ⟨Nat.le_of_ble_eq_true rfl, by omega, fun hnone => ?_⟩
  refine aA rfl ?_
  refine aC (Γ := aL) [0, 1] (aD _ _) rfl rfl rfl (fun K hK => ?_)
  simp (disch := omega) only [Tryd.f46, go_sem, Int.reduceNeg, ↓reduceIte]
  refine hK _ ?_
  refine aB ?_
  refine aA rfl ?_
  refine aA rfl ?_
  refine aC (Γ := aL) [0, 1, 7, 8] (aD _ _) rfl rfl rfl (fun K hK => ?_)
  simp (disch := omega) only [Tryd.f46, go_sem, Nat.reduceAdd, Int.reduceNeg, ↓reduceIte]
  refine hK _ ?_
  refine aB ?_
  refine aR 0 rfl rfl ?_
  refine bR (fun u : Unit => { fr := [(0, .v (.slice none 0 0)), (1, .fn 39 [.op b 0]), (7, .i 0), (8, .i 0)], hp := hp, nx := 0, cx := nx + 30 }) (fun u => True) (fun u => 0) rfl ⟨(), trivial, ⟨fun _ => .inr rfl, fun j o h => h, by simp only; omega⟩⟩ ?_
  rintro u hu n0
  simp only at hu ⊢
  refine aA rfl ?_
  refine aC (Γ := aL) [9, 0, 1, 7, 8] (aD _ _) rfl rfl rfl (fun K hK => ?_)
  simp (disch := omega) only [Tryd.f46, go_sem, Int.reduceLT, Int.reduceNeg, ↓reduceIte]
  refine hK _ ?_
  refine aB ?_
  refine aA rfl ?_
  refine eC (.tmp 9) rfl rfl rfl (fun h => ?_) (fun h => ?_)
  ·skip
   refine aI rfl ?_
   cases h
  ·skip
   refine aI rfl ?_
   refine bF 0 rfl rfl ?_
   refine aY (aZ (bE ?_))
   refine aB ?_
   refine aA rfl ?_
   refine aC (Γ := aL) [4] (aD _ _) rfl rfl rfl (fun K hK => ?_)
   simp (disch := omega) only [Tryd.f46, go_sem, Int.reduceNeg, ↓reduceIte]
   refine hK _ ?_
   refine aB ?_
   refine aS rfl ?_
   exact ⟨rfl, fun j o h => h, by simp only; omega⟩
 ·cases hg
theorem okh37 : bX Tryd.prog GLh 46 (.heap ixG) := ⟨⟨_, Tryd.func46, rfl, rfl⟩, ix_ok⟩
end Go.AX
namespace Go.AX
open Go Go.Proofs
set_option maxRecDepth 8000
theorem kyOf_k (k : KY) : kyOf [.w32 k.id, .i k.role, .i k.st, .w8 k.seed.a, .w8 k.seed.b, .w8 k.seed.c, .w8 k.seed.d, .w8 k.seed.e, .w8 k.seed.f, .w8 k.seed.g, .w8 k.seed.h, .i k.h, .w32 k.next, .w32 k.since, .w32 k.seen] = some k := kyOf_kyC k
attribute [go_sem] kyOf_k
theorem rep_0 (zs : List AV) : rep 0 zs = [] := (rfl)
theorem isK39 : isSlT Tryd.prog 39 = true := by kernel_rfl
def clkG : List AV → H → Nat → Option (AV × H × Nat)
 | [.sl n xs], hp, nx => aN (0 < n ∧ n ≤ 1000 ∧ xs.length = n * 15 ∧ gH xs = true) (some (.os (nx + 5) 0 n 15 true, upd hp (nx + 5) (.cells xs true), nx + 20))
 | _, _, _ => none
theorem clkG_sl (n : Nat) (xs : List AV) (hp : H) (nx : Nat) : clkG [.sl n xs] hp nx = aN (0 < n ∧ n ≤ 1000 ∧ xs.length = n * 15 ∧ gH xs = true) (some (.os (nx + 5) 0 n 15 true, upd hp (nx + 5) (.cells xs true), nx + 20)) := (rfl)
attribute [go_sem] clkG_sl
theorem clk_ok : cQ Tryd.prog GLh 38 clkG := by
 refine gF Tryd.func38 (aT rfl) ?_
 intro args hp nx r hp' nx' hg
 unfold clkG at hg
 split at hg
 ·rename_i n xs
  replace hg := aP hg; obtain ⟨⟨h0, h1, hlen, hno⟩, hg⟩ := hg
  simp only [Option.some.injEq, Prod.mk.injEq] at hg; obtain ⟨rfl, rfl, rfl⟩ := hg
  refine ⟨Nat.le_of_ble_eq_true rfl, by omega, fun hnone => ?_⟩
  have hlt : ∀ k o, hp k = some o → k < nx := fun k o hk => gI hnone hk
  have ht : xs.take (n * 15) = xs := List.take_of_length_le (by omega)
  refine aA rfl ?_
  refine aC (Γ := aL) [0] (aD _ _) rfl rfl rfl (fun K hK => ?_)
  simp (disch := omega) only [Tryd.f38, go_sem, ↓reduceIte]
  refine hK _ ?_
  refine aB ?_
  refine aA rfl ?_
  refine aA rfl ?_
  refine aC (Γ := aL) [4, 0] (aD _ _) rfl rfl rfl (fun K hK => ?_)
  simp (disch := omega) only [Tryd.f38, go_sem, Nat.reduceAdd, ↓reduceIte, isK39, h0, true_and]
  refine hK _ ?_
  refine aB ?_
  refine eC (.tmp 4) rfl rfl rfl (fun h => ?_) (fun h => ?_)
  ·skip
   refine aI rfl ?_
   cases h
  ·skip
   refine aI rfl ?_
   refine aQ rfl ?_
   refine aB ?_
   refine aA rfl ?_
   refine aC (Γ := aL) [2] (aD _ _) rfl rfl rfl (fun K hK => ?_)
   simp (disch := omega) only [Tryd.f38, go_sem, Nat.reduceAdd, Nat.reduceLeDiff, ↓reduceIte, rep_0, List.length_nil, List.nil_append, hlen, List.drop_zero, hno, Nat.zero_add]
   refine hK _ ?_
   refine aB ?_
   refine aS rfl ?_
   refine ⟨rfl, fun j o hj => ?_, by simp only; omega⟩
   simp only [bJ, eV] at hj ⊢
   by_cases e : j = nx + 5
   ·rw [if_pos e] at hj; rw [if_pos (by omega)]; exact hj
   ·rw [if_neg e] at hj
    have := hlt j o hj
    rw [if_neg (by omega), if_neg (by omega), if_neg (by omega)]; exact hj
 ·cases hg
theorem okh31 : bX Tryd.prog GLh 38 (.heap clkG) := ⟨⟨_, Tryd.func38, rfl, rfl⟩, clk_ok⟩
noncomputable def dfO2 (s : Nat) (L : List KY) (hp : H) (nx : Nat) : AO → Option (AV × H × Nat)
 | .cells [.i r] _ => some (.os s 0 (gP r L).length 15 true, upd hp s (.cells (hP (dfL r L)) true), nx + 200 + 200 * L.length)
 | _ => none
noncomputable def dfO (s n b : Nat) (hp : H) (nx : Nat) : AO → Option (AV × H × Nat)
 | .cells xs true => aK (kysU xs) fun L => aN (L.length = n ∧ n ≤ 1000 ∧ b ≠ s) (aK (hp b) (dfO2 s L hp nx))
 | _ => none
noncomputable def dfG : List AV → H → Nat → Option (AV × H × Nat)
 | [.os s 0 n 15 true, .fn 39 [.op b 0]], hp, nx => aK (hp s) (dfO s n b hp nx)
 | [.v (.slice none 0 0), .fn 39 [.op _ 0]], hp, nx => some (.v (.slice none 0 0), hp, nx + 200)
 | _, _, _ => none
theorem dfG_os (s n b : Nat) (hp : H) (nx : Nat) : dfG [.os s 0 n 15 true, .fn 39 [.op b 0]] hp nx = aK (hp s) (dfO s n b hp nx) := (rfl)
theorem dfG_nil (b : Nat) (hp : H) (nx : Nat) : dfG [.v (.slice none 0 0), .fn 39 [.op b 0]] hp nx = some (.v (.slice none 0 0), hp, nx + 200) := (rfl)
theorem dfO_c (s n b : Nat) (hp : H) (nx : Nat) (xs : List AV) : dfO s n b hp nx (.cells xs true) = aK (kysU xs) fun L => aN (L.length = n ∧ n ≤ 1000 ∧ b ≠ s) (aK (hp b) (dfO2 s L hp nx)) := (rfl)
theorem dfO2_c (s : Nat) (L : List KY) (hp : H) (nx : Nat) (r : Int) (mt : Bool) : dfO2 s L hp nx (.cells [.i r] mt) = some (.os s 0 (gP r L).length 15 true, upd hp s (.cells (hP (dfL r L)) true), nx + 200 + 200 * L.length) := (rfl)
attribute [go_sem] dfG_os dfG_nil dfO_c dfO2_c
theorem dfO2_inv {s : Nat} {L : List KY} {hp : H} {nx : Nat} {o : AO} {z : AV × H × Nat} (h : dfO2 s L hp nx o = some z) : ∃ r mt, o = .cells [.i r] mt ∧ (.os s 0 (gP r L).length 15 true, upd hp s (.cells (hP (dfL r L)) true), nx + 200 + 200 * L.length) = z := by
 unfold dfO2 at h
 split at h
 ·rename_i r mt; exact ⟨r, mt, rfl, Option.some.inj h⟩
 ·cases h
theorem dfO_inv {s n b : Nat} {hp : H} {nx : Nat} {o : AO} {z : AV × H × Nat} (h : dfO s n b hp nx o = some z) : ∃ L, o = .cells (hP L) true ∧ (L.length = n ∧ n ≤ 1000 ∧ b ≠ s) ∧ aK (hp b) (dfO2 s L hp nx) = some z := by
 unfold dfO at h
 split at h
 ·replace h := aJ h; obtain ⟨L, hL, h⟩ := h
  have := kysU_inv hL; subst this
  replace h := aP h; obtain ⟨h1, h⟩ := h
  exact ⟨L, rfl, h1, h⟩
 ·cases h
theorem dfL_all {r : Int} {L : List KY} (h : gP r L = L) : dfL r L = L := by rw [dfL, h, Nat.sub_self]; exact List.append_nil _
set_option maxHeartbeats 1000000 in
theorem df_ok : cQ Tryd.prog GLh 37 dfG := by
 refine gF Tryd.func37 (aT rfl) ?_
 intro args hp nx r hp' nx' hg
 unfold dfG at hg
 split at hg
 ·rename_i s n b
  replace hg := aJ hg; obtain ⟨o, ho, hg⟩ := hg
  obtain ⟨L, rfl, ⟨hn, hbig, hbs⟩, hg⟩ := dfO_inv hg
  replace hg := aJ hg; obtain ⟨o2, ho2, hg⟩ := hg
  obtain ⟨r, mt2, rfl, e⟩ := dfO2_inv hg
  simp only [Prod.mk.injEq] at e; obtain ⟨rfl, rfl, rfl⟩ := e
  refine ⟨Nat.le_of_ble_eq_true rfl, by omega, fun hnone => ?_⟩
  have hlt : ∀ k o, hp k = some o → k < nx := fun k o hk => gI hnone hk
  have hb := hlt _ _ ho2
  have hs := hlt _ _ ho
  have hkl := iJ L
  have hrl := jP r L
  refine aA rfl ?_
  refine aC (Γ := aL) [0, 1] (aD _ _) rfl rfl rfl (fun K hK => ?_)
  simp (disch := omega) only [Tryd.f37, go_sem, Int.reduceNeg, ↓reduceIte]
  refine hK _ ?_
  refine aB ?_
  refine aA rfl ?_
  refine aC (Γ := bC [(46, .heap ixG)]) [0, 1, 5] (aH okh37 aO) rfl rfl rfl (fun K hK => ?_)
  simp (disch := omega) only [Tryd.f37, go_sem, Nat.reduceAdd, Int.reduceNeg, ↓reduceIte, ho, ho2, hn, hbig]
  refine hK _ ?_
  refine aB ?_
  rcases ixV_spec r L 0 with ⟨i1, i2⟩ | ⟨i, hi, i1, i2⟩
  ·skip
   rw [i1]
   refine aA rfl ?_
   refine aA rfl ?_
   refine aC (Γ := aL) [12, 0, 1, 5] (aD _ _) rfl rfl rfl (fun K hK => ?_)
   simp (disch := omega) only [Tryd.f37, go_sem, Nat.reduceAdd, Int.reduceNeg, ↓reduceIte]
   refine hK _ ?_
   refine aB ?_
   refine eC (.tmp 12) rfl rfl rfl (fun h => ?_) (fun h => ?_)
   ·skip
    refine aI rfl ?_
    refine aA rfl ?_
    refine aC (Γ := aL) [4] (aD _ _) rfl rfl rfl (fun K hK => ?_)
    simp (disch := omega) only [Tryd.f37, go_sem, Nat.reduceAdd, Int.reduceNeg, ↓reduceIte]
    refine hK _ ?_
    refine aB ?_
    refine aS rfl ?_
    refine bI ?_
    rw [i2, dfL_all i2, hn]
    refine ⟨rfl, fun j o h => ?_, by simp only; omega⟩
    simp only [bJ] at h
    split at h
    ·rename_i e; subst e; show hp j = _; rw [ho]; exact h
    ·exact h
   ·skip
    refine aI rfl ?_
    cases h
  ·skip
   rw [Nat.zero_add] at i1
   rw [i1]
   refine aA rfl ?_
   refine aA rfl ?_
   refine aC (Γ := aL) [12, 0, 1, 5] (aD _ _) rfl rfl rfl (fun K hK => ?_)
   simp (disch := omega) only [Tryd.f37, go_sem, Nat.reduceAdd, Int.reduceNeg, reduceCtorEq, ↓reduceIte]
   refine hK _ ?_
   refine aB ?_
   refine eC (.tmp 12) rfl rfl rfl (fun h => ?_) (fun h => ?_)
   ·skip
    refine aI rfl ?_
    cases h
   ·skip
    refine aI rfl ?_
    have hI : (gP r (L.take (i + 1))).length = i := by rw [i2, List.length_take]; omega
    have hrd : rowD r L (i + 1) = L := by rw [rowD, hI, i2]; exact List.take_append_drop _ _
    refine aQ rfl ?_
    refine aB ?_
    refine aA rfl ?_
    refine aA rfl ?_
    refine aC (Γ := aL) [0, 1, 5, 6] (aD _ _) rfl rfl rfl (fun K hK => ?_)
    simp (disch := omega) only [Tryd.f37, go_sem, Nat.reduceAdd, Int.reduceNeg, ↓reduceIte]
    refine hK _ ?_
    refine aB ?_
    refine aR 0 rfl rfl ?_
    refine bR (fun p : KC => { fr := [(0, .os s 0 n 15 true), (1, .fn 39 [.op b 0]), (5, .i (gP r (L.take p.k)).length), (6, .i p.k)], hp := upd hp s (.cells (hP (rowD r L p.k)) true), nx := 0, cx := p.c }) (fun p => p.k ≤ n ∧ p.c ≤ nx + 100 + 60 * n + 60 * p.k ∧ nx ≤ p.c) (fun p => n - p.k) rfl ⟨⟨i + 1, _⟩, ⟨by simp only; omega, by simp only; omega, by simp only; omega⟩, ⟨fun x => .inr (by simp only [hI, Int.natCast_add, Int.natCast_one]), fun j o h => by { simp only [hrd, bJ] at h; split at h; · { rename_i e; subst e; show hp j = _; rw [ho]; exact h }; · exact h }, Nat.le_refl _⟩⟩ ?_
    rintro ⟨k, c⟩ ⟨hk, hc, hc2⟩ n0
    simp only at hk hc hc2 ⊢
    refine aA rfl ?_
    refine aA rfl ?_
    refine aC (Γ := aL) [19, 0, 1, 5, 6] (aD _ _) rfl rfl rfl (fun K hK => ?_)
    simp (disch := omega) only [Tryd.f37, go_sem, Nat.reduceAdd, Int.reduceNeg, ↓reduceIte]
    refine hK _ ?_
    refine aB ?_
    refine aW (.tmp 19) rfl rfl rfl (fun h => ?_) (fun h => ?_)
    ·skip
     refine aI rfl ?_
     have hkL : k < L.length := by omega
     have hrw := rowD_len r L k (by omega)
     have hat := rowD_at r L k
     have hrow := kys_row (rowD r L k) k (by omega)
     rw [hat] at hrow
     have hkr := iJ (rowD r L k)
     have hdl : 15 ≤ (List.drop (15 * k) (hP (rowD r L k))).length := by rw [List.length_drop]; omega
     have e15 : k * 15 = 15 * k := by omega
     have hlr := role_take_le r L k
     refine aQ rfl ?_
     refine aB ?_
     refine aA rfl ?_
     refine aR 1 rfl rfl ?_
     refine aA rfl ?_
     refine aC (Γ := aL) [0, 1, 5, 6, 7] (aD _ _) rfl rfl rfl (fun K hK => ?_)
     simp (disch := omega) only [Tryd.f37, go_sem, Nat.reduceAdd, Nat.reduceLeDiff, Int.reduceNeg, ↓reduceIte, hrow, hdl, e15]
     refine hK _ ?_
     refine aB ?_
     refine aA rfl ?_
     refine aC (Γ := bC [(39, .heap of1G)]) [29, 0, 1, 5, 6, 7] (aH okh32 aO) rfl rfl rfl (fun K hK => ?_)
     simp (disch := omega) only [Tryd.f37, go_sem, Nat.reduceAdd, Nat.reduceLeDiff, Int.reduceNeg, ↓reduceIte, ho2, kyC, Bool.not_not, List.take_succ_cons, List.take_zero, List.drop_zero]
     refine hK _ ?_
     refine aB ?_
     refine aW (.tmp 29) rfl rfl rfl (fun h => ?_) (fun h => ?_)
     ·skip
      refine aI rfl ?_
      have hnx := role_next r L k hkL
      rw [if_pos h] at hnx
      have hnl : (gP r (L.take (k + 1))).length = (gP r (L.take k)).length + 1 := by rw [hnx, List.length_append]; rfl
      have hput : dV (hP (rowD r L k)) (15 * (gP r (L.take k)).length) (kyC (kyA L k)) = hP (rowD r L (k + 1)) := by
       rw [rowD_y r L k hkL h]
       exact kys_put (rowD r L k) _ (kyA L k) (by omega)
      have e16 : (gP r (L.take k)).length * 15 = 15 * (gP r (L.take k)).length := by omega
      refine aA rfl ?_
      refine aC (Γ := aL) [0, 1, 5, 6] (aD _ _) rfl rfl rfl (fun K hK => ?_)
      simp (disch := omega) only [Tryd.f37, go_sem, Nat.reduceAdd, Nat.reduceLeDiff, Int.reduceNeg, ↓reduceIte, hkr, e16, List.take_succ_cons, List.take_zero, List.drop_zero]
      refine hK _ ?_
      refine aB ?_
      refine aC (Γ := aL) [0, 1, 5, 6] (aD _ _) rfl rfl rfl (fun K hK => ?_)
      simp (disch := omega) only [Tryd.f37, go_sem, Nat.reduceAdd, Int.reduceNeg, ↓reduceIte]
      refine hK _ ?_
      refine bU (aB ?_)
      refine aC (Γ := aL) [0, 1, 5, 6] (aD _ _) rfl rfl rfl (fun K hK => ?_)
      simp (disch := omega) only [Tryd.f37, go_sem, Nat.reduceAdd, Int.reduceNeg, ↓reduceIte]
      refine hK _ ?_
      refine bT ?_
      refine ⟨⟨k + 1, _⟩, ⟨by simp only; omega, by simp only; omega, by simp only; omega⟩, by simp only; omega, ⟨fun x => .inr (by simp only [hnl, Int.natCast_add, Int.natCast_one]), fun j o hj => ?_, Nat.le_refl _⟩⟩
      simp only [bJ] at hj ⊢
      by_cases e : j = s
      ·rw [if_pos e] at hj ⊢; rw [← hput] at hj; exact hj
      ·rw [if_neg e] at hj ⊢; have := hlt j o hj; rw [if_neg (by omega), if_neg e]; exact hj
     ·skip
      refine aI rfl ?_
      have hnl := rowD_n r L k hkL h
      have hnx := role_next r L k hkL
      rw [if_neg h, List.append_nil] at hnx
      refine aQ rfl ?_
      refine bU (aB ?_)
      refine aC (Γ := aL) [0, 1, 5, 6] (aD _ _) rfl rfl rfl (fun K hK => ?_)
      simp (disch := omega) only [Tryd.f37, go_sem, Nat.reduceAdd, Int.reduceNeg, ↓reduceIte]
      refine hK _ ?_
      refine bT ?_
      refine ⟨⟨k + 1, _⟩, ⟨by simp only; omega, by simp only; omega, by simp only; omega⟩, by simp only; omega, ⟨fun x => .inr (by simp only [hnx, Int.natCast_add, Int.natCast_one]), fun j o hj => ?_, Nat.le_refl _⟩⟩
      simp only [bJ] at hj ⊢
      by_cases e : j = s
      ·rw [if_pos e] at hj; rw [if_neg (by omega), if_pos e, ← hnl]; exact hj
      ·rw [if_neg e] at hj; have := hlt j o hj; rw [if_neg (by omega), if_neg e]; exact hj
    ·skip
     refine aI rfl ?_
     refine bF 0 rfl rfl ?_
     refine aY (aZ (bE ?_))
     refine aB ?_
     refine aA rfl ?_
     obtain rfl : k = n := by omega
     subst hn
     have hclr := kys_clr r L
     have hle : 15 * (gP r L).length + 15 * (L.length - (gP r L).length) ≤ (hP (rowD r L L.length)).length := by
      rw [iJ, rowD_len r L _ (Nat.le_refl _)]; omega
     have e17 : (gP r L).length * 15 = 15 * (gP r L).length := by omega
     have e18 : (L.length - (gP r L).length) * 15 = 15 * (L.length - (gP r L).length) := by omega
     have hz : ([.w32 0#32, .i 0, .i 0, .w8 0#8, .w8 0#8, .w8 0#8, .w8 0#8, .w8 0#8, .w8 0#8, .w8 0#8, .w8 0#8, .i 0, .w32 0#32, .w32 0#32, .w32 0#32] : List AV) = kyC ky0 := rfl
     rw [List.take_length]
     refine aC (Γ := aL) [0, 5] (aD _ _) rfl rfl rfl (fun K hK => ?_)
     simp (disch := omega) only [Tryd.f37, go_sem, Nat.reduceAdd, Int.reduceNeg, ↓reduceIte, e17, e18, hle, hz, hclr]
     refine hK _ ?_
     refine aB ?_
     refine aA rfl ?_
     refine aC (Γ := aL) [4] (aD _ _) rfl rfl rfl (fun K hK => ?_)
     simp (disch := omega) only [Tryd.f37, go_sem, Nat.reduceAdd, Int.reduceLE, Int.reduceNeg, Int.reduceToNat, ↓reduceIte]
     refine hK _ ?_
     refine aB ?_
     refine aS rfl ?_
     refine ⟨rfl, fun j o hj => ?_, by simp only; omega⟩
     simp only [bJ] at hj ⊢
     by_cases e : j = s
     ·rw [if_pos e] at hj ⊢; exact hj
     ·rw [if_neg e] at hj ⊢; exact hj
 ·simp only [Option.some.injEq, Prod.mk.injEq] at hg; obtain ⟨rfl, rfl, rfl⟩ := hg
  refine ⟨Nat.le_of_ble_eq_true rfl, by omega, fun hnone => ?_⟩
  refine aA rfl ?_
  refine aC (Γ := aL) [0, 1] (aD _ _) rfl rfl rfl (fun K hK => ?_)
  simp (disch := omega) only [Tryd.f37, go_sem, Int.reduceNeg, ↓reduceIte]
  refine hK _ ?_
  refine aB ?_
  refine aA rfl ?_
  refine aC (Γ := bC [(46, .heap ixG)]) [0, 1, 5] (aH okh37 aO) rfl rfl rfl (fun K hK => ?_)
  simp (disch := omega) only [Tryd.f37, go_sem, Nat.reduceAdd, Int.reduceNeg, ↓reduceIte]
  refine hK _ ?_
  refine aB ?_
  refine aA rfl ?_
  refine aA rfl ?_
  refine aC (Γ := aL) [12, 0, 1, 5] (aD _ _) rfl rfl rfl (fun K hK => ?_)
  simp (disch := omega) only [Tryd.f37, go_sem, Nat.reduceAdd, Int.reduceNeg, ↓reduceIte]
  refine hK _ ?_
  refine aB ?_
  refine eC (.tmp 12) rfl rfl rfl (fun h => ?_) (fun h => ?_)
  ·skip
   refine aI rfl ?_
   refine aA rfl ?_
   refine aC (Γ := aL) [4] (aD _ _) rfl rfl rfl (fun K hK => ?_)
   simp (disch := omega) only [Tryd.f37, go_sem, Nat.reduceAdd, Int.reduceNeg, ↓reduceIte]
   refine hK _ ?_
   refine aB ?_
   refine aS rfl ?_
   refine bI ?_
   exact ⟨rfl, fun j o h => h, by simp only; omega⟩
  ·skip
   refine aI rfl ?_
   cases h
 ·cases hg
theorem okh30 : bX Tryd.prog GLh 37 (.heap dfG) := ⟨⟨_, Tryd.func37, rfl, rfl⟩, df_ok⟩
noncomputable def ofG : List AV → Option AV
 | [.sl n xs, .i r] => aK (kysU xs) fun L => aN (L.length = n ∧ 0 < n ∧ n ≤ 1000) (some (.sl (gP r L).length (hP (gP r L))))
 | _ => none
theorem ofG_sl (n : Nat) (xs : List AV) (r : Int) : ofG [.sl n xs, .i r] = aK (kysU xs) fun L => aN (L.length = n ∧ 0 < n ∧ n ≤ 1000) (some (.sl (gP r L).length (hP (gP r L)))) := (rfl)
attribute [go_sem] ofG_sl
theorem noOs_app (xs ys : List AV) (h : gH xs = true) (h2 : gH ys = true) : gH (xs ++ ys) = true := by
 unfold gH at h h2 ⊢
 rw [List.any_append]
 cases ha : xs.any isOs <;> cases hb : ys.any isOs <;> simp_all
theorem noOs_kys : ∀ L : List KY, gH (hP L) = true
 | [] => rfl
 | _ :: t => noOs_app _ _ rfl (noOs_kys t)
set_option maxHeartbeats 1000000 in
theorem of_ok : cL Tryd.prog GLh 23 ofG := by
 refine cC Tryd.func23 (aT rfl) ?_
 intro args r hg
 unfold ofG at hg
 split at hg
 ·rename_i n xs role
  replace hg := aJ hg; obtain ⟨L, hL, hg⟩ := hg
  have := kysU_inv hL; subst this
  replace hg := aP hg; obtain ⟨⟨hn, h0, hbig⟩, hg⟩ := hg
  obtain rfl := Option.some.inj hg
  refine ⟨Nat.le_of_ble_eq_true rfl, fun nx => ?_⟩
  have hno := noOs_kys L
  have hkl : (hP L).length = n * 15 := by rw [iJ]; omega
  have hrl := jP role L
  have hdl : (hP (dfL role L)).length = 15 * L.length := by rw [iJ, dfL, List.length_append, List.length_replicate]; omega
  have htk : (hP (dfL role L)).take ((gP role L).length * 15) = hP (gP role L) := by
   rw [dfL, kysC_app]
   exact List.take_left' (by rw [iJ]; omega)
  refine aA rfl ?_
  refine aC (Γ := aL) [0, 3] (aD _ _) rfl rfl rfl (fun K hK => ?_)
  simp (disch := omega) only [Tryd.f23, go_sem, Nat.reduceAdd, ↓reduceIte]
  refine hK _ ?_
  refine aB ?_
  refine aA rfl ?_
  refine aC (Γ := bC [(38, .heap clkG), (37, .heap dfG)]) [4] (aH okh31 (aH okh30 aO)) rfl rfl rfl (fun K hK => ?_)
  simp (disch := omega) only [Tryd.f23, go_sem, Nat.reduceAdd, ↓reduceIte, hno, hkl, h0, hbig, hn]
  refine hK _ ?_
  refine aB ?_
  refine awp_sl 4 (nx + 2 + 5 + 5) 0 _ 15 rfl (by rw [bJ, if_pos rfl]) (by omega) ?_
  rw [List.drop_zero, htk]
  refine aS rfl ?_
  simp (disch := omega) only [cN, bV, bK, bQ, Tryd.f23, go_sem, ↓reduceIte]
 ·cases hg
theorem okh21 : bX Tryd.prog GLh 23 (.pure false ofG) := ⟨⟨_, Tryd.func23, rfl, rfl⟩, of_ok⟩
end Go.AX
namespace Go.AX
open Go Go.Proofs
set_option maxRecDepth 8000
structure DU where
 id : W32
 st : Int
 w : W32
def duC (x : DU) : List AV := [.w32 x.id, .i x.st, .w32 x.w]
def jL : List DU → List AV
 | [] => []
 | x :: r => duC x ++ jL r
theorem dusC_len (l : List DU) : (jL l).length = 3 * l.length := by
 induction l with
 | nil => rfl
 | cons k r ih => rw [jL, List.length_append, ih, List.length_cons]; show 3 + _ = _; omega
theorem dusC_app (l m : List DU) : jL (l ++ m) = jL l ++ jL m := by
 induction l with
 | nil => rfl
 | cons k r ih => rw [List.cons_append, jL, ih, jL, List.append_assoc]
theorem dusC_one (k : DU) : jL [k] = duC k := by rw [jL, jL, List.append_nil]
theorem duC_inj {a b : DU} (h : duC a = duC b) : a = b := by
 obtain ⟨_, _, _⟩ := a
 obtain ⟨_, _, _⟩ := b
 simp only [duC, List.cons.injEq, AV.w32.injEq, AV.i.injEq, and_true] at h
 obtain ⟨rfl, rfl, rfl⟩ := h
 rfl
theorem dusC_inj : ∀ {a b : List DU}, jL a = jL b → a = b
 | [], [], _ => rfl
 | [], y :: s, h => by have := congrArg List.length h; rw [dusC_len, dusC_len] at this; simp at this
 | x :: r, [], h => by have := congrArg List.length h; rw [dusC_len, dusC_len] at this; simp at this
 | x :: r, y :: s, h => by
  rw [jL, jL] at h
  obtain ⟨h1, h2⟩ := List.append_inj h rfl
  rw [duC_inj h1, dusC_inj h2]
open Classical in
noncomputable def dusU (xs : List AV) : Option (List DU) := if h : ∃ L, xs = jL L then some (Classical.choose h) else none
theorem dusU_C (L : List DU) : dusU (jL L) = some L := by
 have hx : ∃ L', jL L = jL L' := ⟨L, rfl⟩
 unfold dusU
 rw [dif_pos hx]
 exact congrArg some (dusC_inj (Classical.choose_spec hx)).symm
attribute [go_sem] dusU_C
def du0 : DU := ⟨0#32, 0, 0#32⟩
def duA (L : List DU) (k : Nat) : DU := L.getD k du0
theorem dus_drop : ∀ (L : List DU) (k : Nat), k < L.length → List.drop (3 * k) (jL L) = duC (duA L k) ++ jL (L.drop (k + 1))
 | [], k, h => by simp at h
 | x :: r, 0, _ => by simp [jL, duA]
 | x :: r, k + 1, h => by
  have e : 3 * (k + 1) = 3 + 3 * k := by omega
  have h3 : (duC x).length = 3 := rfl
  rw [jL, e, ← List.drop_drop, List.drop_left' h3, dus_drop r k (by simpa using h)]
  simp [duA]
theorem dus_row (L : List DU) (k : Nat) (hk : k < L.length) : (List.drop (3 * k) (jL L)).take 3 = duC (duA L k) := by
 rw [dus_drop L k hk]
 exact List.take_left' rfl
def sgP (r : Int) (k : KY) : Bool := decide (k.st = 1) || (decide (r = 1) && decide (k.st = 2))
def sgL (r : Int) (L : List KY) : List W32 := ((gP r L).filter (sgP r)).map (·.id)
theorem filt_next {α β : Type} (p : α → Bool) (f : α → β) (R : List α) (k : Nat) (hk : k < R.length) : ((R.take (k + 1)).filter p).map f = ((R.take k).filter p).map f ++ if p R[k] = true then [f R[k]] else [] := by
 rw [List.take_add_one, List.getElem?_eq_getElem hk, List.filter_append, List.map_append]
 congr 1
 simp only [Option.toList_some, List.filter_cons, List.filter_nil]
 split <;> rfl
theorem kyA_get (L : List KY) (k : Nat) (hk : k < L.length) : L[k] = kyA L k := by simp [kyA, List.getD_eq_getElem?_getD, hk]
noncomputable def sgG : List AV → Option AV
 | [.sl n xs, .i r] => aK (kysU xs) fun L => aN (L.length = n ∧ 0 < n ∧ n ≤ 1000) (some (.sl (sgL r L).length (c32 (sgL r L))))
 | _ => none
theorem sgG_eq (n : Nat) (xs : List AV) (r : Int) : sgG [.sl n xs, .i r] = aK (kysU xs) fun L => aN (L.length = n ∧ 0 < n ∧ n ≤ 1000) (some (.sl (sgL r L).length (c32 (sgL r L)))) := (rfl)
attribute [go_sem] sgG_eq
set_option maxHeartbeats 1000000 in
theorem sg_ok : cL Tryd.prog GLh 15 sgG := by
 refine cC Tryd.func15 (aT rfl) ?_
 intro args r hg
 unfold sgG at hg
 split at hg
 ·rename_i n xs role
  replace hg := aJ hg; obtain ⟨L, hL, hg⟩ := hg
  have := kysU_inv hL; subst this
  replace hg := aP hg; obtain ⟨⟨hn, h0, hbig⟩, hg⟩ := hg
  obtain rfl := Option.some.inj hg
  refine ⟨Nat.le_of_ble_eq_true rfl, fun nx => ?_⟩
  obtain ⟨R, hR⟩ : ∃ R, gP role L = R := ⟨_, rfl⟩
  have hRl : R.length ≤ 1000 := by have := jP role L; rw [hR] at this; omega
  have hsg : sgL role L = (R.filter (sgP role)).map (·.id) := by rw [sgL, hR]
  rw [hsg]
  refine aA rfl ?_
  refine aC (Γ := aL) [0, 1] (aD _ _) rfl rfl rfl (fun K hK => ?_)
  simp (disch := omega) only [Tryd.f15, go_sem, ↓reduceIte]
  refine hK _ ?_
  refine aB ?_
  refine aA rfl ?_
  refine aC (Γ := aL) [0, 1, 5] (aD _ _) rfl rfl rfl (fun K hK => ?_)
  simp (disch := omega) only [Tryd.f15, go_sem, ↓reduceIte]
  refine hK _ ?_
  refine aB ?_
  refine aA rfl ?_
  refine aA rfl ?_
  refine aC (Γ := bC [(23, .pure false ofG)]) [1, 5, 10, 11, 12] (aH okh21 aO) rfl rfl rfl (fun K hK => ?_)
  simp (disch := omega) only [Tryd.f15, go_sem, Nat.reduceAdd, ↓reduceIte, h0, hbig, hn, hR]
  refine hK _ ?_
  refine aB ?_
  refine iE 5 1 rfl ?_
  refine fF [1, 5, 10, 11, 12] ?_
  simp only [iB, fU, eB, ↓reduceIte, Nat.reduceEqDiff]
  refine aR 0 rfl rfl ?_
  refine bR (fun p : KIC => { fr := [(1, .i role), (5, .os p.id 0 (((R.take p.k).filter (sgP role)).map (·.id)).length 1 true), (10, .sl R.length (hP R)), (11, .i R.length), (12, .i p.k)], hp := upd (fun _ => none) p.id (.cells (c32 (((R.take p.k).filter (sgP role)).map (·.id))) true), nx := 0, cx := p.c }) (fun p => p.k ≤ R.length ∧ nx ≤ p.id ∧ p.id < p.c) (fun p => R.length - p.k) rfl ⟨⟨0, _, _⟩, ⟨Nat.zero_le _, by simp only; omega, by simp only; omega⟩, bD rfl rfl (Nat.le_refl _)⟩ ?_
  rintro ⟨k, id, c⟩ ⟨hk, hid, hc⟩ n0
  simp only at hk hid hc ⊢
  refine aA rfl ?_
  refine aC (Γ := aL) [13, 1, 5, 10, 11, 12] (aD _ _) rfl rfl rfl (fun K hK => ?_)
  simp (disch := omega) only [Tryd.f15, go_sem, ↓reduceIte]
  refine hK _ ?_
  refine aB ?_
  refine aA rfl ?_
  refine aW (.tmp 13) rfl rfl rfl (fun h => ?_) (fun h => ?_)
  ·skip
   refine aI rfl ?_
   have hkR : k < R.length := by omega
   have hrow := kys_row R k hkR
   have hkl := iJ R
   have hdl : 15 ≤ (List.drop (15 * k) (hP R)).length := by rw [List.length_drop]; omega
   have e15 : k * 15 = 15 * k := by omega
   have hfn := filt_next (sgP role) (·.id) R k hkR
   rw [kyA_get R k hkR] at hfn
   have hll : (((R.take k).filter (sgP role)).map (·.id)).length ≤ 1000 := by
    rw [List.length_map]
    exact Nat.le_trans (List.length_filter_le _ _) (by rw [List.length_take]; omega)
   obtain ⟨F, hF⟩ : ∃ F, ((R.take k).filter (sgP role)).map (·.id) = F := ⟨_, rfl⟩
   rw [hF] at hfn hll ⊢
   obtain ⟨X, hX⟩ : ∃ X, kyA R k = X := ⟨_, rfl⟩
   rw [hX] at hrow hfn
   refine aQ rfl ?_
   refine aB ?_
   refine aA rfl ?_
   refine aR 1 rfl rfl ?_
   refine aA rfl ?_
   refine aC (Γ := aL) [1, 5, 7, 10, 11, 12] (aD _ _) rfl rfl rfl (fun K hK => ?_)
   simp (disch := omega) only [Tryd.f15, go_sem, Nat.reduceAdd, Nat.reduceLeDiff, ↓reduceIte, hrow, hdl, e15]
   refine hK _ ?_
   refine aB ?_
   by_cases h1 : X.st = 1
   ·skip
    have d1 : decide (X.st = 1) = true := decide_eq_true h1
    have hp : sgP role X = true := by simp [sgP, h1]
    rw [if_pos hp] at hfn
    refine aA rfl ?_
    refine aC (Γ := aL) [27, 1, 5, 7, 10, 11, 12] (aD _ _) rfl rfl rfl (fun K hK => ?_)
    simp (disch := omega) only [Tryd.f15, go_sem, Nat.reduceAdd, Nat.reduceLT, ↓reduceIte, d1, kyC, List.head?_cons, List.drop_succ_cons, List.drop_zero]
    refine hK _ ?_
    refine aB ?_
    refine eC (.tmp 27) rfl rfl rfl (fun h => ?_) (fun h => ?_)
    ·skip
     refine aI rfl ?_
     refine aC (Γ := aL) [1, 5, 10, 11, 12] (aD _ _) rfl rfl rfl (fun K hK => ?_)
     simp (disch := omega) only [Tryd.f15, go_sem, Nat.reduceAdd, Nat.reduceLeDiff, Nat.reduceLT, ↓reduceIte, List.head?_cons, List.take_succ_cons, List.take_zero, List.drop_zero]
     refine hK _ ?_
     refine bU (aB ?_)
     refine aC (Γ := aL) [1, 5, 10, 11, 12] (aD _ _) rfl rfl rfl (fun K hK => ?_)
     simp (disch := omega) only [Tryd.f15, go_sem, Nat.reduceAdd, ↓reduceIte]
     refine hK _ ?_
     refine bT ?_
     have hfl : (F ++ [X.id]).length = F.length + 1 := by rw [List.length_append]; rfl
     refine ⟨⟨k + 1, c + 1 + 4 + 12 + 4, _⟩, ⟨by simp only; omega, by simp only; omega, by simp only; omega⟩, by simp only; omega, ⟨fun x => .inr (by simp only [hfn, hfl, Int.natCast_add, Int.natCast_one]), fun j o hj => ?_, Nat.le_refl _⟩⟩
     simp only [hfn, bJ] at hj
     simp only [bJ]
     by_cases e : j = c + 1 + 4 + 12 + 4
     ·rw [if_pos e] at hj ⊢; rw [← hj, ← c32_app]; rfl
     ·rw [if_neg e] at hj; cases hj
    ·skip
     refine aI rfl ?_
     cases h
   ·skip
    have d1 : decide (X.st = 1) = false := decide_eq_false h1
    by_cases h2 : role = 1
    ·skip
     have d2 : decide (role = 1) = true := decide_eq_true h2
     by_cases h3 : X.st = 2
     ·skip
      have d3 : decide (X.st = 2) = true := decide_eq_true h3
      have hp : sgP role X = true := by simp [sgP, h2, h3]
      rw [if_pos hp] at hfn
      refine aA rfl ?_
      refine aC (Γ := aL) [27, 1, 5, 7, 10, 11, 12] (aD _ _) rfl rfl rfl (fun K hK => ?_)
      simp (disch := omega) only [Tryd.f15, go_sem, Nat.reduceAdd, Nat.reduceLT, reduceCtorEq, ↓reduceIte, d1, d2, d3, beq_self_eq_true, kyC, List.head?_cons, List.drop_succ_cons, List.drop_zero]
      refine hK _ ?_
      refine aB ?_
      refine eC (.tmp 27) rfl rfl rfl (fun h => ?_) (fun h => ?_)
      ·skip
       refine aI rfl ?_
       refine aC (Γ := aL) [1, 5, 10, 11, 12] (aD _ _) rfl rfl rfl (fun K hK => ?_)
       simp (disch := omega) only [Tryd.f15, go_sem, Nat.reduceAdd, Nat.reduceLeDiff, Nat.reduceLT, ↓reduceIte, List.head?_cons, List.take_succ_cons, List.take_zero, List.drop_zero]
       refine hK _ ?_
       refine bU (aB ?_)
       refine aC (Γ := aL) [1, 5, 10, 11, 12] (aD _ _) rfl rfl rfl (fun K hK => ?_)
       simp (disch := omega) only [Tryd.f15, go_sem, Nat.reduceAdd, ↓reduceIte]
       refine hK _ ?_
       refine bT ?_
       have hfl : (F ++ [X.id]).length = F.length + 1 := by rw [List.length_append]; rfl
       refine ⟨⟨k + 1, c + 1 + 4 + 12 + 4, _⟩, ⟨by simp only; omega, by simp only; omega, by simp only; omega⟩, by simp only; omega, ⟨fun x => .inr (by simp only [hfn, hfl, Int.natCast_add, Int.natCast_one]), fun j o hj => ?_, Nat.le_refl _⟩⟩
       simp only [hfn, bJ] at hj
       simp only [bJ]
       by_cases e : j = c + 1 + 4 + 12 + 4
       ·rw [if_pos e] at hj ⊢; rw [← hj, ← c32_app]; rfl
       ·rw [if_neg e] at hj; cases hj
      ·skip
       refine aI rfl ?_
       cases h
     ·skip
      have d3 : decide (X.st = 2) = false := decide_eq_false h3
      have hp : sgP role X = false := by simp [sgP, h1, h3]
      rw [if_neg (by rw [hp]; decide), List.append_nil] at hfn
      refine aA rfl ?_
      refine aC (Γ := aL) [27, 1, 5, 7, 10, 11, 12] (aD _ _) rfl rfl rfl (fun K hK => ?_)
      simp (disch := omega) only [Tryd.f15, go_sem, Nat.reduceAdd, Nat.reduceLT, reduceCtorEq, ↓reduceIte, d1, d2, d3, beq_self_eq_true, kyC, List.head?_cons, List.drop_succ_cons, List.drop_zero]
      refine hK _ ?_
      refine aB ?_
      refine eC (.tmp 27) rfl rfl rfl (fun h => ?_) (fun h => ?_)
      ·skip
       refine aI rfl ?_
       cases h
      ·skip
       refine aI rfl ?_
       refine aQ rfl ?_
       refine bU (aB ?_)
       refine aC (Γ := aL) [1, 5, 10, 11, 12] (aD _ _) rfl rfl rfl (fun K hK => ?_)
       simp (disch := omega) only [Tryd.f15, go_sem, Nat.reduceAdd, ↓reduceIte]
       refine hK _ ?_
       refine bT ?_
       refine ⟨⟨k + 1, id, _⟩, ⟨by simp only; omega, by simp only; omega, by simp only; omega⟩, by simp only; omega, ⟨fun x => .inr (by simp only [hfn, Int.natCast_add, Int.natCast_one]), fun j o hj => ?_, Nat.le_refl _⟩⟩
       simp only [hfn, bJ] at hj
       simp only [bJ]
       by_cases e : j = id
       ·rw [if_pos e] at hj; rw [if_neg (by omega), if_pos e]; exact hj
       ·rw [if_neg e] at hj; cases hj
    ·skip
     have d2 : decide (role = 1) = false := decide_eq_false h2
     have hp : sgP role X = false := by simp [sgP, h1, h2]
     rw [if_neg (by rw [hp]; decide), List.append_nil] at hfn
     refine aA rfl ?_
     refine aC (Γ := aL) [27, 1, 5, 7, 10, 11, 12] (aD _ _) rfl rfl rfl (fun K hK => ?_)
     simp (disch := omega) only [Tryd.f15, go_sem, Nat.reduceAdd, Nat.reduceLT, reduceCtorEq, ↓reduceIte, d1, d2, beq_self_eq_true, kyC, List.head?_cons, List.drop_succ_cons, List.drop_zero]
     refine hK _ ?_
     refine aB ?_
     refine eC (.tmp 27) rfl rfl rfl (fun h => ?_) (fun h => ?_)
     ·skip
      refine aI rfl ?_
      cases h
     ·skip
      refine aI rfl ?_
      refine aQ rfl ?_
      refine bU (aB ?_)
      refine aC (Γ := aL) [1, 5, 10, 11, 12] (aD _ _) rfl rfl rfl (fun K hK => ?_)
      simp (disch := omega) only [Tryd.f15, go_sem, Nat.reduceAdd, ↓reduceIte]
      refine hK _ ?_
      refine bT ?_
      refine ⟨⟨k + 1, id, _⟩, ⟨by simp only; omega, by simp only; omega, by simp only; omega⟩, by simp only; omega, ⟨fun x => .inr (by simp only [hfn, Int.natCast_add, Int.natCast_one]), fun j o hj => ?_, Nat.le_refl _⟩⟩
      simp only [hfn, bJ] at hj
      simp only [bJ]
      by_cases e : j = id
      ·rw [if_pos e] at hj; rw [if_neg (by omega), if_pos e]; exact hj
      ·rw [if_neg e] at hj; cases hj
  ·skip
   refine aI rfl ?_
   refine bF 0 rfl rfl ?_
   refine aY (aZ (bE ?_))
   refine aB ?_
   refine aA rfl ?_
   obtain rfl : k = R.length := by omega
   rw [List.take_length]
   refine awp_sl 5 id 0 _ 1 rfl (by rw [bJ, if_pos rfl]) (by rw [iY]; omega) ?_
   rw [List.drop_zero, Nat.mul_one, List.take_of_length_le (Nat.le_of_eq (iY _))]
   refine aC (Γ := aL) [4] (aD _ _) rfl rfl rfl (fun K hK => ?_)
   simp (disch := omega) only [Tryd.f15, go_sem, Nat.reduceAdd, ↓reduceIte]
   refine hK _ ?_
   refine aB ?_
   refine aS rfl ?_
   simp (disch := omega) only [cN, bV, bK, bQ, Tryd.f15, go_sem, ↓reduceIte]
 ·cases hg
theorem okh11 : bX Tryd.prog GLh 15 (.pure false sgG) := ⟨⟨_, Tryd.func15, rfl, rfl⟩, sg_ok⟩
end Go.AX
namespace Go.AX
open Go Go.Proofs
set_option maxRecDepth 8000
def dueI (c : CF) (x : KY) (R : List KY) : List DU := (R.filter fun y => decide (y.id < x.id)).map fun y => ⟨y.id, 4, bhV x.seen c.dp c.dt⟩
def iS (L : List KY) (c : CF) (x : KY) : List DU :=
 if x.role = 0 then (if x.st = 0 then [⟨x.id, 1, bhV x.since c.pr c.kt⟩] else if x.st = 3 then [⟨x.id, 4, bhV x.since c.pr c.mx⟩] else [])
 else if x.role = 1 then (if x.st = 1 then [⟨x.id, 2, bhV x.since c.pr c.kt⟩] else if x.st = 2 ∧ x.seen ≠ 0#32 then dueI c x (gP 1 L) else [])
 else []
def alD (L : List KY) (c : CF) (xs : List KY) : List DU := xs.flatMap (iS L c)
theorem alD_next (L : List KY) (c : CF) (k : Nat) (hk : k < L.length) : alD L c (L.take (k + 1)) = alD L c (L.take k) ++ iS L c (kyA L k) := by
 rw [alD, List.take_add_one, List.getElem?_eq_getElem hk, List.flatMap_append, kyA_get L k hk]
 simp [alD]
theorem dueI_len (c : CF) (x : KY) (R : List KY) : (dueI c x R).length ≤ R.length := by
 rw [dueI, List.length_map]; exact List.length_filter_le _ _
theorem dueOf_len (L : List KY) (c : CF) (x : KY) : (iS L c x).length ≤ L.length + 1 := by
 have h := dueI_len c x (gP 1 L)
 have h2 := jP 1 L
 unfold iS
 split
 ·split
  ·simp
  ·split <;> simp
 ·split
  ·split
   ·simp
   ·split
    ·omega
    ·simp
  ·simp
theorem alD_len (L : List KY) (c : CF) : ∀ xs : List KY, (alD L c xs).length ≤ xs.length * (L.length + 1)
 | [] => by simp [alD]
 | x :: r => by
  have h := alD_len L c r
  have h2 := dueOf_len L c x
  unfold alD at h ⊢
  rw [List.flatMap_cons, List.length_append, List.length_cons, Nat.add_mul]
  omega
theorem dueI_next (c : CF) (x : KY) (R : List KY) (k : Nat) (hk : k < R.length) : dueI c x (R.take (k + 1)) = dueI c x (R.take k) ++ if (kyA R k).id < x.id then [⟨(kyA R k).id, 4, bhV x.seen c.dp c.dt⟩] else [] := by
 have h := filt_next (fun y : KY => decide (y.id < x.id)) (fun y => (⟨y.id, 4, bhV x.seen c.dp c.dt⟩ : DU)) R k hk
 rw [kyA_get R k hk] at h
 simp only [decide_eq_true_eq] at h
 exact h
def inD (F : List DU) (c : CF) (x : KY) (R : List KY) (k : Nat) : List DU := F ++ dueI c x (R.take k)
theorem inD_zero (F : List DU) (c : CF) (x : KY) (R : List KY) : inD F c x R 0 = F := by simp [inD, dueI]
theorem inD_all (F : List DU) (c : CF) (x : KY) (R : List KY) : inD F c x R R.length = F ++ dueI c x R := by rw [inD, List.take_length]
theorem inD_len (F : List DU) (c : CF) (x : KY) (R : List KY) (k : Nat) : (inD F c x R k).length ≤ F.length + k := by
 have h := dueI_len c x (R.take k)
 rw [List.length_take] at h
 rw [inD, List.length_append]; omega
theorem inD_next (F : List DU) (c : CF) (x : KY) (R : List KY) (k : Nat) (hk : k < R.length) : inD F c x R (k + 1) = inD F c x R k ++ if (kyA R k).id < x.id then [⟨(kyA R k).id, 4, bhV x.seen c.dp c.dt⟩] else [] := by
 rw [inD, dueI_next c x R k hk, ← List.append_assoc]; rfl
noncomputable def alG : List AV → Option AV
 | [.sl n xs, .agg cs] => aK (kysU xs) fun L => aK (cfOf cs) fun c => aN (L.length = n ∧ n ≤ 100) (some (.sl (alD L c L).length (jL (alD L c L))))
 | [.v (.slice none 0 0), .agg cs] => aK (cfOf cs) fun _ => some (.sl 0 [])
 | _ => none
theorem alG_eq (n : Nat) (xs cs : List AV) : alG [.sl n xs, .agg cs] = aK (kysU xs) fun L => aK (cfOf cs) fun c => aN (L.length = n ∧ n ≤ 100) (some (.sl (alD L c L).length (jL (alD L c L)))) := (rfl)
theorem alG_nil (cs : List AV) : alG [.v (.slice none 0 0), .agg cs] = aK (cfOf cs) fun _ => some (.sl 0 []) := (rfl)
attribute [go_sem] alG_eq alG_nil
set_option maxHeartbeats 2000000 in
theorem al_ok : cL Tryd.prog GLh 34 alG := by
 refine cC Tryd.func34 (aT rfl) ?_
 intro args r hg
 unfold alG at hg
 split at hg
 ·rename_i n xs cs
  replace hg := aJ hg; obtain ⟨L, hL, hg⟩ := hg
  have := kysU_inv hL; subst this
  replace hg := aJ hg; obtain ⟨cf, hcf, hg⟩ := hg
  have := cfOf_inv hcf; subst this
  replace hg := aP hg; obtain ⟨⟨hn, hbig⟩, hg⟩ := hg
  obtain rfl := Option.some.inj hg
  refine ⟨Nat.le_of_ble_eq_true rfl, fun nx => ?_⟩
  refine aA rfl ?_
  refine aC (Γ := aL) [0, 3] (aD _ _) rfl rfl rfl (fun K hK => ?_)
  simp (disch := omega) only [Tryd.f34, go_sem, Nat.reduceAdd, ↓reduceIte]
  refine hK _ ?_
  refine aB ?_
  refine aA rfl ?_
  refine aC (Γ := aL) [0, 3, 5] (aD _ _) rfl rfl rfl (fun K hK => ?_)
  simp (disch := omega) only [Tryd.f34, go_sem, ↓reduceIte]
  refine hK _ ?_
  refine aB ?_
  refine aA rfl ?_
  refine aA rfl ?_
  refine aC (Γ := aL) [0, 3, 5, 10, 11, 12] (aD _ _) rfl rfl rfl (fun K hK => ?_)
  simp (disch := omega) only [Tryd.f34, go_sem, Nat.reduceAdd, ↓reduceIte]
  refine hK _ ?_
  refine aB ?_
  refine iE 5 3 rfl ?_
  refine fF [0, 3, 5, 10, 11, 12] ?_
  simp only [iB, fU, eB, ↓reduceIte, Nat.reduceEqDiff]
  refine aR 0 rfl rfl ?_
  refine bR (fun p : KIC => { fr := [(0, .sl n (hP L)), (3, .op nx 0), (5, .os p.id 0 (alD L cf (L.take p.k)).length 3 true), (10, .sl n (hP L)), (11, .i n), (12, .i p.k)], hp := upd (upd (fun _ => none) nx (.cells (cfC cf) true)) p.id (.cells (jL (alD L cf (L.take p.k))) true), nx := 0, cx := p.c }) (fun p => p.k ≤ n ∧ nx < p.id ∧ p.id < p.c) (fun p => n - p.k) rfl ⟨⟨0, _, _⟩, ⟨Nat.zero_le _, by simp only; omega, by simp only; omega⟩, bD rfl rfl (Nat.le_refl _)⟩ ?_
  rintro ⟨k, id, c⟩ ⟨hk, hid, hc⟩ n0
  simp only at hk hid hc ⊢
  refine aA rfl ?_
  refine aC (Γ := aL) [13, 0, 3, 5, 10, 11, 12] (aD _ _) rfl rfl rfl (fun K hK => ?_)
  simp (disch := omega) only [Tryd.f34, go_sem, ↓reduceIte]
  refine hK _ ?_
  refine aB ?_
  refine aA rfl ?_
  refine aW (.tmp 13) rfl rfl rfl (fun h => ?_) (fun h => ?_)
  ·skip
   refine aI rfl ?_
   have hkR : k < L.length := by omega
   have hrow := kys_row L k hkR
   have hkl := iJ L
   have hdl : 15 ≤ (List.drop (15 * k) (hP L)).length := by rw [List.length_drop]; omega
   have e15 : k * 15 = 15 * k := by omega
   have hfn := alD_next L cf k hkR
   have hll : (alD L cf (L.take k)).length ≤ 20000 := by
    have h1 := alD_len L cf (L.take k)
    have h2 : (L.take k).length * (L.length + 1) ≤ 100 * 101 := Nat.mul_le_mul (by rw [List.length_take]; omega) (by omega)
    omega
   obtain ⟨F, hF⟩ : ∃ F, alD L cf (L.take k) = F := ⟨_, rfl⟩
   rw [hF] at hfn hll ⊢
   obtain ⟨X, hX⟩ : ∃ X, kyA L k = X := ⟨_, rfl⟩
   rw [hX] at hrow hfn
   have hfl := dusC_len F
   refine aQ rfl ?_
   refine aB ?_
   refine aA rfl ?_
   refine aR 1 rfl rfl ?_
   refine aA rfl ?_
   refine aC (Γ := aL) [0, 3, 5, 7, 10, 11, 12] (aD _ _) rfl rfl rfl (fun K hK => ?_)
   simp (disch := omega) only [Tryd.f34, go_sem, Nat.reduceAdd, Nat.reduceLeDiff, ↓reduceIte, hrow, hdl, e15]
   refine hK _ ?_
   refine aB ?_
   by_cases r0 : X.role = 0
   ·skip
    have d0 : decide (X.role = 0) = true := decide_eq_true r0
    have d1 : decide (X.role = 1) = false := decide_eq_false (by omega)
    by_cases s0 : X.st = 0
    ·skip
     have b0 : decide (X.st = 0) = true := decide_eq_true s0
     have hdu : iS L cf X = [⟨X.id, 1, bhV X.since cf.pr cf.kt⟩] := by unfold iS; rw [if_pos r0, if_pos s0]
     rw [hdu] at hfn
     refine aR 2 rfl rfl ?_
     refine aA rfl ?_
     refine aC (Γ := aL) [16, 0, 3, 5, 7, 10, 11, 12] (aD _ _) rfl rfl rfl (fun K hK => ?_)
     simp (disch := omega) only [Tryd.f34, go_sem, Nat.reduceAdd, Nat.reduceLT, ↓reduceIte, d0, b0, beq_self_eq_true, kyC, List.head?_cons, List.drop_succ_cons, List.drop_zero]
     refine hK _ ?_
     refine aB ?_
     refine eC (.tmp 16) rfl rfl rfl (fun h => ?_) (fun h => ?_)
     ·skip
      refine aI rfl ?_
      refine bB (Γ := bC [(45, .pure true behG)]) (fun k => if k = 12 then 4098 else 2) [0, 3, 5, 10, 11, 12] bZ (aH okh36 aO) rfl rfl rfl (by kernel_rfl) (fun K hK => ?_)
      simp (disch := omega) only [Tryd.f34, go_sem, Nat.reduceAdd, Nat.reduceLeDiff, Nat.reduceLT, ↓reduceIte, jI, hfl, cK, List.nil_append, List.cons_append, List.head?_cons, List.take_succ_cons, List.take_zero, List.drop_succ_cons, List.drop_zero, List.all_cons, List.all_nil, Option.isSome_some, Bool.and_self]
      refine hK _ ?_
      refine bU (bU (aB ?_))
      refine aC (Γ := aL) [0, 3, 5, 10, 11, 12] (aD _ _) rfl rfl rfl (fun K hK => ?_)
      simp (disch := omega) only [Tryd.f34, go_sem, Nat.reduceAdd, ↓reduceIte]
      refine hK _ ?_
      refine bT ?_
      refine ⟨⟨k + 1, c + 1 + 4 + 9 + 12, _⟩, ⟨by simp only; omega, by simp only; omega, by simp only; omega⟩, by simp only; omega, ⟨fun x => .inr (by simp only [hfn, List.length_append, List.length_cons, List.length_nil, Nat.zero_add, Int.natCast_add, Int.natCast_one]), fun j o hj => ?_, Nat.le_refl _⟩⟩
      simp only [hfn, bJ] at hj
      simp only [bJ, eV]
      by_cases e : j = c + 1 + 4 + 9 + 12
      ·rw [if_pos e] at hj ⊢; rw [← hj, dusC_app, dusC_one]; rfl
      ·rw [if_neg e] at hj ⊢
       by_cases e2 : j = nx
       ·rw [if_pos e2] at hj; rw [if_neg (by omega), if_neg (by omega), if_neg (by omega), if_neg (by omega), if_pos e2]; exact hj
       ·rw [if_neg e2] at hj; cases hj
     ·skip
      refine aI rfl ?_
      cases h
    ·skip
     have b0 : decide (X.st = 0) = false := decide_eq_false s0
     by_cases s3 : X.st = 3
     ·skip
      have b3 : decide (X.st = 3) = true := decide_eq_true s3
      have hdu : iS L cf X = [⟨X.id, 4, bhV X.since cf.pr cf.mx⟩] := by unfold iS; rw [if_pos r0, if_neg s0, if_pos s3]
      rw [hdu] at hfn
      refine aR 2 rfl rfl ?_
      refine aA rfl ?_
      refine aC (Γ := aL) [16, 0, 3, 5, 7, 10, 11, 12] (aD _ _) rfl rfl rfl (fun K hK => ?_)
      simp (disch := omega) only [Tryd.f34, go_sem, Nat.reduceAdd, Nat.reduceLT, ↓reduceIte, d0, b0, beq_self_eq_true, kyC, List.head?_cons, List.drop_succ_cons, List.drop_zero]
      refine hK _ ?_
      refine aB ?_
      refine eC (.tmp 16) rfl rfl rfl (fun h => ?_) (fun h => ?_)
      ·skip
       refine aI rfl ?_
       cases h
      ·skip
       refine aI rfl ?_
       refine aA rfl ?_
       refine aC (Γ := aL) [38, 0, 3, 5, 7, 10, 11, 12] (aD _ _) rfl rfl rfl (fun K hK => ?_)
       simp (disch := omega) only [Tryd.f34, go_sem, Nat.reduceAdd, Nat.reduceLT, ↓reduceIte, d0, b3, beq_self_eq_true, List.head?_cons, List.drop_succ_cons, List.drop_zero]
       refine hK _ ?_
       refine aB ?_
       refine eC (.tmp 38) rfl rfl rfl (fun h => ?_) (fun h => ?_)
       ·skip
        refine aI rfl ?_
        refine bB (Γ := bC [(45, .pure true behG)]) (fun k => if k = 12 then 4098 else 2) [0, 3, 5, 10, 11, 12] bZ (aH okh36 aO) rfl rfl rfl (by kernel_rfl) (fun K hK => ?_)
        simp (disch := omega) only [Tryd.f34, go_sem, Nat.reduceAdd, Nat.reduceLeDiff, Nat.reduceLT, ↓reduceIte, jI, hfl, cK, List.nil_append, List.cons_append, List.head?_cons, List.take_succ_cons, List.take_zero, List.drop_succ_cons, List.drop_zero, List.all_cons, List.all_nil, Option.isSome_some, Bool.and_self]
        refine hK _ ?_
        refine bU (bU (aB ?_))
        refine aC (Γ := aL) [0, 3, 5, 10, 11, 12] (aD _ _) rfl rfl rfl (fun K hK => ?_)
        simp (disch := omega) only [Tryd.f34, go_sem, Nat.reduceAdd, ↓reduceIte]
        refine hK _ ?_
        refine bT ?_
        refine ⟨⟨k + 1, c + 1 + 4 + 9 + 9 + 12, _⟩, ⟨by simp only; omega, by simp only; omega, by simp only; omega⟩, by simp only; omega, ⟨fun x => .inr (by simp only [hfn, List.length_append, List.length_cons, List.length_nil, Nat.zero_add, Int.natCast_add, Int.natCast_one]), fun j o hj => ?_, Nat.le_refl _⟩⟩
        simp only [hfn, bJ] at hj
        simp only [bJ, eV]
        by_cases e : j = c + 1 + 4 + 9 + 9 + 12
        ·rw [if_pos e] at hj ⊢; rw [← hj, dusC_app, dusC_one]; rfl
        ·rw [if_neg e] at hj ⊢
         by_cases e2 : j = nx
         ·rw [if_pos e2] at hj; rw [if_neg (by omega), if_neg (by omega), if_neg (by omega), if_neg (by omega), if_pos e2]; exact hj
         ·rw [if_neg e2] at hj; cases hj
       ·skip
        refine aI rfl ?_
        cases h
     ·skip
      have b3 : decide (X.st = 3) = false := decide_eq_false s3
      have hdu : iS L cf X = [] := by unfold iS; rw [if_pos r0, if_neg s0, if_neg s3]
      rw [hdu] at hfn
      refine aR 2 rfl rfl ?_
      refine aA rfl ?_
      refine aC (Γ := aL) [16, 0, 3, 5, 7, 10, 11, 12] (aD _ _) rfl rfl rfl (fun K hK => ?_)
      simp (disch := omega) only [Tryd.f34, go_sem, Nat.reduceAdd, Nat.reduceLT, ↓reduceIte, d0, b0, beq_self_eq_true, kyC, List.head?_cons, List.drop_succ_cons, List.drop_zero]
      refine hK _ ?_
      refine aB ?_
      refine eC (.tmp 16) rfl rfl rfl (fun h => ?_) (fun h => ?_)
      ·skip
       refine aI rfl ?_
       cases h
      ·skip
       refine aI rfl ?_
       refine aA rfl ?_
       refine aC (Γ := aL) [38, 0, 3, 5, 7, 10, 11, 12] (aD _ _) rfl rfl rfl (fun K hK => ?_)
       simp (disch := omega) only [Tryd.f34, go_sem, Nat.reduceAdd, Nat.reduceLT, ↓reduceIte, d0, b3, beq_self_eq_true, List.head?_cons, List.drop_succ_cons, List.drop_zero]
       refine hK _ ?_
       refine aB ?_
       refine eC (.tmp 38) rfl rfl rfl (fun h => ?_) (fun h => ?_)
       ·skip
        refine aI rfl ?_
        cases h
       ·skip
        refine aI rfl ?_
        refine aA rfl ?_
        refine aC (Γ := aL) [60, 0, 3, 5, 7, 10, 11, 12] (aD _ _) rfl rfl rfl (fun K hK => ?_)
        simp (disch := omega) only [Tryd.f34, go_sem, Nat.reduceAdd, Nat.reduceLT, reduceCtorEq, ↓reduceIte, d1, List.head?_cons, List.drop_succ_cons, List.drop_zero]
        refine hK _ ?_
        refine aB ?_
        refine eC (.tmp 60) rfl rfl rfl (fun h => ?_) (fun h => ?_)
        ·skip
         refine aI rfl ?_
         cases h
        ·skip
         refine aI rfl ?_
         refine aA rfl ?_
         refine aC (Γ := aL) [82, 0, 3, 5, 7, 10, 11, 12] (aD _ _) rfl rfl rfl (fun K hK => ?_)
         simp (disch := omega) only [Tryd.f34, go_sem, Nat.reduceAdd, Nat.reduceLT, reduceCtorEq, ↓reduceIte, d1, List.head?_cons, List.drop_succ_cons, List.drop_zero]
         refine hK _ ?_
         refine aB ?_
         refine eC (.tmp 82) rfl rfl rfl (fun h => ?_) (fun h => ?_)
         ·skip
          refine aI rfl ?_
          cases h
         ·skip
          refine aI rfl ?_
          refine aQ rfl ?_
          refine bU (bU (aB ?_))
          refine aC (Γ := aL) [0, 3, 5, 10, 11, 12] (aD _ _) rfl rfl rfl (fun K hK => ?_)
          simp (disch := omega) only [Tryd.f34, go_sem, Nat.reduceAdd, ↓reduceIte]
          refine hK _ ?_
          refine bT ?_
          refine ⟨⟨k + 1, id, _⟩, ⟨by simp only; omega, by simp only; omega, by simp only; omega⟩, by simp only; omega, ⟨fun x => .inr (by simp only [hfn, List.append_nil, Int.natCast_add, Int.natCast_one]), fun j o hj => ?_, Nat.le_refl _⟩⟩
          simp only [hfn, List.append_nil, bJ] at hj
          simp only [bJ]
          by_cases e : j = id
          ·rw [if_pos e] at hj; rw [if_neg (by omega), if_pos e]; exact hj
          ·rw [if_neg e] at hj
           by_cases e2 : j = nx
           ·rw [if_pos e2] at hj; rw [if_neg (by omega), if_neg e, if_pos e2]; exact hj
           ·rw [if_neg e2] at hj; cases hj
   ·skip
    have d0 : decide (X.role = 0) = false := decide_eq_false r0
    by_cases r1 : X.role = 1
    ·skip
     have d1 : decide (X.role = 1) = true := decide_eq_true r1
     by_cases s1 : X.st = 1
     ·skip
      have b1 : decide (X.st = 1) = true := decide_eq_true s1
      have hdu : iS L cf X = [⟨X.id, 2, bhV X.since cf.pr cf.kt⟩] := by unfold iS; rw [if_neg r0, if_pos r1, if_pos s1]
      rw [hdu] at hfn
      refine aR 2 rfl rfl ?_
      refine aA rfl ?_
      refine aC (Γ := aL) [16, 0, 3, 5, 7, 10, 11, 12] (aD _ _) rfl rfl rfl (fun K hK => ?_)
      simp (disch := omega) only [Tryd.f34, go_sem, Nat.reduceAdd, Nat.reduceLT, reduceCtorEq, ↓reduceIte, d0, kyC, List.head?_cons, List.drop_succ_cons, List.drop_zero]
      refine hK _ ?_
      refine aB ?_
      refine eC (.tmp 16) rfl rfl rfl (fun h => ?_) (fun h => ?_)
      ·skip
       refine aI rfl ?_
       cases h
      ·skip
       refine aI rfl ?_
       refine aA rfl ?_
       refine aC (Γ := aL) [38, 0, 3, 5, 7, 10, 11, 12] (aD _ _) rfl rfl rfl (fun K hK => ?_)
       simp (disch := omega) only [Tryd.f34, go_sem, Nat.reduceAdd, Nat.reduceLT, reduceCtorEq, ↓reduceIte, d0, List.head?_cons, List.drop_succ_cons, List.drop_zero]
       refine hK _ ?_
       refine aB ?_
       refine eC (.tmp 38) rfl rfl rfl (fun h => ?_) (fun h => ?_)
       ·skip
        refine aI rfl ?_
        cases h
       ·skip
        refine aI rfl ?_
        refine aA rfl ?_
        refine aC (Γ := aL) [60, 0, 3, 5, 7, 10, 11, 12] (aD _ _) rfl rfl rfl (fun K hK => ?_)
        simp (disch := omega) only [Tryd.f34, go_sem, Nat.reduceAdd, Nat.reduceLT, ↓reduceIte, d1, b1, beq_self_eq_true, List.head?_cons, List.drop_succ_cons, List.drop_zero]
        refine hK _ ?_
        refine aB ?_
        refine eC (.tmp 60) rfl rfl rfl (fun h => ?_) (fun h => ?_)
        ·skip
         refine aI rfl ?_
         refine bB (Γ := bC [(45, .pure true behG)]) (fun k => if k = 12 then 4098 else 2) [0, 3, 5, 10, 11, 12] bZ (aH okh36 aO) rfl rfl rfl (by kernel_rfl) (fun K hK => ?_)
         simp (disch := omega) only [Tryd.f34, go_sem, Nat.reduceAdd, Nat.reduceLeDiff, Nat.reduceLT, ↓reduceIte, jI, hfl, cK, List.nil_append, List.cons_append, List.head?_cons, List.take_succ_cons, List.take_zero, List.drop_succ_cons, List.drop_zero, List.all_cons, List.all_nil, Option.isSome_some, Bool.and_self]
         refine hK _ ?_
         refine bU (bU (aB ?_))
         refine aC (Γ := aL) [0, 3, 5, 10, 11, 12] (aD _ _) rfl rfl rfl (fun K hK => ?_)
         simp (disch := omega) only [Tryd.f34, go_sem, Nat.reduceAdd, ↓reduceIte]
         refine hK _ ?_
         refine bT ?_
         refine ⟨⟨k + 1, c + 1 + 4 + 9 + 9 + 9 + 12, _⟩, ⟨by simp only; omega, by simp only; omega, by simp only; omega⟩, by simp only; omega, ⟨fun x => .inr (by simp only [hfn, List.length_append, List.length_cons, List.length_nil, Nat.zero_add, Int.natCast_add, Int.natCast_one]), fun j o hj => ?_, Nat.le_refl _⟩⟩
         simp only [hfn, bJ] at hj
         simp only [bJ, eV]
         by_cases e : j = c + 1 + 4 + 9 + 9 + 9 + 12
         ·rw [if_pos e] at hj ⊢; rw [← hj, dusC_app, dusC_one]; rfl
         ·rw [if_neg e] at hj ⊢
          by_cases e2 : j = nx
          ·rw [if_pos e2] at hj; rw [if_neg (by omega), if_neg (by omega), if_neg (by omega), if_neg (by omega), if_pos e2]; exact hj
          ·rw [if_neg e2] at hj; cases hj
        ·skip
         refine aI rfl ?_
         cases h
     ·skip
      have b1 : decide (X.st = 1) = false := decide_eq_false s1
      by_cases s2 : X.st = 2
      ·skip
       have b2 : decide (X.st = 2) = true := decide_eq_true s2
       by_cases z : X.seen = 0#32
       ·skip
        have bz : decide (X.seen = 0#32) = true := decide_eq_true z
        have hdu : iS L cf X = [] := by unfold iS; rw [if_neg r0, if_pos r1, if_neg s1, if_neg (fun e => e.2 z)]
        rw [hdu] at hfn
        refine aR 2 rfl rfl ?_
        refine aA rfl ?_
        refine aC (Γ := aL) [16, 0, 3, 5, 7, 10, 11, 12] (aD _ _) rfl rfl rfl (fun K hK => ?_)
        simp (disch := omega) only [Tryd.f34, go_sem, Nat.reduceAdd, Nat.reduceLT, reduceCtorEq, ↓reduceIte, d0, kyC, List.head?_cons, List.drop_succ_cons, List.drop_zero]
        refine hK _ ?_
        refine aB ?_
        refine eC (.tmp 16) rfl rfl rfl (fun h => ?_) (fun h => ?_)
        ·skip
         refine aI rfl ?_
         cases h
        ·skip
         refine aI rfl ?_
         refine aA rfl ?_
         refine aC (Γ := aL) [38, 0, 3, 5, 7, 10, 11, 12] (aD _ _) rfl rfl rfl (fun K hK => ?_)
         simp (disch := omega) only [Tryd.f34, go_sem, Nat.reduceAdd, Nat.reduceLT, reduceCtorEq, ↓reduceIte, d0, List.head?_cons, List.drop_succ_cons, List.drop_zero]
         refine hK _ ?_
         refine aB ?_
         refine eC (.tmp 38) rfl rfl rfl (fun h => ?_) (fun h => ?_)
         ·skip
          refine aI rfl ?_
          cases h
         ·skip
          refine aI rfl ?_
          refine aA rfl ?_
          refine aC (Γ := aL) [60, 0, 3, 5, 7, 10, 11, 12] (aD _ _) rfl rfl rfl (fun K hK => ?_)
          simp (disch := omega) only [Tryd.f34, go_sem, Nat.reduceAdd, Nat.reduceLT, ↓reduceIte, d1, b1, beq_self_eq_true, List.head?_cons, List.drop_succ_cons, List.drop_zero]
          refine hK _ ?_
          refine aB ?_
          refine eC (.tmp 60) rfl rfl rfl (fun h => ?_) (fun h => ?_)
          ·skip
           refine aI rfl ?_
           cases h
          ·skip
           refine aI rfl ?_
           refine aA rfl ?_
           refine aC (Γ := aL) [82, 0, 3, 5, 7, 10, 11, 12] (aD _ _) rfl rfl rfl (fun K hK => ?_)
           simp (disch := omega) only [Tryd.f34, go_sem, Nat.reduceAdd, Nat.reduceLT, Int.reduceLE, Int.reduceLT, BitVec.reduceOfInt, ↓reduceIte, d1, b2, bz, beq_self_eq_true, Bool.not_true, List.head?_cons, List.drop_succ_cons, List.drop_zero]
           refine hK _ ?_
           refine aB ?_
           refine eC (.tmp 82) rfl rfl rfl (fun h => ?_) (fun h => ?_)
           ·skip
            refine aI rfl ?_
            cases h
           ·skip
            refine aI rfl ?_
            refine aQ rfl ?_
            refine bU (bU (aB ?_))
            refine aC (Γ := aL) [0, 3, 5, 10, 11, 12] (aD _ _) rfl rfl rfl (fun K hK => ?_)
            simp (disch := omega) only [Tryd.f34, go_sem, Nat.reduceAdd, ↓reduceIte]
            refine hK _ ?_
            refine bT ?_
            refine ⟨⟨k + 1, id, _⟩, ⟨by simp only; omega, by simp only; omega, by simp only; omega⟩, by simp only; omega, ⟨fun x => .inr (by simp only [hfn, List.append_nil, Int.natCast_add, Int.natCast_one]), fun j o hj => ?_, Nat.le_refl _⟩⟩
            simp only [hfn, List.append_nil, bJ] at hj
            simp only [bJ]
            by_cases e : j = id
            ·rw [if_pos e] at hj; rw [if_neg (by omega), if_pos e]; exact hj
            ·rw [if_neg e] at hj
             by_cases e2 : j = nx
             ·rw [if_pos e2] at hj; rw [if_neg (by omega), if_neg e, if_pos e2]; exact hj
             ·rw [if_neg e2] at hj; cases hj
       ·skip
        have bz : decide (X.seen = 0#32) = false := decide_eq_false z
        have h0n : 0 < n := by omega
        obtain ⟨R, hRR⟩ : ∃ R, gP 1 L = R := ⟨_, rfl⟩
        have hRl : R.length ≤ 100 := by have := jP 1 L; rw [hRR] at this; omega
        have hdu : iS L cf X = dueI cf X R := by unfold iS; rw [if_neg r0, if_pos r1, if_neg s1, if_pos ⟨s2, z⟩, hRR]
        rw [hdu] at hfn
        refine aR 2 rfl rfl ?_
        refine aA rfl ?_
        refine aC (Γ := aL) [16, 0, 3, 5, 7, 10, 11, 12] (aD _ _) rfl rfl rfl (fun K hK => ?_)
        simp (disch := omega) only [Tryd.f34, go_sem, Nat.reduceAdd, Nat.reduceLT, reduceCtorEq, ↓reduceIte, d0, kyC, List.head?_cons, List.drop_succ_cons, List.drop_zero]
        refine hK _ ?_
        refine aB ?_
        refine eC (.tmp 16) rfl rfl rfl (fun h => ?_) (fun h => ?_)
        ·skip
         refine aI rfl ?_
         cases h
        ·skip
         refine aI rfl ?_
         refine aA rfl ?_
         refine aC (Γ := aL) [38, 0, 3, 5, 7, 10, 11, 12] (aD _ _) rfl rfl rfl (fun K hK => ?_)
         simp (disch := omega) only [Tryd.f34, go_sem, Nat.reduceAdd, Nat.reduceLT, reduceCtorEq, ↓reduceIte, d0, List.head?_cons, List.drop_succ_cons, List.drop_zero]
         refine hK _ ?_
         refine aB ?_
         refine eC (.tmp 38) rfl rfl rfl (fun h => ?_) (fun h => ?_)
         ·skip
          refine aI rfl ?_
          cases h
         ·skip
          refine aI rfl ?_
          refine aA rfl ?_
          refine aC (Γ := aL) [60, 0, 3, 5, 7, 10, 11, 12] (aD _ _) rfl rfl rfl (fun K hK => ?_)
          simp (disch := omega) only [Tryd.f34, go_sem, Nat.reduceAdd, Nat.reduceLT, ↓reduceIte, d1, b1, beq_self_eq_true, List.head?_cons, List.drop_succ_cons, List.drop_zero]
          refine hK _ ?_
          refine aB ?_
          refine eC (.tmp 60) rfl rfl rfl (fun h => ?_) (fun h => ?_)
          ·skip
           refine aI rfl ?_
           cases h
          ·skip
           refine aI rfl ?_
           refine aA rfl ?_
           refine aC (Γ := aL) [82, 0, 3, 5, 7, 10, 11, 12] (aD _ _) rfl rfl rfl (fun K hK => ?_)
           simp (disch := omega) only [Tryd.f34, go_sem, Nat.reduceAdd, Nat.reduceLT, Int.reduceLE, Int.reduceLT, BitVec.reduceOfInt, ↓reduceIte, d1, b2, bz, beq_self_eq_true, Bool.not_false, List.head?_cons, List.drop_succ_cons, List.drop_zero]
           refine hK _ ?_
           refine aB ?_
           refine eC (.tmp 82) rfl rfl rfl (fun h => ?_) (fun h => ?_)
           ·skip
            refine aI rfl ?_
            refine aA rfl ?_
            refine aC (Γ := bC [(23, .pure false ofG)]) [0, 3, 5, 7, 10, 11, 12, 97, 98, 99] (aH okh21 aO) rfl rfl rfl (fun K hK => ?_)
            simp (disch := omega) only [Tryd.f34, go_sem, Nat.reduceAdd, ↓reduceIte, hn, h0n, hRR]
            refine hK _ ?_
            refine aB ?_
            refine aR 3 rfl rfl ?_
            refine bR (fun p : KIC => { fr := [(0, .sl n (hP L)), (3, .op nx 0), (5, .os p.id 0 (inD F cf X R p.k).length 3 true), (7, .op (c + 1 + 2) 0), (10, .sl n (hP L)), (11, .i n), (12, .i k), (97, .sl R.length (hP R)), (98, .i R.length), (99, .i p.k)], hp := upd (upd (upd (fun _ => none) nx (.cells (cfC cf) true)) (c + 1 + 2) (.cells (kyC X) true)) p.id (.cells (jL (inD F cf X R p.k)) true), nx := 0, cx := p.c }) (fun p => p.k ≤ R.length ∧ nx < p.id ∧ p.id < p.c ∧ c + 3 < p.c ∧ p.id ≠ c + 1 + 2) (fun p => R.length - p.k) rfl ⟨⟨0, id, _⟩, ⟨Nat.zero_le _, by simp only; omega, by simp only; omega, by simp only; omega, by simp only; omega⟩, ⟨fun x => .inr (by rw [inD_zero]; rfl), fun j o hj => by { simp only [inD_zero, bJ] at hj ⊢; by_cases e : j = id; · { rw [if_pos e] at hj; rw [if_neg (by omega), if_pos e]; exact hj }; · { rw [if_neg e] at hj; by_cases e2 : j = c + 1 + 2; · { rw [if_pos e2] at hj ⊢; exact hj }; · { rw [if_neg e2] at hj ⊢; rw [if_neg e]; exact hj } } }, Nat.le_refl _⟩⟩ ?_
            rintro ⟨q, id2, c2⟩ ⟨hq, hq1, hq2, hq3, hq4⟩ n0
            simp only at hq hq1 hq2 hq3 hq4 ⊢
            refine aA rfl ?_
            refine aC (Γ := aL) [100, 0, 3, 5, 7, 10, 11, 12, 97, 98, 99] (aD _ _) rfl rfl rfl (fun K hK => ?_)
            simp (disch := omega) only [Tryd.f34, go_sem, ↓reduceIte]
            refine hK _ ?_
            refine aB ?_
            refine aA rfl ?_
            refine aW (.tmp 100) rfl rfl rfl (fun h => ?_) (fun h => ?_)
            ·skip
             refine aI rfl ?_
             have hqR : q < R.length := by omega
             have hrow2 := kys_row R q hqR
             have hkl2 := iJ R
             have hdl2 : 15 ≤ (List.drop (15 * q) (hP R)).length := by rw [List.length_drop]; omega
             have e152 : q * 15 = 15 * q := by omega
             have hfn3 := inD_next F cf X R q hqR
             obtain ⟨Y, hY⟩ : ∃ Y, kyA R q = Y := ⟨_, rfl⟩
             rw [hY] at hrow2 hfn3
             have hil := inD_len F cf X R q
             obtain ⟨G, hG⟩ : ∃ G, inD F cf X R q = G := ⟨_, rfl⟩
             rw [hG] at hil hfn3 ⊢
             have hgl : G.length ≤ 30000 := by omega
             have hgl2 := dusC_len G
             refine aQ rfl ?_
             refine aB ?_
             refine aA rfl ?_
             refine aR 4 rfl rfl ?_
             refine aA rfl ?_
             refine aC (Γ := aL) [0, 3, 5, 7, 9, 10, 11, 12, 97, 98, 99] (aD _ _) rfl rfl rfl (fun K hK => ?_)
             simp (disch := omega) only [Tryd.f34, go_sem, Nat.reduceAdd, Nat.reduceLeDiff, ↓reduceIte, hrow2, hdl2, e152]
             refine hK _ ?_
             refine aB ?_
             refine aA rfl ?_
             refine aC (Γ := aL) [107, 0, 3, 5, 7, 9, 10, 11, 12, 97, 98, 99] (aD _ _) rfl rfl rfl (fun K hK => ?_)
             simp (disch := omega) only [Tryd.f34, go_sem, Nat.reduceAdd, Nat.reduceLT, ↓reduceIte, kyC, List.head?_cons, List.drop_zero]
             refine hK _ ?_
             refine aB ?_
             refine aW (.tmp 107) rfl rfl rfl (fun h => ?_) (fun h => ?_)
             ·skip
              refine aI rfl ?_
              rw [if_pos h] at hfn3
              refine bB (Γ := bC [(45, .pure true behG)]) (fun k => if k = 12 then 4098 else 2) [0, 3, 5, 7, 10, 11, 12, 97, 98, 99] bZ (aH okh36 aO) rfl rfl rfl (by kernel_rfl) (fun K hK => ?_)
              simp (disch := omega) only [Tryd.f34, go_sem, Nat.reduceAdd, Nat.reduceLeDiff, Nat.reduceLT, ↓reduceIte, jI, hgl2, cK, List.nil_append, List.cons_append, List.head?_cons, List.take_succ_cons, List.take_zero, List.drop_succ_cons, List.drop_zero, List.all_cons, List.all_nil, Option.isSome_some, Bool.and_self]
              refine hK _ ?_
              refine bU (aB ?_)
              refine aC (Γ := aL) [0, 3, 5, 7, 10, 11, 12, 97, 98, 99] (aD _ _) rfl rfl rfl (fun K hK => ?_)
              simp (disch := omega) only [Tryd.f34, go_sem, Nat.reduceAdd, ↓reduceIte]
              refine hK _ ?_
              refine bT ?_
              refine ⟨⟨q + 1, c2 + 1 + 4 + 5 + 12, _⟩, ⟨by simp only; omega, by simp only; omega, by simp only; omega, by simp only; omega, by simp only; omega⟩, by simp only; omega, ⟨fun x => .inr (by simp only [hfn3, List.length_append, List.length_cons, List.length_nil, Nat.zero_add, Int.natCast_add, Int.natCast_one]), fun j o hj => ?_, Nat.le_refl _⟩⟩
              simp only [hfn3, bJ] at hj
              simp only [bJ, eV]
              by_cases e : j = c2 + 1 + 4 + 5 + 12
              ·rw [if_pos e] at hj ⊢; rw [← hj, dusC_app, dusC_one]; rfl
              ·rw [if_neg e] at hj ⊢
               by_cases e2 : j = c + 1 + 2
               ·rw [if_pos e2] at hj; rw [if_neg (by omega), if_neg (by omega), if_neg (by omega), if_neg (by omega), if_pos e2]; exact hj
               ·rw [if_neg e2] at hj
                by_cases e3 : j = nx
                ·rw [if_pos e3] at hj; rw [if_neg (by omega), if_neg (by omega), if_neg (by omega), if_neg (by omega), if_neg e2, if_pos e3]; exact hj
                ·rw [if_neg e3] at hj; cases hj
             ·skip
              refine aI rfl ?_
              rw [if_neg h, List.append_nil] at hfn3
              refine aQ rfl ?_
              refine bU (aB ?_)
              refine aC (Γ := aL) [0, 3, 5, 7, 10, 11, 12, 97, 98, 99] (aD _ _) rfl rfl rfl (fun K hK => ?_)
              simp (disch := omega) only [Tryd.f34, go_sem, Nat.reduceAdd, ↓reduceIte]
              refine hK _ ?_
              refine bT ?_
              refine ⟨⟨q + 1, id2, _⟩, ⟨by simp only; omega, by simp only; omega, by simp only; omega, by simp only; omega, by simp only; omega⟩, by simp only; omega, ⟨fun x => .inr (by simp only [hfn3, Int.natCast_add, Int.natCast_one]), fun j o hj => ?_, Nat.le_refl _⟩⟩
              simp only [hfn3, bJ] at hj
              simp only [bJ]
              by_cases e : j = id2
              ·rw [if_pos e] at hj; rw [if_neg (by omega), if_pos e]; exact hj
              ·rw [if_neg e] at hj
               by_cases e2 : j = c + 1 + 2
               ·rw [if_pos e2] at hj; rw [if_neg (by omega), if_neg e, if_pos e2]; exact hj
               ·rw [if_neg e2] at hj
                by_cases e3 : j = nx
                ·rw [if_pos e3] at hj; rw [if_neg (by omega), if_neg e, if_neg e2, if_pos e3]; exact hj
                ·rw [if_neg e3] at hj; cases hj
            ·skip
             refine aI rfl ?_
             refine bF 3 rfl rfl ?_
             refine aY (aZ (bE ?_))
             refine bU (bU (aB ?_))
             obtain rfl : q = R.length := by omega
             rw [← inD_all] at hfn
             obtain ⟨G, hG⟩ : ∃ G, inD F cf X R R.length = G := ⟨_, rfl⟩
             rw [hG] at hfn ⊢
             refine aC (Γ := aL) [0, 3, 5, 10, 11, 12] (aD _ _) rfl rfl rfl (fun K hK => ?_)
             simp (disch := omega) only [Tryd.f34, go_sem, Nat.reduceAdd, ↓reduceIte]
             refine hK _ ?_
             refine bT ?_
             refine ⟨⟨k + 1, id2, _⟩, ⟨by simp only; omega, by simp only; omega, by simp only; omega⟩, by simp only; omega, ⟨fun x => .inr (by simp only [hfn, Int.natCast_add, Int.natCast_one]), fun j o hj => ?_, Nat.le_refl _⟩⟩
             simp only [hfn, bJ] at hj
             simp only [bJ]
             by_cases e : j = id2
             ·rw [if_pos e] at hj ⊢; exact hj
             ·rw [if_neg e] at hj ⊢
              by_cases e2 : j = nx
              ·rw [if_pos e2] at hj; rw [if_neg (by omega), if_pos e2]; exact hj
              ·rw [if_neg e2] at hj; cases hj
           ·skip
            refine aI rfl ?_
            cases h
      ·skip
       have b2 : decide (X.st = 2) = false := decide_eq_false s2
       have hdu : iS L cf X = [] := by unfold iS; rw [if_neg r0, if_pos r1, if_neg s1, if_neg (fun e => s2 e.1)]
       rw [hdu] at hfn
       refine aR 2 rfl rfl ?_
       refine aA rfl ?_
       refine aC (Γ := aL) [16, 0, 3, 5, 7, 10, 11, 12] (aD _ _) rfl rfl rfl (fun K hK => ?_)
       simp (disch := omega) only [Tryd.f34, go_sem, Nat.reduceAdd, Nat.reduceLT, reduceCtorEq, ↓reduceIte, d0, kyC, List.head?_cons, List.drop_succ_cons, List.drop_zero]
       refine hK _ ?_
       refine aB ?_
       refine eC (.tmp 16) rfl rfl rfl (fun h => ?_) (fun h => ?_)
       ·skip
        refine aI rfl ?_
        cases h
       ·skip
        refine aI rfl ?_
        refine aA rfl ?_
        refine aC (Γ := aL) [38, 0, 3, 5, 7, 10, 11, 12] (aD _ _) rfl rfl rfl (fun K hK => ?_)
        simp (disch := omega) only [Tryd.f34, go_sem, Nat.reduceAdd, Nat.reduceLT, reduceCtorEq, ↓reduceIte, d0, List.head?_cons, List.drop_succ_cons, List.drop_zero]
        refine hK _ ?_
        refine aB ?_
        refine eC (.tmp 38) rfl rfl rfl (fun h => ?_) (fun h => ?_)
        ·skip
         refine aI rfl ?_
         cases h
        ·skip
         refine aI rfl ?_
         refine aA rfl ?_
         refine aC (Γ := aL) [60, 0, 3, 5, 7, 10, 11, 12] (aD _ _) rfl rfl rfl (fun K hK => ?_)
         simp (disch := omega) only [Tryd.f34, go_sem, Nat.reduceAdd, Nat.reduceLT, ↓reduceIte, d1, b1, beq_self_eq_true, List.head?_cons, List.drop_succ_cons, List.drop_zero]
         refine hK _ ?_
         refine aB ?_
         refine eC (.tmp 60) rfl rfl rfl (fun h => ?_) (fun h => ?_)
         ·skip
          refine aI rfl ?_
          cases h
         ·skip
          refine aI rfl ?_
          refine aA rfl ?_
          refine aC (Γ := aL) [82, 0, 3, 5, 7, 10, 11, 12] (aD _ _) rfl rfl rfl (fun K hK => ?_)
          simp (disch := omega) only [Tryd.f34, go_sem, Nat.reduceAdd, Nat.reduceLT, reduceCtorEq, ↓reduceIte, d1, b2, beq_self_eq_true, List.head?_cons, List.drop_succ_cons, List.drop_zero]
          refine hK _ ?_
          refine aB ?_
          refine eC (.tmp 82) rfl rfl rfl (fun h => ?_) (fun h => ?_)
          ·skip
           refine aI rfl ?_
           cases h
          ·skip
           refine aI rfl ?_
           refine aQ rfl ?_
           refine bU (bU (aB ?_))
           refine aC (Γ := aL) [0, 3, 5, 10, 11, 12] (aD _ _) rfl rfl rfl (fun K hK => ?_)
           simp (disch := omega) only [Tryd.f34, go_sem, Nat.reduceAdd, ↓reduceIte]
           refine hK _ ?_
           refine bT ?_
           refine ⟨⟨k + 1, id, _⟩, ⟨by simp only; omega, by simp only; omega, by simp only; omega⟩, by simp only; omega, ⟨fun x => .inr (by simp only [hfn, List.append_nil, Int.natCast_add, Int.natCast_one]), fun j o hj => ?_, Nat.le_refl _⟩⟩
           simp only [hfn, List.append_nil, bJ] at hj
           simp only [bJ]
           by_cases e : j = id
           ·rw [if_pos e] at hj; rw [if_neg (by omega), if_pos e]; exact hj
           ·rw [if_neg e] at hj
            by_cases e2 : j = nx
            ·rw [if_pos e2] at hj; rw [if_neg (by omega), if_neg e, if_pos e2]; exact hj
            ·rw [if_neg e2] at hj; cases hj
    ·skip
     have d1 : decide (X.role = 1) = false := decide_eq_false r1
     have hdu : iS L cf X = [] := by unfold iS; rw [if_neg r0, if_neg r1]
     rw [hdu] at hfn
     refine aR 2 rfl rfl ?_
     refine aA rfl ?_
     refine aC (Γ := aL) [16, 0, 3, 5, 7, 10, 11, 12] (aD _ _) rfl rfl rfl (fun K hK => ?_)
     simp (disch := omega) only [Tryd.f34, go_sem, Nat.reduceAdd, Nat.reduceLT, reduceCtorEq, ↓reduceIte, d0, kyC, List.head?_cons, List.drop_succ_cons, List.drop_zero]
     refine hK _ ?_
     refine aB ?_
     refine eC (.tmp 16) rfl rfl rfl (fun h => ?_) (fun h => ?_)
     ·skip
      refine aI rfl ?_
      cases h
     ·skip
      refine aI rfl ?_
      refine aA rfl ?_
      refine aC (Γ := aL) [38, 0, 3, 5, 7, 10, 11, 12] (aD _ _) rfl rfl rfl (fun K hK => ?_)
      simp (disch := omega) only [Tryd.f34, go_sem, Nat.reduceAdd, Nat.reduceLT, reduceCtorEq, ↓reduceIte, d0, List.head?_cons, List.drop_succ_cons, List.drop_zero]
      refine hK _ ?_
      refine aB ?_
      refine eC (.tmp 38) rfl rfl rfl (fun h => ?_) (fun h => ?_)
      ·skip
       refine aI rfl ?_
       cases h
      ·skip
       refine aI rfl ?_
       refine aA rfl ?_
       refine aC (Γ := aL) [60, 0, 3, 5, 7, 10, 11, 12] (aD _ _) rfl rfl rfl (fun K hK => ?_)
       simp (disch := omega) only [Tryd.f34, go_sem, Nat.reduceAdd, Nat.reduceLT, reduceCtorEq, ↓reduceIte, d1, List.head?_cons, List.drop_succ_cons, List.drop_zero]
       refine hK _ ?_
       refine aB ?_
       refine eC (.tmp 60) rfl rfl rfl (fun h => ?_) (fun h => ?_)
       ·skip
        refine aI rfl ?_
        cases h
       ·skip
        refine aI rfl ?_
        refine aA rfl ?_
        refine aC (Γ := aL) [82, 0, 3, 5, 7, 10, 11, 12] (aD _ _) rfl rfl rfl (fun K hK => ?_)
        simp (disch := omega) only [Tryd.f34, go_sem, Nat.reduceAdd, Nat.reduceLT, reduceCtorEq, ↓reduceIte, d1, List.head?_cons, List.drop_succ_cons, List.drop_zero]
        refine hK _ ?_
        refine aB ?_
        refine eC (.tmp 82) rfl rfl rfl (fun h => ?_) (fun h => ?_)
        ·skip
         refine aI rfl ?_
         cases h
        ·skip
         refine aI rfl ?_
         refine aQ rfl ?_
         refine bU (bU (aB ?_))
         refine aC (Γ := aL) [0, 3, 5, 10, 11, 12] (aD _ _) rfl rfl rfl (fun K hK => ?_)
         simp (disch := omega) only [Tryd.f34, go_sem, Nat.reduceAdd, ↓reduceIte]
         refine hK _ ?_
         refine bT ?_
         refine ⟨⟨k + 1, id, _⟩, ⟨by simp only; omega, by simp only; omega, by simp only; omega⟩, by simp only; omega, ⟨fun x => .inr (by simp only [hfn, List.append_nil, Int.natCast_add, Int.natCast_one]), fun j o hj => ?_, Nat.le_refl _⟩⟩
         simp only [hfn, List.append_nil, bJ] at hj
         simp only [bJ]
         by_cases e : j = id
         ·rw [if_pos e] at hj; rw [if_neg (by omega), if_pos e]; exact hj
         ·rw [if_neg e] at hj
          by_cases e2 : j = nx
          ·rw [if_pos e2] at hj; rw [if_neg (by omega), if_neg e, if_pos e2]; exact hj
          ·rw [if_neg e2] at hj; cases hj
  ·skip
   refine aI rfl ?_
   refine bF 0 rfl rfl ?_
   refine aY (aZ (bE ?_))
   refine aB ?_
   refine aA rfl ?_
   obtain rfl : k = n := by omega
   subst hn
   rw [List.take_length]
   have hll : (jL (alD L cf L)).length = (alD L cf L).length * 3 := by rw [dusC_len]; omega
   refine awp_sl 5 id 0 _ 3 rfl (by rw [bJ, if_pos rfl]) (by omega) ?_
   rw [List.drop_zero, List.take_of_length_le (by omega)]
   refine aC (Γ := aL) [4] (aD _ _) rfl rfl rfl (fun K hK => ?_)
   simp (disch := omega) only [Tryd.f34, go_sem, Nat.reduceAdd, ↓reduceIte]
   refine hK _ ?_
   refine aB ?_
   refine aS rfl ?_
   simp (disch := omega) only [cN, bV, bK, bQ, Tryd.f34, go_sem, ↓reduceIte]
 ·rename_i cs
  replace hg := aJ hg; obtain ⟨cf, hcf, hg⟩ := hg
  have := cfOf_inv hcf; subst this
  obtain rfl := Option.some.inj hg
  refine ⟨Nat.le_of_ble_eq_true rfl, fun nx => ?_⟩
  refine aA rfl ?_
  refine aC (Γ := aL) [0, 3] (aD _ _) rfl rfl rfl (fun K hK => ?_)
  simp (disch := omega) only [Tryd.f34, go_sem, Nat.reduceAdd, ↓reduceIte]
  refine hK _ ?_
  refine aB ?_
  refine aA rfl ?_
  refine aC (Γ := aL) [0, 3, 5] (aD _ _) rfl rfl rfl (fun K hK => ?_)
  simp (disch := omega) only [Tryd.f34, go_sem, ↓reduceIte]
  refine hK _ ?_
  refine aB ?_
  refine aA rfl ?_
  refine aA rfl ?_
  refine aC (Γ := aL) [0, 3, 5, 10, 11, 12] (aD _ _) rfl rfl rfl (fun K hK => ?_)
  simp (disch := omega) only [Tryd.f34, go_sem, Nat.reduceAdd, ↓reduceIte]
  refine hK _ ?_
  refine aB ?_
  refine iE 5 3 rfl ?_
  refine fF [0, 3, 5, 10, 11, 12] ?_
  simp only [iB, fU, eB, ↓reduceIte, Nat.reduceEqDiff]
  refine aR 0 rfl rfl ?_
  refine bR (fun u : Unit => { fr := [(0, .v (.slice none 0 0)), (3, .op nx 0), (5, .os (nx + 4 + 2) 0 0 3 true), (10, .v (.slice none 0 0)), (11, .i 0), (12, .i 0)], hp := upd (fun _ => none) (nx + 4 + 2) (.cells [] true), nx := 0, cx := nx + 4 + 2 + 1 }) (fun u => True) (fun u => 0) rfl ⟨(), trivial, ⟨fun _ => .inr rfl, fun j o hj => by { simp only [bJ] at hj ⊢; split at hj; · { rename_i e; rw [if_pos e]; exact hj }; · cases hj }, Nat.le_refl _⟩⟩ ?_
  rintro u hu n0
  simp only at hu ⊢
  refine aA rfl ?_
  refine aC (Γ := aL) [13, 0, 3, 5, 10, 11, 12] (aD _ _) rfl rfl rfl (fun K hK => ?_)
  simp (disch := omega) only [Tryd.f34, go_sem, Int.reduceLT, ↓reduceIte]
  refine hK _ ?_
  refine aB ?_
  refine aA rfl ?_
  refine eC (.tmp 13) rfl rfl rfl (fun h => ?_) (fun h => ?_)
  ·skip
   refine aI rfl ?_
   cases h
  ·skip
   refine aI rfl ?_
   refine bF 0 rfl rfl ?_
   refine aY (aZ (bE ?_))
   refine aB ?_
   refine aA rfl ?_
   refine awp_sl 5 (nx + 4 + 2) 0 0 3 rfl (by rw [bJ, if_pos rfl]) (by simp) ?_
   simp only [List.drop_zero, Nat.zero_mul, List.take_zero]
   refine aC (Γ := aL) [4] (aD _ _) rfl rfl rfl (fun K hK => ?_)
   simp (disch := omega) only [Tryd.f34, go_sem, Nat.reduceAdd, ↓reduceIte]
   refine hK _ ?_
   refine aB ?_
   refine aS rfl ?_
   simp (disch := omega) only [cN, bV, bK, bQ, Tryd.f34, go_sem, ↓reduceIte]
 ·cases hg
theorem okh27 : bX Tryd.prog GLh 34 (.pure false alG) := ⟨⟨_, Tryd.func34, rfl, rfl⟩, al_ok⟩
end Go.AX
namespace Go.AX
open Go Go.Proofs
set_option maxRecDepth 8000
def btr (b x : DU) : DU := if b.id = 0#32 ∨ x.w < b.w ∨ (x.w = b.w ∧ x.id < b.id) then x else b
def bestD (l : List DU) : DU := l.foldl btr du0
theorem bestD_next (D : List DU) (k : Nat) (hk : k < D.length) : bestD (D.take (k + 1)) = btr (bestD (D.take k)) (duA D k) := by
 have e : D[k] = duA D k := by simp [duA, List.getD_eq_getElem?_getD, hk]
 rw [bestD, List.take_add_one, List.getElem?_eq_getElem hk, List.foldl_append, e]
 rfl
def nxV (L : List KY) (c : CF) : DU := bestD (alD L c L)
theorem storeL3 (a b c x y z : AV) : dV [a, b, c] 0 [x, y, z] = [x, y, z] := (rfl)
attribute [go_sem] storeL3
theorem kysU_nil : kysU [] = some [] := kysU_C []
attribute [go_sem] kysU_nil
noncomputable def nxG : List AV → Option AV
 | [.sl n xs, .agg cs] => aK (kysU xs) fun L => aK (cfOf cs) fun c => aN (L.length = n ∧ n ≤ 100) (some (.tup (duC (nxV L c))))
 | [.v (.slice none 0 0), .agg cs] => aK (cfOf cs) fun _ => some (.tup (duC du0))
 | _ => none
theorem nxG_eq (n : Nat) (xs cs : List AV) : nxG [.sl n xs, .agg cs] = aK (kysU xs) fun L => aK (cfOf cs) fun c => aN (L.length = n ∧ n ≤ 100) (some (.tup (duC (nxV L c)))) := (rfl)
theorem nxG_nil (cs : List AV) : nxG [.v (.slice none 0 0), .agg cs] = aK (cfOf cs) fun _ => some (.tup (duC du0)) := (rfl)
attribute [go_sem] nxG_eq nxG_nil
set_option maxHeartbeats 1000000 in
theorem nx_ok : cL Tryd.prog GLh 16 nxG := by
 refine cC Tryd.func16 (aT rfl) ?_
 intro args r hg
 unfold nxG at hg
 split at hg
 ·rename_i n xs cs
  replace hg := aJ hg; obtain ⟨L, hL, hg⟩ := hg
  have := kysU_inv hL; subst this
  replace hg := aJ hg; obtain ⟨cf, hcf, hg⟩ := hg
  have := cfOf_inv hcf; subst this
  replace hg := aP hg; obtain ⟨⟨hn, hbig⟩, hg⟩ := hg
  obtain rfl := Option.some.inj hg
  refine ⟨Nat.le_of_ble_eq_true rfl, fun nx => ?_⟩
  obtain ⟨D, hD⟩ : ∃ D, alD L cf L = D := ⟨_, rfl⟩
  have hb : nxV L cf = bestD D := by rw [nxV, hD]
  rw [hb]
  have hll : D.length ≤ 20000 := by
   have h1 := alD_len L cf L
   have h2 : L.length * (L.length + 1) ≤ 100 * 101 := Nat.mul_le_mul (by omega) (by omega)
   rw [hD] at h1; omega
  have hno : dB (cfC cf) = true := rfl
  have hcl : 13 ≤ (cfC cf).length := Nat.le_of_ble_eq_true rfl
  have hct : List.take 13 (cfC cf) = cfC cf := rfl
  refine aA rfl ?_
  refine aC (Γ := aL) [0, 3] (aD _ _) rfl rfl rfl (fun K hK => ?_)
  simp (disch := omega) only [Tryd.f16, go_sem, Nat.reduceAdd, Int.reduceLE, Int.reduceLT, BitVec.reduceOfInt, ↓reduceIte]
  refine hK _ ?_
  refine aB ?_
  refine aA rfl ?_
  refine aC (Γ := aL) [0, 3, 7] (aD _ _) rfl rfl rfl (fun K hK => ?_)
  simp (disch := omega) only [Tryd.f16, go_sem, ↓reduceIte]
  refine hK _ ?_
  refine aB ?_
  refine aA rfl ?_
  refine aA rfl ?_
  refine aC (Γ := bC [(34, .pure false alG)]) [7, 12, 13, 14] (aH okh27 aO) rfl rfl rfl (fun K hK => ?_)
  simp (disch := omega) only [Tryd.f16, go_sem, Nat.reduceAdd, ↓reduceIte, hcl, hct, hcf, hn, hbig, hD]
  refine hK _ ?_
  refine aB ?_
  refine aR 0 rfl rfl ?_
  refine bR (fun p : KC => { fr := [(7, .op (nx + 4) 0), (12, .sl D.length (jL D)), (13, .i D.length), (14, .i p.k)], hp := upd (fun _ => none) (nx + 4) (.cells (duC (bestD (D.take p.k))) true), nx := 0, cx := p.c }) (fun p => p.k ≤ D.length ∧ nx + 4 < p.c) (fun p => D.length - p.k) rfl ⟨⟨0, _⟩, ⟨Nat.zero_le _, by simp only; omega⟩, ⟨fun x => .inr rfl, fun j o hj => by { simp only [bJ] at hj ⊢; split at hj; · { rename_i e; rw [if_pos e]; exact hj }; · cases hj }, Nat.le_refl _⟩⟩ ?_
  rintro ⟨k, c⟩ ⟨hk, hc⟩ n0
  simp only at hk hc ⊢
  refine aA rfl ?_
  refine aC (Γ := aL) [15, 7, 12, 13, 14] (aD _ _) rfl rfl rfl (fun K hK => ?_)
  simp (disch := omega) only [Tryd.f16, go_sem, ↓reduceIte]
  refine hK _ ?_
  refine aB ?_
  refine aA rfl ?_
  refine aW (.tmp 15) rfl rfl rfl (fun h => ?_) (fun h => ?_)
  ·skip
   refine aI rfl ?_
   have hkD : k < D.length := by omega
   have hrow := dus_row D k hkD
   have hkl := dusC_len D
   have hdl : 3 ≤ (List.drop (3 * k) (jL D)).length := by rw [List.length_drop]; omega
   have e3 : k * 3 = 3 * k := by omega
   have hfn := bestD_next D k hkD
   obtain ⟨B, hB⟩ : ∃ B, bestD (D.take k) = B := ⟨_, rfl⟩
   obtain ⟨X, hX⟩ : ∃ X, duA D k = X := ⟨_, rfl⟩
   rw [hX] at hrow hfn
   rw [hB] at hfn ⊢
   refine aQ rfl ?_
   refine aB ?_
   refine aA rfl ?_
   refine aR 1 rfl rfl ?_
   refine aA rfl ?_
   refine aC (Γ := aL) [7, 9, 12, 13, 14] (aD _ _) rfl rfl rfl (fun K hK => ?_)
   simp (disch := omega) only [Tryd.f16, go_sem, Nat.reduceAdd, Nat.reduceLeDiff, ↓reduceIte, hrow, hdl, e3]
   refine hK _ ?_
   refine aB ?_
   by_cases h1 : B.id = 0#32
   ·skip
    have d1 : decide (B.id = 0#32) = true := decide_eq_true h1
    have hbt : btr B X = X := by unfold btr; exact if_pos (.inl h1)
    rw [hbt] at hfn
    refine aA rfl ?_
    refine aC (Γ := aL) [41, 7, 9, 12, 13, 14] (aD _ _) rfl rfl rfl (fun K hK => ?_)
    simp (disch := omega) only [Tryd.f16, go_sem, Nat.reduceAdd, Nat.reduceLT, Int.reduceLE, Int.reduceLT, BitVec.reduceOfInt, ↓reduceIte, d1, duC, List.head?_cons, List.drop_zero]
    refine hK _ ?_
    refine aB ?_
    refine eC (.tmp 41) rfl rfl rfl (fun h => ?_) (fun h => ?_)
    ·skip
     refine aI rfl ?_
     refine aC (Γ := aL) [7, 12, 13, 14] (aD _ _) rfl rfl rfl (fun K hK => ?_)
     simp (disch := omega) only [Tryd.f16, go_sem, Nat.reduceAdd, Nat.reduceLeDiff, ↓reduceIte, List.take_succ_cons, List.take_zero, List.drop_zero]
     refine hK _ ?_
     refine bU (aB ?_)
     refine aC (Γ := aL) [7, 12, 13, 14] (aD _ _) rfl rfl rfl (fun K hK => ?_)
     simp (disch := omega) only [Tryd.f16, go_sem, Nat.reduceAdd, ↓reduceIte]
     refine hK _ ?_
     refine bT ?_
     refine ⟨⟨k + 1, _⟩, ⟨by simp only; omega, by simp only; omega⟩, by simp only; omega, ⟨fun x => .inr (by simp only [Int.natCast_add, Int.natCast_one]), fun j o hj => ?_, Nat.le_refl _⟩⟩
     simp only [hfn, bJ] at hj
     simp only [bJ]
     by_cases e : j = nx + 4
     ·rw [if_pos e] at hj ⊢; exact hj
     ·rw [if_neg e] at hj; cases hj
    ·skip
     refine aI rfl ?_
     cases h
   ·skip
    have d1 : decide (B.id = 0#32) = false := decide_eq_false h1
    by_cases h2 : X.w < B.w
    ·skip
     have d2 : decide (X.w < B.w) = true := decide_eq_true h2
     have hbt : btr B X = X := by unfold btr; exact if_pos (.inr (.inl h2))
     rw [hbt] at hfn
     refine aA rfl ?_
     refine aC (Γ := aL) [41, 7, 9, 12, 13, 14] (aD _ _) rfl rfl rfl (fun K hK => ?_)
     simp (disch := omega) only [Tryd.f16, go_sem, Nat.reduceAdd, Nat.reduceLT, Int.reduceLE, Int.reduceLT, BitVec.reduceOfInt, reduceCtorEq, ↓reduceIte, d1, d2, duC, List.head?_cons, List.drop_succ_cons, List.drop_zero]
     refine hK _ ?_
     refine aB ?_
     refine eC (.tmp 41) rfl rfl rfl (fun h => ?_) (fun h => ?_)
     ·skip
      refine aI rfl ?_
      refine aC (Γ := aL) [7, 12, 13, 14] (aD _ _) rfl rfl rfl (fun K hK => ?_)
      simp (disch := omega) only [Tryd.f16, go_sem, Nat.reduceAdd, Nat.reduceLeDiff, ↓reduceIte, List.take_succ_cons, List.take_zero, List.drop_zero]
      refine hK _ ?_
      refine bU (aB ?_)
      refine aC (Γ := aL) [7, 12, 13, 14] (aD _ _) rfl rfl rfl (fun K hK => ?_)
      simp (disch := omega) only [Tryd.f16, go_sem, Nat.reduceAdd, ↓reduceIte]
      refine hK _ ?_
      refine bT ?_
      refine ⟨⟨k + 1, _⟩, ⟨by simp only; omega, by simp only; omega⟩, by simp only; omega, ⟨fun x => .inr (by simp only [Int.natCast_add, Int.natCast_one]), fun j o hj => ?_, Nat.le_refl _⟩⟩
      simp only [hfn, bJ] at hj
      simp only [bJ]
      by_cases e : j = nx + 4
      ·rw [if_pos e] at hj ⊢; exact hj
      ·rw [if_neg e] at hj; cases hj
     ·skip
      refine aI rfl ?_
      cases h
    ·skip
     have d2 : decide (X.w < B.w) = false := decide_eq_false h2
     by_cases h3 : X.w = B.w
     ·skip
      have d3 : decide (X.w = B.w) = true := decide_eq_true h3
      by_cases h4 : X.id < B.id
      ·skip
       have d4 : decide (X.id < B.id) = true := decide_eq_true h4
       have hbt : btr B X = X := by unfold btr; exact if_pos (.inr (.inr ⟨h3, h4⟩))
       rw [hbt] at hfn
       refine aA rfl ?_
       refine aC (Γ := aL) [41, 7, 9, 12, 13, 14] (aD _ _) rfl rfl rfl (fun K hK => ?_)
       simp (disch := omega) only [Tryd.f16, go_sem, Nat.reduceAdd, Nat.reduceLT, Int.reduceLE, Int.reduceLT, BitVec.reduceOfInt, reduceCtorEq, ↓reduceIte, d1, d2, d3, d4, duC, List.head?_cons, List.drop_succ_cons, List.drop_zero]
       refine hK _ ?_
       refine aB ?_
       refine eC (.tmp 41) rfl rfl rfl (fun h => ?_) (fun h => ?_)
       ·skip
        refine aI rfl ?_
        refine aC (Γ := aL) [7, 12, 13, 14] (aD _ _) rfl rfl rfl (fun K hK => ?_)
        simp (disch := omega) only [Tryd.f16, go_sem, Nat.reduceAdd, Nat.reduceLeDiff, ↓reduceIte, List.take_succ_cons, List.take_zero, List.drop_zero]
        refine hK _ ?_
        refine bU (aB ?_)
        refine aC (Γ := aL) [7, 12, 13, 14] (aD _ _) rfl rfl rfl (fun K hK => ?_)
        simp (disch := omega) only [Tryd.f16, go_sem, Nat.reduceAdd, ↓reduceIte]
        refine hK _ ?_
        refine bT ?_
        refine ⟨⟨k + 1, _⟩, ⟨by simp only; omega, by simp only; omega⟩, by simp only; omega, ⟨fun x => .inr (by simp only [Int.natCast_add, Int.natCast_one]), fun j o hj => ?_, Nat.le_refl _⟩⟩
        simp only [hfn, bJ] at hj
        simp only [bJ]
        by_cases e : j = nx + 4
        ·rw [if_pos e] at hj ⊢; exact hj
        ·rw [if_neg e] at hj; cases hj
       ·skip
        refine aI rfl ?_
        cases h
      ·skip
       have d4 : decide (X.id < B.id) = false := decide_eq_false h4
       have hbt : btr B X = B := by unfold btr; exact if_neg (fun e => e.elim h1 (fun e => e.elim h2 (fun e => h4 e.2)))
       rw [hbt] at hfn
       refine aA rfl ?_
       refine aC (Γ := aL) [41, 7, 9, 12, 13, 14] (aD _ _) rfl rfl rfl (fun K hK => ?_)
       simp (disch := omega) only [Tryd.f16, go_sem, Nat.reduceAdd, Nat.reduceLT, Int.reduceLE, Int.reduceLT, BitVec.reduceOfInt, reduceCtorEq, ↓reduceIte, d1, d2, d3, d4, duC, List.head?_cons, List.drop_succ_cons, List.drop_zero]
       refine hK _ ?_
       refine aB ?_
       refine eC (.tmp 41) rfl rfl rfl (fun h => ?_) (fun h => ?_)
       ·skip
        refine aI rfl ?_
        cases h
       ·skip
        refine aI rfl ?_
        refine aQ rfl ?_
        refine bU (aB ?_)
        refine aC (Γ := aL) [7, 12, 13, 14] (aD _ _) rfl rfl rfl (fun K hK => ?_)
        simp (disch := omega) only [Tryd.f16, go_sem, Nat.reduceAdd, ↓reduceIte]
        refine hK _ ?_
        refine bT ?_
        refine ⟨⟨k + 1, _⟩, ⟨by simp only; omega, by simp only; omega⟩, by simp only; omega, ⟨fun x => .inr (by simp only [Int.natCast_add, Int.natCast_one]), fun j o hj => ?_, Nat.le_refl _⟩⟩
        simp only [hfn, bJ] at hj
        simp only [bJ]
        by_cases e : j = nx + 4
        ·rw [if_pos e] at hj; rw [if_neg (by omega), if_pos e]; exact hj
        ·rw [if_neg e] at hj; cases hj
     ·skip
      have d3 : decide (X.w = B.w) = false := decide_eq_false h3
      have hbt : btr B X = B := by unfold btr; exact if_neg (fun e => e.elim h1 (fun e => e.elim h2 (fun e => h3 e.1)))
      rw [hbt] at hfn
      refine aA rfl ?_
      refine aC (Γ := aL) [41, 7, 9, 12, 13, 14] (aD _ _) rfl rfl rfl (fun K hK => ?_)
      simp (disch := omega) only [Tryd.f16, go_sem, Nat.reduceAdd, Nat.reduceLT, Int.reduceLE, Int.reduceLT, BitVec.reduceOfInt, reduceCtorEq, ↓reduceIte, d1, d2, d3, duC, List.head?_cons, List.drop_succ_cons, List.drop_zero]
      refine hK _ ?_
      refine aB ?_
      refine eC (.tmp 41) rfl rfl rfl (fun h => ?_) (fun h => ?_)
      ·skip
       refine aI rfl ?_
       cases h
      ·skip
       refine aI rfl ?_
       refine aQ rfl ?_
       refine bU (aB ?_)
       refine aC (Γ := aL) [7, 12, 13, 14] (aD _ _) rfl rfl rfl (fun K hK => ?_)
       simp (disch := omega) only [Tryd.f16, go_sem, Nat.reduceAdd, ↓reduceIte]
       refine hK _ ?_
       refine bT ?_
       refine ⟨⟨k + 1, _⟩, ⟨by simp only; omega, by simp only; omega⟩, by simp only; omega, ⟨fun x => .inr (by simp only [Int.natCast_add, Int.natCast_one]), fun j o hj => ?_, Nat.le_refl _⟩⟩
       simp only [hfn, bJ] at hj
       simp only [bJ]
       by_cases e : j = nx + 4
       ·rw [if_pos e] at hj; rw [if_neg (by omega), if_pos e]; exact hj
       ·rw [if_neg e] at hj; cases hj
  ·skip
   refine aI rfl ?_
   refine bF 0 rfl rfl ?_
   refine aY (aZ (bE ?_))
   refine aB ?_
   refine aA rfl ?_
   obtain rfl : k = D.length := by omega
   rw [List.take_length]
   refine bB (Γ := aL) (fun _ => 2) [4, 5, 6] bZ (aD _ _) rfl rfl rfl (by kernel_rfl) (fun K hK => ?_)
   simp (disch := omega) only [Tryd.f16, go_sem, Nat.reduceAdd, Nat.reduceLT, ↓reduceIte, duC, List.head?_cons, List.drop_succ_cons, List.drop_zero]
   refine hK _ ?_
   refine aB ?_
   refine aS rfl ?_
   simp (disch := omega) only [cN, bV, bK, bQ, Tryd.f16, go_sem, ↓reduceIte]
   rfl
 ·rename_i cs
  replace hg := aJ hg; obtain ⟨cf, hcf, hg⟩ := hg
  have := cfOf_inv hcf; subst this
  obtain rfl := Option.some.inj hg
  refine ⟨Nat.le_of_ble_eq_true rfl, fun nx => ?_⟩
  have hno : dB (cfC cf) = true := rfl
  have hcl : 13 ≤ (cfC cf).length := Nat.le_of_ble_eq_true rfl
  have hct : List.take 13 (cfC cf) = cfC cf := rfl
  refine aA rfl ?_
  refine aC (Γ := aL) [0, 3] (aD _ _) rfl rfl rfl (fun K hK => ?_)
  simp (disch := omega) only [Tryd.f16, go_sem, Nat.reduceAdd, Int.reduceLE, Int.reduceLT, BitVec.reduceOfInt, ↓reduceIte]
  refine hK _ ?_
  refine aB ?_
  refine aA rfl ?_
  refine aC (Γ := aL) [0, 3, 7] (aD _ _) rfl rfl rfl (fun K hK => ?_)
  simp (disch := omega) only [Tryd.f16, go_sem, ↓reduceIte]
  refine hK _ ?_
  refine aB ?_
  refine aA rfl ?_
  refine aA rfl ?_
  refine aC (Γ := bC [(34, .pure false alG)]) [7, 12, 13, 14] (aH okh27 aO) rfl rfl rfl (fun K hK => ?_)
  simp (disch := omega) only [Tryd.f16, go_sem, Nat.reduceAdd, Nat.reduceLeDiff, ↓reduceIte, hcl, hct, hcf]
  refine hK _ ?_
  refine aB ?_
  refine aR 0 rfl rfl ?_
  refine bR (fun u : Unit => { fr := [(7, .op (nx + 4) 0), (12, .sl 0 []), (13, .i 0), (14, .i 0)], hp := upd (fun _ => none) (nx + 4) (.cells (duC du0) true), nx := 0, cx := nx + 4 + 20 }) (fun u => True) (fun u => 0) rfl ⟨(), trivial, ⟨fun _ => .inr rfl, fun j o hj => by { simp only [bJ] at hj ⊢; split at hj; · { rename_i e; rw [if_pos e]; exact hj }; · cases hj }, by simp only; omega⟩⟩ ?_
  rintro u hu n0
  simp only at hu ⊢
  refine aA rfl ?_
  refine aC (Γ := aL) [15, 7, 12, 13, 14] (aD _ _) rfl rfl rfl (fun K hK => ?_)
  simp (disch := omega) only [Tryd.f16, go_sem, Int.reduceLT, ↓reduceIte]
  refine hK _ ?_
  refine aB ?_
  refine aA rfl ?_
  refine eC (.tmp 15) rfl rfl rfl (fun h => ?_) (fun h => ?_)
  ·skip
   refine aI rfl ?_
   cases h
  ·skip
   refine aI rfl ?_
   refine bF 0 rfl rfl ?_
   refine aY (aZ (bE ?_))
   refine aB ?_
   refine aA rfl ?_
   refine bB (Γ := aL) (fun _ => 2) [4, 5, 6] bZ (aD _ _) rfl rfl rfl (by kernel_rfl) (fun K hK => ?_)
   simp (disch := omega) only [Tryd.f16, go_sem, Nat.reduceAdd, Nat.reduceLT, ↓reduceIte, duC, List.head?_cons, List.drop_succ_cons, List.drop_zero]
   refine hK _ ?_
   refine aB ?_
   refine aS rfl ?_
   simp (disch := omega) only [cN, bV, bK, bQ, Tryd.f16, go_sem, ↓reduceIte]
   rfl
 ·cases hg
theorem okh14 : bX Tryd.prog GLh 16 (.pure true nxG) := ⟨⟨_, Tryd.func16, rfl, rfl⟩, nx_ok⟩
end Go.AX
namespace Go.AX
open Go Go.Proofs
set_option maxRecDepth 8000
def ptrO : Option AO → Option Nat
 | some (.cells [.op d 0] _) => some d
 | _ => none
def w32O : Option AO → Option W32
 | some (.cells [.w32 n] _) => some n
 | _ => none
def osaO : Option AO → Option (Nat × Nat)
 | some (.cells [.os o 0 n 15 true] true) => some (o, n)
 | _ => none
noncomputable def kysO : Option AO → Option (List KY)
 | some (.cells xs true) => kysU xs
 | _ => none
theorem ptrO_c (d : Nat) (mt : Bool) : ptrO (some (.cells [.op d 0] mt)) = some d := (rfl)
theorem w32O_c (n : W32) (mt : Bool) : w32O (some (.cells [.w32 n] mt)) = some n := (rfl)
theorem osaO_c (o n : Nat) : osaO (some (.cells [.os o 0 n 15 true] true)) = some (o, n) := (rfl)
theorem kysO_c (L : List KY) : kysO (some (.cells (hP L) true)) = some L := kysU_C L
attribute [go_sem] ptrO_c w32O_c osaO_c kysO_c
theorem ptrO_inv {x : Option AO} {d : Nat} (h : ptrO x = some d) : ∃ mt, x = some (.cells [.op d 0] mt) := by
 unfold ptrO at h; split at h
 ·obtain rfl := Option.some.inj h; exact ⟨_, rfl⟩
 ·cases h
theorem osaO_inv {x : Option AO} {p : Nat × Nat} (h : osaO x = some p) : x = some (.cells [.os p.1 0 p.2 15 true] true) := by
 unfold osaO at h; split at h
 ·obtain rfl := Option.some.inj h; rfl
 ·cases h
theorem kysO_inv {x : Option AO} {L : List KY} (h : kysO x = some L) : x = some (.cells (hP L) true) := by
 unfold kysO at h; split at h
 ·rw [kysU_inv h]
 ·cases h
def tkV (k : KY) (st : Int) (now : W32) : KY := { k with st := st, since := now }
noncomputable def stG : List AV → H → Nat → Option (AV × H × Nat)
 | [.w32 id, .i st, .op rp 0, .rp [.w32 now], .op po 0], hp, nx => aK (ptrO (hp rp)) fun d => aK (osaO (hp po)) fun on => aK (kysO (hp on.1)) fun out => aK (iN hp d) fun t => aK (iK id t.C.by') fun k =>
   aN (on.2 = out.length ∧ on.2 ≤ 20000 ∧ (d ≠ rp ∧ d ≠ po ∧ d ≠ on.1) ∧ (t.s ≠ rp ∧ t.s ≠ po ∧ t.s ≠ on.1) ∧ (t.m ≠ rp ∧ t.m ≠ po ∧ t.m ≠ on.1) ∧ po ≠ on.1 ∧ rp ≠ po ∧ rp ≠ on.1)
    (some (.tup [], iL d t.s t.m (tnV t.C id st now).2 (upd (upd (del hp on.1) (nx + 173) (.cells (hP (out ++ [tkV k st now])) true)) po (.cells [.os (nx + 173) 0 (on.2 + 1) 15 true] true)), nx + 300))
 | _, _, _ => none
theorem stG_eq (id now : W32) (st : Int) (rp po : Nat) (hp : H) (nx : Nat) : stG [.w32 id, .i st, .op rp 0, .rp [.w32 now], .op po 0] hp nx = aK (ptrO (hp rp)) fun d => aK (osaO (hp po)) fun on => aK (kysO (hp on.1)) fun out => aK (iN hp d) fun t => aK (iK id t.C.by') fun k =>
   aN (on.2 = out.length ∧ on.2 ≤ 20000 ∧ (d ≠ rp ∧ d ≠ po ∧ d ≠ on.1) ∧ (t.s ≠ rp ∧ t.s ≠ po ∧ t.s ≠ on.1) ∧ (t.m ≠ rp ∧ t.m ≠ po ∧ t.m ≠ on.1) ∧ po ≠ on.1 ∧ rp ≠ po ∧ rp ≠ on.1)
    (some (.tup [], iL d t.s t.m (tnV t.C id st now).2 (upd (upd (del hp on.1) (nx + 173) (.cells (hP (out ++ [tkV k st now])) true)) po (.cells [.os (nx + 173) 0 (on.2 + 1) 15 true] true)), nx + 300)) := (rfl)
attribute [go_sem] stG_eq
set_option maxHeartbeats 1000000 in
theorem st_ok : cQ Tryd.prog GLh 24 stG := by
 refine gF Tryd.func24 (aT rfl) ?_
 intro args hp nx r hp' nx' hg
 unfold stG at hg
 split at hg
 ·rename_i id st rp now po
  replace hg := aJ hg; obtain ⟨d, h4, hg⟩ := hg
  obtain ⟨mt4, h4⟩ := ptrO_inv h4
  replace hg := aJ hg; obtain ⟨⟨o, n⟩, h6, hg⟩ := hg
  replace h6 := osaO_inv h6
  replace hg := aJ hg; obtain ⟨out, h7, hg⟩ := hg
  replace h7 := kysO_inv h7
  replace hg := aJ hg; obtain ⟨⟨s, m, C⟩, hD0, hg⟩ := hg
  have hD := iV hD0
  replace hg := aJ hg; obtain ⟨k, hk, hg⟩ := hg
  replace hg := aP hg; obtain ⟨⟨hn, hbig, ⟨a1, a3, a4⟩, ⟨b1, b3, b4⟩, ⟨c1, c3, c4⟩, e1, e2, e4⟩, hg⟩ := hg
  simp only [Option.some.injEq, Prod.mk.injEq] at hg hD hk hn hbig h6 h7 a1 a3 a4 b1 b3 b4 c1 c3 c4 e1 e2 e4; obtain ⟨rfl, rfl, rfl⟩ := hg
  refine ⟨Nat.le_of_ble_eq_true rfl, by omega, fun hnone => ?_⟩
  have h1 := hD.hd; have h2 := hD.hs; have h3 := hD.hm
  obtain ⟨n1, n2, n3, n4, n5, n6⟩ := hD.ne
  have hlt : ∀ k o, hp k = some o → k < nx := fun k o hk => gI hnone hk
  have hd := hlt _ _ h1
  have hs := hlt _ _ h2
  have hm := hlt _ _ h3
  have hrp := hlt _ _ h4
  have hpo := hlt _ _ h6
  have ho := hlt _ _ h7
  have hkl := iJ out
  refine aA rfl ?_
  refine aC (Γ := bC [(25, .heap keyG20)]) [0, 1, 2, 3, 4, 7] (aH okd17 aO) rfl rfl rfl (fun K hK => ?_)
  simp (disch := omega) only [Tryd.f24, go_sem, Nat.reduceAdd, Nat.reduceLeDiff, ↓reduceIte, hD0, h4, hk, kyR_y, encK_eq, List.head?_cons, List.drop_zero]
  refine hK _ ?_
  refine aB ?_
  have hru := rng_upd hD
  refine aA rfl ?_
  refine aC (Γ := bC [(26, .heap turnG20)]) [1, 3, 4, 7] (aH okd16 aO) rfl rfl rfl (fun K hK => ?_)
  simp (disch := omega) only [Tryd.f24, go_sem, Nat.reduceAdd, ↓reduceIte, hru, h4, List.drop_zero, List.head?_cons, List.drop_zero]
  refine hK _ ?_
  refine aB ?_
  refine aA rfl ?_
  refine bB (Γ := aL) (fun k => if k = 1 then 1 else 2) [4, 7] bZ (aD _ _) rfl rfl rfl (by kernel_rfl) (fun K hK => ?_)
  simp (disch := omega) only [Tryd.f24, go_sem, Nat.reduceAdd, Nat.reduceLeDiff, Nat.reduceLT, ↓reduceIte, List.head?_cons, List.set_cons_succ, List.set_cons_zero]
  refine hK _ ?_
  refine aB ?_
  refine aC (Γ := aL) [] (aD _ _) rfl rfl rfl (fun K hK => ?_)
  simp (disch := omega) only [Tryd.f24, go_sem, Nat.reduceAdd, Nat.reduceLeDiff, ↓reduceIte, h6, h7, hn, hkl, cK, List.nil_append, List.cons_append, List.head?_cons, List.set_cons_zero, List.take_succ_cons, List.take_zero, List.drop_succ_cons, List.drop_zero]
  refine hK _ ?_
  show HeapEnd _ _ _ _ _ _
  refine ⟨rfl, fun j oo hj => hU (fun j oo hj => ?_) j oo hj, by simp only; omega⟩
  simp only [bJ, eV, Nat.add_assoc, Nat.reduceAdd] at hj ⊢
  by_cases q1 : j = po
  ·rw [if_pos q1] at hj ⊢; rw [hn] at hj; exact hj
  ·rw [if_neg q1] at hj ⊢
   by_cases q2 : j = nx + 173
   ·rw [if_pos q2] at hj ⊢; rw [kysC_app, kysC_one] at hj; exact hj
   ·rw [if_neg q2] at hj ⊢
    by_cases q3 : j = o
    ·rw [if_pos q3] at hj; cases hj
    ·rw [if_neg q3] at hj ⊢
     have := hlt j oo hj
     rw [if_neg (by omega), if_neg (by omega)]; exact hj
 ·cases hg
theorem okh24 : bX Tryd.prog GLh 24 (.heap stG) := ⟨⟨_, Tryd.func24, rfl, rfl⟩, st_ok⟩
end Go.AX
namespace Go.AX
open Go Go.Proofs
set_option maxRecDepth 8000
def actV : List KY → RC → W32 → List KY → Option (List KY × RC)
 | [], C, _, out => some (out, C)
 | x :: r, C, now, out => if x.st = 1 then aK (iK x.id C.by') fun k => actV r (tnV C x.id 3 now).2 now (out ++ [tkV k 3 now]) else actV r C now out
def jF (c : CF) : Nat → RC → W32 → List KY → Option (List KY × RC)
 | 0, _, _, _ => none
 | f + 1, C, now, out =>
  if (nxV (iP C) c).id = 0#32 ∨ ¬ (nxV (iP C) c).w ≤ now then some (out, C)
  else aK (if (nxV (iP C) c).st = 1 then actV (gP 0 (iP C)) C now out else some (out, C)) fun p =>
   aK (iK (nxV (iP C) c).id p.2.by') fun k => jF c f (tnV p.2 (nxV (iP C) c).id (nxV (iP C) c).st now).2 now (p.1 ++ [tkV k (nxV (iP C) c).st now])
theorem putK_len {β : Type} (a : W32) (v : β) : ∀ (l : List (W32 × β)) (w : β), iK a l = some w → (putK a v l).length = l.length
 | [], _, h => by cases h
 | p :: r, w, h => by
  simp only [iK] at h
  simp only [putK]
  split
  ·rfl
  ·rename_i e
   rw [if_neg e] at h
   rw [List.length_cons, List.length_cons, putK_len a v r w h]
theorem delK_len {β : Type} (a : W32) : ∀ l : List (W32 × β), (delK a l).length ≤ l.length
 | [] => Nat.le_refl _
 | p :: r => by
  simp only [delK]
  split
  ·simp
  ·simp only [List.length_cons]
   have := delK_len a r
   omega
theorem tnV_len (C : RC) (id : W32) (st : Int) (now : W32) : (tnV C id st now).2.by'.length ≤ C.by'.length := by
 rcases hk : iK id C.by' with _ | k
 ·rw [tnV_n hk]; exact Nat.le_refl _
 ·rw [tnV_y hk]
  split
  ·exact Nat.le_refl _
  ·split
   ·exact delK_len _ _
   ·exact Nat.le_of_eq (putK_len _ _ _ _ hk)
@[irreducible] def stepN : Nat := 10000000
theorem stepN_eq : stepN = 10000000 := by unfold stepN; rfl
noncomputable def stepG : List AV → H → Nat → Option (AV × H × Nat)
 | [.op d 0, .agg cs, .w32 now], hp, nx => aK (iN hp d) fun t => aK (cfOf cs) fun c => aN (t.C.by'.length ≤ 100) (aK (jF c 100 t.C now []) fun R => some (.sl R.1.length (hP R.1), iL d t.s t.m R.2 hp, nx + stepN))
 | _, _, _ => none
theorem stepG_eq (d : Nat) (cs : List AV) (now : W32) (hp : H) (nx : Nat) : stepG [.op d 0, .agg cs, .w32 now] hp nx = aK (iN hp d) fun t => aK (cfOf cs) fun c => aN (t.C.by'.length ≤ 100) (aK (jF c 100 t.C now []) fun R => some (.sl R.1.length (hP R.1), iL d t.s t.m R.2 hp, nx + stepN)) := (rfl)
attribute [go_sem] stepG_eq
structure SIX where
 f : Nat
 C : RC
 out : List KY
 o : Nat
 c : Nat
structure AIX where
 q : Nat
 C : RC
 out : List KY
 o : Nat
 c : Nat
set_option maxHeartbeats 2000000 in
theorem step_ok : cQ Tryd.prog GLh 9 stepG := by
 refine gF Tryd.func9 (aT rfl) ?_
 intro args hp nx r hp' nx' hg
 unfold stepG at hg
 split at hg
 ·rename_i d cs now
  replace hg := aJ hg; obtain ⟨⟨s, m, C0⟩, hD0, hg⟩ := hg
  have hD := iV hD0
  replace hg := aJ hg; obtain ⟨cf, hcf, hg⟩ := hg
  have := cfOf_inv hcf; subst this
  replace hg := aP hg; obtain ⟨hC0, hg⟩ := hg
  replace hg := aJ hg; obtain ⟨R, hR, hg⟩ := hg
  simp only [Option.some.injEq, Prod.mk.injEq] at hg hD hC0 hR; obtain ⟨rfl, rfl, rfl⟩ := hg
  refine ⟨Nat.le_of_ble_eq_true rfl, Nat.le_add_right _ _, fun hnone => ?_⟩
  have h1 := hD.hd; have h2 := hD.hs; have h3 := hD.hm
  obtain ⟨n1, n2, n3, n4, n5, n6⟩ := hD.ne
  have hlt : ∀ k o, hp k = some o → k < nx := fun k o hk => gI hnone hk
  have hd := hlt _ _ h1
  have hs := hlt _ _ h2
  have hm := hlt _ _ h3
  have hno : dB (cfC cf) = true := rfl
  have hcl : 13 ≤ (cfC cf).length := Nat.le_of_ble_eq_true rfl
  have hct : List.take 13 (cfC cf) = cfC cf := rfl
  have hset := iQ hD
  have hN := stepN_eq
  rw [← hset, setR_set]
  refine aA rfl ?_
  refine aC (Γ := aL) [3, 4, 5] (aD _ _) rfl rfl rfl (fun K hK => ?_)
  simp (disch := omega) only [Tryd.f9, go_sem, Nat.reduceAdd, ↓reduceIte]
  refine hK _ ?_
  refine aB ?_
  refine awp_rp 4 (nx + 1) 0 rfl (by simp (disch := omega) only [jN, aV, bY, ↓reduceIte, eq_self] <;> rfl) ?_
  refine awp_rp 5 (nx + 2) 0 rfl (by simp (disch := omega) only [jN, aV, bY, ↓reduceIte, eq_self] <;> rfl) ?_
  refine fF [3, 4, 5] ?_
  simp only [iB, fU, eB, ↓reduceIte, Nat.reduceEqDiff, List.drop_zero]
  refine aA rfl ?_
  refine aC (Γ := aL) [3, 4, 5, 7] (aD _ _) rfl rfl rfl (fun K hK => ?_)
  simp (disch := omega) only [Tryd.f9, go_sem, ↓reduceIte]
  refine hK _ ?_
  refine aB ?_
  refine awp_ownC (nx + 4) 15 [] [] true (by simp (disch := omega) only [jN, aV, ↓reduceIte, eq_self] <;> rfl) (by omega) ?_
  simp (disch := omega) only [jJ, List.nil_append]
  refine aA rfl ?_
  refine aC (Γ := aL) [3, 4, 5, 7, 8] (aD _ _) rfl rfl rfl (fun K hK => ?_)
  simp (disch := omega) only [Tryd.f9, go_sem, Nat.reduceAdd, ↓reduceIte]
  refine hK _ ?_
  refine aB ?_
  refine aR 0 rfl rfl ?_
  refine bR (fun p : SIX => { fr := [(3, .op nx 0), (4, .rp (cfC cf)), (5, .rp [.w32 now]), (7, .op (nx + 4) 0), (8, .fn 24 [.op nx 0, .rp [.w32 now], .op (nx + 4) 0])], hp := iL d s m p.C (upd (upd (upd hp nx (.cells [.op d 0] true)) p.o (.cells (hP p.out) true)) (nx + 4) (.cells [.os p.o 0 p.out.length 15 true] true)), nx := 0, cx := p.c }) (fun p => jF cf p.f p.C now p.out = some R ∧ p.C.by'.length ≤ 100 ∧ p.f ≤ 100 ∧ p.out.length ≤ (100 - p.f) * 101 ∧ nx + 4 < p.o ∧ p.o < p.c ∧ p.c ≤ nx + 100 + 90000 * (100 - p.f)) (fun p => p.f) rfl ⟨⟨100, C0, [], nx + 4 + 1, _⟩, ⟨hR, hC0, Nat.le_refl _, Nat.zero_le _, by simp only; omega, by simp only; omega, by simp only; omega⟩, ⟨fun x => .inr rfl, fun j o hj => hU (fun j o hj => by { simp only [bJ] at hj ⊢; by_cases q1 : j = nx + 4; · { rw [if_pos q1] at hj ⊢; exact hj }; rw [if_neg q1] at hj ⊢; by_cases q2 : j = nx + 4 + 1; · { rw [if_pos q2] at hj ⊢; exact hj }; rw [if_neg q2] at hj; rw [if_neg q2, if_neg q1]; by_cases q3 : j = nx; · { rw [if_pos q3] at hj; rw [if_neg (by omega), if_neg (by omega), if_neg (by omega), if_neg (by omega), if_pos q3]; exact hj }; rw [if_neg q3] at hj; have := hlt j o hj; rw [if_neg (by omega), if_neg (by omega), if_neg (by omega), if_neg (by omega), if_neg q3]; exact hj }) j o hj, Nat.le_refl _⟩⟩ ?_
  rintro ⟨f, C, out, o, c⟩ ⟨hst, hC, hf, hout, ho1, ho2, hcc⟩ n0
  simp only at hst hC hf hout ho1 ho2 hcc ⊢
  have hal := allL_len C
  have hC2 : C.by'.length ≤ 1000 := by omega
  obtain ⟨f, rfl⟩ : ∃ f', f = f' + 1 := by
   cases f with
   | zero => cases hst
   | succ f => exact ⟨f, rfl⟩
  obtain ⟨B, hB⟩ : ∃ B, nxV (iP C) cf = B := ⟨_, rfl⟩
  rw [jF, hB] at hst
  have hol : out.length ≤ 20000 := by omega
  refine aR 1 rfl rfl ?_
  refine aA rfl ?_
  refine bB (Γ := bC [(10, .heap allG), (16, .pure true nxG)]) (fun k => if k = 2 then 1 else if k = 1 then 0 else 2) [3, 4, 5, 7, 8, 9, 10, 11] bZ (aH okd15 (aH okh14 aO)) rfl rfl rfl (by kernel_rfl) (fun K hK => ?_)
  simp (disch := omega) only [Tryd.f9, go_sem, Nat.reduceAdd, ↓reduceIte, hC, hC2, hal, hcf, hno, hcl, hct, hB, duC, List.head?_cons, List.drop_zero, Bool.and_self]
  refine hK _ ?_
  refine aB ?_
  by_cases hid : B.id = 0#32
  ·skip
   have d1 : decide (B.id = 0#32) = true := decide_eq_true hid
   rw [if_pos (.inl hid)] at hst
   obtain rfl := Option.some.inj hst
   refine aA rfl ?_
   refine aA rfl ?_
   refine aC (Γ := bC [(27, .pure true dueG)]) [30, 3, 4, 5, 7, 8, 9, 10] (aH okh26 aO) rfl rfl rfl (fun K hK => ?_)
   simp (disch := omega) only [Tryd.f9, go_sem, Nat.reduceAdd, Int.reduceLE, Int.reduceLT, BitVec.reduceOfInt, ↓reduceIte, d1]
   refine hK _ ?_
   refine aB ?_
   refine eC (.tmp 30) rfl rfl rfl (fun h => ?_) (fun h => ?_)
   ·skip
    refine aI rfl ?_
    refine aA rfl ?_
    refine aC (Γ := aL) [6] (aD _ _) rfl rfl rfl (fun K hK => ?_)
    simp (disch := omega) only [Tryd.f9, go_sem, Nat.reduceAdd, ↓reduceIte]
    refine hK _ ?_
    refine aB ?_
    refine awp_sl 6 o 0 out.length 15 rfl (by simp (disch := omega) only [jN, aV, bY, ↓reduceIte, eq_self] <;> rfl) (by rw [iJ]; omega) ?_
    rw [List.drop_zero, List.take_of_length_le (by rw [iJ]; omega)]
    refine aS rfl ?_
    refine bI (bN (dF (bN ?_)))
    refine ⟨rfl, fun j oo hj => ?_, by simp only; omega⟩
    simp (disch := omega) only [jJ]
    refine hU (fun j oo hj => ?_) j oo hj
    have := hlt j oo hj
    simp (disch := omega) only [aV, bY, ↓reduceIte]
    exact hj
   ·skip
    refine aI rfl ?_
    cases h
  ·skip
   have d1 : decide (B.id = 0#32) = false := decide_eq_false hid
   by_cases hw : B.w ≤ now
   ·skip
    have d2 : decide (B.w ≤ now) = true := decide_eq_true hw
    rw [if_neg (fun e => e.elim hid (fun e => e hw))] at hst
    have hpos : 0 < C.by'.length := by
     rcases Nat.eq_zero_or_pos C.by'.length with e | e
     ·have : iP C = [] := List.eq_nil_of_length_eq_zero (by omega)
      rw [this] at hB
      exact absurd (by rw [← hB]; rfl) hid
     ·exact e
    refine aA rfl ?_
    refine aA rfl ?_
    refine aC (Γ := bC [(27, .pure true dueG)]) [30, 3, 4, 5, 7, 8, 9, 10] (aH okh26 aO) rfl rfl rfl (fun K hK => ?_)
    simp (disch := omega) only [Tryd.f9, go_sem, Nat.reduceAdd, Int.reduceLE, Int.reduceLT, BitVec.reduceOfInt, reduceCtorEq, ↓reduceIte, d1, d2, Bool.not_true, List.head?_cons]
    refine hK _ ?_
    refine aB ?_
    refine eC (.tmp 30) rfl rfl rfl (fun h => ?_) (fun h => ?_)
    ·skip
     refine aI rfl ?_
     cases h
    ·skip
     refine aI rfl ?_
     refine aQ rfl ?_
     refine aB ?_
     refine aA rfl ?_
     refine aA rfl ?_
     refine aC (Γ := aL) [33, 3, 4, 5, 7, 8, 9, 10] (aD _ _) rfl rfl rfl (fun K hK => ?_)
     simp (disch := omega) only [Tryd.f9, go_sem, Nat.reduceAdd, ↓reduceIte]
     refine hK _ ?_
     refine aB ?_
     refine aW (.tmp 33) rfl rfl rfl (fun h => ?_) (fun h => ?_)
     ·skip
      refine aI rfl ?_
      rw [if_pos h] at hst
      replace hst := aJ hst; obtain ⟨P1, hP1, hst⟩ := hst
      replace hst := aJ hst; obtain ⟨k, hk, hst⟩ := hst
      obtain ⟨Z, hZ⟩ : ∃ Z, gP 0 (iP C) = Z := ⟨_, rfl⟩
      have hZl : Z.length ≤ 100 := by have := jP 0 (iP C); rw [hZ] at this; omega
      rw [hZ] at hP1
      have hcx : ∃ c0, c + 11 + 200 + 100 * C.by'.length = c0 := ⟨_, rfl⟩
      refine aA rfl ?_
      refine aC (Γ := bC [(10, .heap allG), (23, .pure false ofG)]) [3, 4, 5, 7, 8, 9, 10, 36, 37, 38] (aH okd15 (aH okh21 aO)) rfl rfl rfl (fun K hK => ?_)
      simp (disch := omega) only [Tryd.f9, go_sem, Nat.reduceAdd, ↓reduceIte, hC2, hal, hpos, hZ]
      refine hK _ ?_
      refine aB ?_
      refine aR 2 rfl rfl ?_
      refine bR (fun p : AIX => { fr := [(3, .op nx 0), (4, .rp (cfC cf)), (5, .rp [.w32 now]), (7, .op (nx + 4) 0), (8, .fn 24 [.op nx 0, .rp [.w32 now], .op (nx + 4) 0]), (9, .w32 B.id), (10, .i B.st), (36, .sl Z.length (hP Z)), (37, .i Z.length), (38, .i p.q)], hp := iL d s m p.C (upd (upd (upd hp nx (.cells [.op d 0] true)) p.o (.cells (hP p.out) true)) (nx + 4) (.cells [.os p.o 0 p.out.length 15 true] true)), nx := 0, cx := p.c }) (fun p => actV (Z.drop p.q) p.C now p.out = some P1 ∧ p.q ≤ Z.length ∧ p.C.by'.length ≤ 100 ∧ p.out.length ≤ out.length + p.q ∧ nx + 4 < p.o ∧ p.o < p.c ∧ p.c ≤ c + 30000 + 400 * p.q) (fun p => Z.length - p.q) rfl ⟨⟨0, C, out, o, _⟩, ⟨hP1, Nat.zero_le _, hC, Nat.le_refl _, by simp only; omega, by simp only; omega, by simp only; omega⟩, ⟨fun x => .inr rfl, fun j o hj => hj, Nat.le_refl _⟩⟩ ?_
      rintro ⟨q, C1, out1, o1, c1⟩ ⟨hac, hq, hC1, hout1, ho3, ho4, hcc1⟩ n0
      simp only at hac hq hC1 hout1 ho3 ho4 hcc1 ⊢
      refine aA rfl ?_
      refine aC (Γ := aL) [39, 3, 4, 5, 7, 8, 9, 10, 36, 37, 38] (aD _ _) rfl rfl rfl (fun K hK => ?_)
      simp (disch := omega) only [Tryd.f9, go_sem, ↓reduceIte]
      refine hK _ ?_
      refine aB ?_
      refine aA rfl ?_
      refine aW (.tmp 39) rfl rfl rfl (fun h => ?_) (fun h => ?_)
      ·skip
       refine aI rfl ?_
       have hqZ : q < Z.length := by omega
       have hrow := kys_row Z q hqZ
       have hkl := iJ Z
       have hdl : 15 ≤ (List.drop (15 * q) (hP Z)).length := by rw [List.length_drop]; omega
       have e15 : q * 15 = 15 * q := by omega
       have hdr : Z.drop q = kyA Z q :: Z.drop (q + 1) := by rw [List.drop_eq_getElem_cons hqZ, kyA_get Z q hqZ]
       obtain ⟨X, hX⟩ : ∃ X, kyA Z q = X := ⟨_, rfl⟩
       rw [hX] at hrow hdr
       rw [hdr, actV] at hac
       have hol1 : out1.length ≤ 20000 := by omega
       refine aQ rfl ?_
       refine aB ?_
       refine aA rfl ?_
       refine aR 3 rfl rfl ?_
       refine aA rfl ?_
       refine aC (Γ := aL) [3, 4, 5, 7, 8, 9, 10, 13, 36, 37, 38] (aD _ _) rfl rfl rfl (fun K hK => ?_)
       simp (disch := omega) only [Tryd.f9, go_sem, Nat.reduceAdd, Nat.reduceLeDiff, ↓reduceIte, hrow, hdl, e15]
       refine hK _ ?_
       refine aB ?_
       refine aA rfl ?_
       refine aC (Γ := aL) [44, 3, 4, 5, 7, 8, 9, 10, 13, 36, 37, 38] (aD _ _) rfl rfl rfl (fun K hK => ?_)
       simp (disch := omega) only [Tryd.f9, go_sem, Nat.reduceAdd, Nat.reduceLT, ↓reduceIte, kyC, List.head?_cons, List.drop_succ_cons, List.drop_zero]
       refine hK _ ?_
       refine aB ?_
       refine aW (.tmp 44) rfl rfl rfl (fun h => ?_) (fun h => ?_)
       ·skip
        refine aI rfl ?_
        rw [if_pos h] at hac
        replace hac := aJ hac; obtain ⟨k1, hk1, hac⟩ := hac
        refine aC (Γ := bC [(24, .heap stG)]) [3, 4, 5, 7, 8, 9, 10, 36, 37, 38] (aH okh24 aO) rfl rfl rfl (fun K hK => ?_)
        simp (disch := omega) only [Tryd.f9, go_sem, Nat.reduceAdd, Nat.reduceLT, ↓reduceIte, hk1, hol1, true_and, List.head?_cons, List.drop_zero]
        refine hK _ ?_
        refine bU (aB ?_)
        refine aC (Γ := aL) [3, 4, 5, 7, 8, 9, 10, 36, 37, 38] (aD _ _) rfl rfl rfl (fun K hK => ?_)
        simp (disch := omega) only [Tryd.f9, go_sem, Nat.reduceAdd, ↓reduceIte]
        refine hK _ ?_
        refine bT ?_
        have hll : (out1 ++ [tkV k1 3 now]).length = out1.length + 1 := by rw [List.length_append]; rfl
        have htl := tnV_len C1 X.id 3 now
        refine ⟨⟨q + 1, (tnV C1 X.id 3 now).2, out1 ++ [tkV k1 3 now], c1 + 1 + 4 + 3 + 4 + 173, _⟩, ⟨hac, by simp only; omega, by simp only; omega, by simp only [hll]; omega, by simp only; omega, by simp only; omega, by simp only; omega⟩, by simp only; omega, ⟨fun x => .inr (by simp only [Int.natCast_add, Int.natCast_one]), fun j oo hj => hU (fun j oo hj => ?_) j oo hj, Nat.le_refl _⟩⟩
        simp only [bJ, eV, hll] at hj ⊢
        by_cases q1 : j = nx + 4
        ·rw [if_pos q1] at hj ⊢; exact hj
        ·rw [if_neg q1] at hj ⊢
         by_cases q2 : j = c1 + 1 + 4 + 3 + 4 + 173
         ·rw [if_pos q2] at hj ⊢; exact hj
         ·rw [if_neg q2] at hj ⊢
          by_cases q3 : j = nx
          ·rw [if_pos q3] at hj; rw [if_neg (by omega), if_neg (by omega), if_neg (by omega), if_neg (by omega), if_pos q3]; exact hj
          ·rw [if_neg q3] at hj
           have := hlt j oo hj
           rw [if_neg (by omega), if_neg (by omega), if_neg (by omega), if_neg (by omega), if_neg q3]; exact hj
       ·skip
        refine aI rfl ?_
        rw [if_neg h] at hac
        refine aQ rfl ?_
        refine bU (aB ?_)
        refine aC (Γ := aL) [3, 4, 5, 7, 8, 9, 10, 36, 37, 38] (aD _ _) rfl rfl rfl (fun K hK => ?_)
        simp (disch := omega) only [Tryd.f9, go_sem, Nat.reduceAdd, ↓reduceIte]
        refine hK _ ?_
        refine bT ?_
        refine ⟨⟨q + 1, C1, out1, o1, _⟩, ⟨hac, by simp only; omega, hC1, by simp only; omega, by simp only; omega, by simp only; omega, by simp only; omega⟩, by simp only; omega, ⟨fun x => .inr (by simp only [Int.natCast_add, Int.natCast_one]), fun j oo hj => hU (fun j oo hj => ?_) j oo hj, Nat.le_refl _⟩⟩
        simp only [bJ] at hj ⊢
        by_cases q1 : j = nx + 4
        ·rw [if_pos q1] at hj; rw [if_neg (by omega), if_pos q1]; exact hj
        ·rw [if_neg q1] at hj
         by_cases q2 : j = o1
         ·rw [if_pos q2] at hj; rw [if_neg (by omega), if_neg q1, if_pos q2]; exact hj
         ·rw [if_neg q2] at hj
          by_cases q3 : j = nx
          ·rw [if_pos q3] at hj; rw [if_neg (by omega), if_neg q1, if_neg q2, if_pos q3]; exact hj
          ·rw [if_neg q3] at hj
           have := hlt j oo hj
           rw [if_neg (by omega), if_neg q1, if_neg q2, if_neg q3]; exact hj
      ·skip
       refine aI rfl ?_
       refine bF 2 rfl rfl ?_
       refine aY (aZ (bE ?_))
       refine aB ?_
       obtain rfl : q = Z.length := by omega
       rw [List.drop_length, actV] at hac
       obtain rfl := Option.some.inj hac
       have hol : out1.length ≤ 20000 := by omega
       refine aC (Γ := bC [(24, .heap stG)]) [3, 4, 5, 7, 8] (aH okh24 aO) rfl rfl rfl (fun K hK => ?_)
       simp (disch := omega) only [Tryd.f9, go_sem, Nat.reduceAdd, ↓reduceIte, hk, hol, true_and]
       refine hK _ ?_
       refine bU (bT ?_)
       have hll : (out1 ++ [tkV k B.st now]).length = out1.length + 1 := by rw [List.length_append]; rfl
       have htl := tnV_len C1 B.id B.st now
       refine ⟨⟨f, (tnV C1 B.id B.st now).2, out1 ++ [tkV k B.st now], c1 + 1 + 4 + 173, _⟩, ⟨hst, by simp only; omega, by simp only; omega, by simp only [hll]; omega, by simp only; omega, by simp only; omega, by simp only; omega⟩, by simp only; omega, ⟨fun x => .inr rfl, fun j oo hj => hU (fun j oo hj => ?_) j oo hj, Nat.le_refl _⟩⟩
       simp only [bJ, eV, hll] at hj ⊢
       by_cases q1 : j = nx + 4
       ·rw [if_pos q1] at hj ⊢; exact hj
       ·rw [if_neg q1] at hj ⊢
        by_cases q2 : j = c1 + 1 + 4 + 173
        ·rw [if_pos q2] at hj ⊢; exact hj
        ·rw [if_neg q2] at hj ⊢
         by_cases q3 : j = nx
         ·rw [if_pos q3] at hj; rw [if_neg (by omega), if_neg (by omega), if_neg (by omega), if_pos q3]; exact hj
         ·rw [if_neg q3] at hj
          have := hlt j oo hj
          rw [if_neg (by omega), if_neg (by omega), if_neg (by omega), if_neg q3]; exact hj
     ·skip
      refine aI rfl ?_
      rw [if_neg h] at hst
      rw [aX] at hst
      replace hst := aJ hst; obtain ⟨k, hk, hst⟩ := hst
      refine aQ rfl ?_
      refine aB ?_
      refine aC (Γ := bC [(24, .heap stG)]) [3, 4, 5, 7, 8] (aH okh24 aO) rfl rfl rfl (fun K hK => ?_)
      simp (disch := omega) only [Tryd.f9, go_sem, Nat.reduceAdd, ↓reduceIte, hk, hol, true_and]
      refine hK _ ?_
      refine bU (bT ?_)
      have hll : (out ++ [tkV k B.st now]).length = out.length + 1 := by rw [List.length_append]; rfl
      have htl := tnV_len C B.id B.st now
      refine ⟨⟨f, (tnV C B.id B.st now).2, out ++ [tkV k B.st now], c + 11 + 200 + 100 * C.by'.length + 8 + 2 + 4 + 173, _⟩, ⟨hst, by simp only; omega, by simp only; omega, by simp only [hll]; omega, by simp only; omega, by simp only; omega, by simp only; omega⟩, by simp only; omega, ⟨fun x => .inr rfl, fun j oo hj => hU (fun j oo hj => ?_) j oo hj, Nat.le_refl _⟩⟩
      simp only [bJ, eV, hll] at hj ⊢
      by_cases q1 : j = nx + 4
      ·rw [if_pos q1] at hj ⊢; exact hj
      ·rw [if_neg q1] at hj ⊢
       by_cases q2 : j = c + 11 + 200 + 100 * C.by'.length + 8 + 2 + 4 + 173
       ·rw [if_pos q2] at hj ⊢; exact hj
       ·rw [if_neg q2] at hj ⊢
        by_cases q3 : j = nx
        ·rw [if_pos q3] at hj; rw [if_neg (by omega), if_neg (by omega), if_neg (by omega), if_pos q3]; exact hj
        ·rw [if_neg q3] at hj
         have := hlt j oo hj
         rw [if_neg (by omega), if_neg (by omega), if_neg (by omega), if_neg q3]; exact hj
   ·skip
    have d2 : decide (B.w ≤ now) = false := decide_eq_false hw
    rw [if_pos (.inr hw)] at hst
    obtain rfl := Option.some.inj hst
    refine aA rfl ?_
    refine aA rfl ?_
    refine aC (Γ := bC [(27, .pure true dueG)]) [30, 3, 4, 5, 7, 8, 9, 10] (aH okh26 aO) rfl rfl rfl (fun K hK => ?_)
    simp (disch := omega) only [Tryd.f9, go_sem, Nat.reduceAdd, Int.reduceLE, Int.reduceLT, BitVec.reduceOfInt, reduceCtorEq, ↓reduceIte, d1, d2, Bool.not_false, List.head?_cons]
    refine hK _ ?_
    refine aB ?_
    refine eC (.tmp 30) rfl rfl rfl (fun h => ?_) (fun h => ?_)
    ·skip
     refine aI rfl ?_
     refine aA rfl ?_
     refine aC (Γ := aL) [6] (aD _ _) rfl rfl rfl (fun K hK => ?_)
     simp (disch := omega) only [Tryd.f9, go_sem, Nat.reduceAdd, ↓reduceIte]
     refine hK _ ?_
     refine aB ?_
     refine awp_sl 6 o 0 out.length 15 rfl (by simp (disch := omega) only [jN, aV, bY, ↓reduceIte, eq_self] <;> rfl) (by rw [iJ]; omega) ?_
     rw [List.drop_zero, List.take_of_length_le (by rw [iJ]; omega)]
     refine aS rfl ?_
     refine bI (bN (dF (bN ?_)))
     refine ⟨rfl, fun j oo hj => ?_, by simp only; omega⟩
     simp (disch := omega) only [jJ]
     refine hU (fun j oo hj => ?_) j oo hj
     have := hlt j oo hj
     simp (disch := omega) only [aV, bY, ↓reduceIte]
     exact hj
    ·skip
     refine aI rfl ?_
     cases h
 ·cases hg
theorem okh12 : bX Tryd.prog GLh 9 (.heap stepG) := ⟨⟨_, Tryd.func9, rfl, rfl⟩, step_ok⟩
end Go.AX
namespace Go.AX
open Go Go.Proofs
set_option maxRecDepth 8000
def bgS (role : Int) (n : Nat) : Option Int := if n = 0 then some (if role = 0 then 1 else 2) else if n = 1 then some (if role = 0 then 0 else 1) else none
def bgV (C : RC) (role : Int) (seed : S8) (now : W32) : W32 × Int × RC :=
 if role ≠ 0 ∧ role ≠ 1 then (0#32, 131, C) else
 match bgS role (gP role (iP C)).length with
 | none => (0#32, 140, C)
 | some st => if (mkV C role seed st now).2.1 ≠ 0 then (0#32, (mkV C role seed st now).2.1, (mkV C role seed st now).2.2)
  else ((mkV C role seed st now).1, 0, if st = 2 then (snV (mkV C role seed st now).2.2 (mkV C role seed st now).1 now).2 else (mkV C role seed st now).2.2)
noncomputable def bgG : List AV → H → Nat → Option (AV × H × Nat)
 | [.op d 0, .agg cs, .i role, .agg xs, .w32 now], hp, nx => aK (iN hp d) fun t => aK (cfOf cs) fun _ => aK (un8 xs) fun l => aK (s8L l) fun sd => aN (ROk t.C ∧ t.C.last.toNat < 1000000 ∧ t.C.c.h ≤ 10 ∧ 0 < t.C.by'.length ∧ t.C.by'.length ≤ 100)
   (some (.tup [.w32 (bgV t.C role sd now).1, .i (bgV t.C role sd now).2.1], iL d t.s t.m (bgV t.C role sd now).2.2 hp, nx + 20000))
 | _, _, _ => none
theorem bgG_eq (d : Nat) (cs : List AV) (role : Int) (now : W32) (xs : List AV) (hp : H) (nx : Nat) : bgG [.op d 0, .agg cs, .i role, .agg xs, .w32 now] hp nx = aK (iN hp d) fun t => aK (cfOf cs) fun _ => aK (un8 xs) fun l => aK (s8L l) fun sd => aN (ROk t.C ∧ t.C.last.toNat < 1000000 ∧ t.C.c.h ≤ 10 ∧ 0 < t.C.by'.length ∧ t.C.by'.length ≤ 100)
   (some (.tup [.w32 (bgV t.C role sd now).1, .i (bgV t.C role sd now).2.1], iL d t.s t.m (bgV t.C role sd now).2.2 hp, nx + 20000)) := (rfl)
attribute [go_sem] bgG_eq
set_option maxHeartbeats 2000000 in
theorem bg_ok : cQ Tryd.prog GLh 8 bgG := by
 refine gF Tryd.func8 (aT rfl) ?_
 intro args hp nx r hp' nx' hg
 unfold bgG at hg
 split at hg
 ·rename_i d cs role xs now
  replace hg := aJ hg; obtain ⟨⟨s, m, C⟩, hD0, hg⟩ := hg
  have hD := iV hD0
  replace hg := aJ hg; obtain ⟨cf, hcf, hg⟩ := hg
  have := cfOf_inv hcf; subst this
  replace hg := aJ hg; obtain ⟨l8, hl8, hg⟩ := hg
  have := iX _ hl8; subst this
  replace hg := aJ hg; obtain ⟨S, hS8, hg⟩ := hg
  have := s8L_inv hS8; subst this
  have e0 : c8 S.l = [.w8 S.a, .w8 S.b, .w8 S.c, .w8 S.d, .w8 S.e, .w8 S.f, .w8 S.g, .w8 S.h] := rfl
  rw [e0]
  replace hg := aP hg; obtain ⟨⟨hok, hla, hh, hpos, hC⟩, hg⟩ := hg
  simp only [Option.some.injEq, Prod.mk.injEq] at hg hD hok hla hh hpos hC; obtain ⟨rfl, rfl, rfl⟩ := hg
  refine ⟨Nat.le_of_ble_eq_true rfl, by omega, fun hnone => ?_⟩
  have h1 := hD.hd; have h2 := hD.hs; have h3 := hD.hm
  obtain ⟨n1, n2, n3, n4, n5, n6⟩ := hD.ne
  have hlt : ∀ k o, hp k = some o → k < nx := fun k o hk => gI hnone hk
  have hd := hlt _ _ h1
  have hs := hlt _ _ h2
  have hm := hlt _ _ h3
  have hset := iQ hD
  have hC2 : C.by'.length ≤ 1000 := by omega
  have hal := allL_len C
  have hs8 : s8L [S.a, S.b, S.c, S.d, S.e, S.f, S.g, S.h] = some S := rfl
  rw [← hset, setR_set]
  refine aA rfl ?_
  refine aC (Γ := aL) [0, 2, 4, 8] (aD _ _) rfl rfl rfl (fun K hK => ?_)
  simp (disch := omega) only [Tryd.f8, go_sem, Nat.reduceAdd, Int.reduceLE, Int.reduceLT, BitVec.reduceOfInt, ↓reduceIte]
  refine hK _ ?_
  refine aB ?_
  rcases (by omega : role = 0 ∨ role = 1 ∨ (role ≠ 0 ∧ role ≠ 1)) with hr | hr | ⟨hr0, hr1⟩
  ·skip
   subst hr
   obtain ⟨Z, hZ⟩ : ∃ Z, gP 0 (iP C) = Z := ⟨_, rfl⟩
   refine aA rfl ?_
   refine aA rfl ?_
   refine aC (Γ := aL) [20, 0, 2, 4, 8] (aD _ _) rfl rfl rfl (fun K hK => ?_)
   simp (disch := omega) only [Tryd.f8, go_sem, Nat.reduceAdd, reduceCtorEq, ↓reduceIte, decide_true, Bool.not_true]
   refine hK _ ?_
   refine aB ?_
   refine eC (.tmp 20) rfl rfl rfl (fun h => ?_) (fun h => ?_)
   ·skip
    refine aI rfl ?_
    cases h
   ·skip
    refine aI rfl ?_
    refine aQ rfl ?_
    refine aB ?_
    refine aA rfl ?_
    refine aC (Γ := aL) [0, 2, 4, 8, 12] (aD _ _) rfl rfl rfl (fun K hK => ?_)
    simp (disch := omega) only [Tryd.f8, go_sem, Nat.reduceAdd, Nat.reduceLeDiff, Nat.reduceLT, Int.reduceLE, Int.reduceToNat, ↓reduceIte, List.head?_cons, List.drop_zero]
    refine hK _ ?_
    refine aB ?_
    refine aA rfl ?_
    refine aA rfl ?_
    refine aC (Γ := bC [(10, .heap allG), (23, .pure false ofG)]) [0, 2, 4, 8, 12, 29] (aH okd15 (aH okh21 aO)) rfl rfl rfl (fun K hK => ?_)
    simp (disch := omega) only [Tryd.f8, go_sem, Nat.reduceAdd, ↓reduceIte, hC2, hal, hpos, hZ]
    refine hK _ ?_
    refine aB ?_
    rcases (by omega : Z.length = 0 ∨ Z.length = 1 ∨ 2 ≤ Z.length) with hz | hz | hz
    ·skip
     have hzi : ((Z.length : Nat) : Int) = 0 := by rw [hz]; rfl
     have es : bgS 0 Z.length = some 1 := by rw [hz]; rfl
     have eb : bgV C 0 S now = (if (mkV C 0 S 1 now).2.1 ≠ 0 then (0#32, (mkV C 0 S 1 now).2.1, (mkV C 0 S 1 now).2.2) else ((mkV C 0 S 1 now).1, 0, if (1 : Int) = 2 then (snV (mkV C 0 S 1 now).2.2 (mkV C 0 S 1 now).1 now).2 else (mkV C 0 S 1 now).2.2)) := by
      unfold bgV
      rw [if_neg (by omega), hZ, es]
     obtain ⟨⟨mi, me, mC⟩, hM⟩ : ∃ p, mkV C 0 S 1 now = p := ⟨_, rfl⟩
     rw [hM] at eb
     simp only at eb
     refine aR 0 rfl rfl ?_
     refine aA rfl ?_
     refine aC (Γ := aL) [30, 0, 2, 4, 8, 12, 29] (aD _ _) rfl rfl rfl (fun K hK => ?_)
     simp (disch := omega) only [Tryd.f8, go_sem, Nat.reduceAdd, ↓reduceIte, hzi, decide_true]
     refine hK _ ?_
     refine aB ?_
     refine eC (.tmp 30) rfl rfl rfl (fun h => ?_) (fun h => ?_)
     ·skip
      refine aI rfl ?_
      refine aC (Γ := aL) [0, 2, 4, 8, 12] (aD _ _) rfl rfl rfl (fun K hK => ?_)
      simp (disch := omega) only [Tryd.f8, go_sem, Nat.reduceAdd, Nat.reduceLeDiff, Nat.reduceLT, Int.reduceLE, Int.reduceToNat, ↓reduceIte, List.head?_cons, List.drop_zero]
      refine hK _ ?_
      refine bU (aB ?_)
      refine aA rfl ?_
      refine aC (Γ := bC [(19, .heap makeG)]) [0, 4, 12, 13, 14] (aH okd9 aO) rfl rfl rfl (fun K hK => ?_)
      simp (disch := omega) only [Tryd.f8, go_sem, Nat.reduceAdd, Nat.reduceLeDiff, ↓reduceIte, hok, hla, hh, hs8, hM, true_and]
      refine hK _ ?_
      refine aB ?_
      refine aA rfl ?_
      refine aA rfl ?_
      refine aC (Γ := aL) [48, 0, 4, 12, 13, 14] (aD _ _) rfl rfl rfl (fun K hK => ?_)
      simp (disch := omega) only [Tryd.f8, go_sem, Nat.reduceAdd, ↓reduceIte]
      refine hK _ ?_
      refine aB ?_
      refine awp_ifE (.tmp 48) rfl rfl rfl (fun h => ?_) (fun h => ?_)
      ·skip
       refine aI rfl ?_
       rw [if_pos h] at eb
       rw [eb]
       refine aA rfl ?_
       refine aC (Γ := aL) [10, 11] (aD _ _) rfl rfl rfl (fun K hK => ?_)
       simp (disch := omega) only [Tryd.f8, go_sem, Nat.reduceAdd, Int.reduceLE, Int.reduceLT, BitVec.reduceOfInt, ↓reduceIte]
       refine hK _ ?_
       refine aB ?_
       refine aS rfl ?_
       refine bI ?_
       exact ⟨rfl, fun j o hj => hU (fun j o hj => by { have := hlt j o hj; simp (disch := omega) only [aV, bY, ↓reduceIte]; exact hj }) j o hj, by simp only; omega⟩
      ·skip
       refine aI rfl ?_
       rw [if_neg (fun e => e h)] at eb
       rw [eb, if_neg (by decide)]
       refine aQ rfl ?_
       refine aB ?_
       refine aA rfl ?_
       refine aA rfl ?_
       refine aC (Γ := aL) [51, 0, 4, 13] (aD _ _) rfl rfl rfl (fun K hK => ?_)
       simp (disch := omega) only [Tryd.f8, go_sem, Nat.reduceAdd, Int.reduceEq, ↓reduceIte, decide_false, Int.reduceEq]
       refine hK _ ?_
       refine aB ?_
       refine eC (.tmp 51) rfl rfl rfl (fun h => ?_) (fun h => ?_)
       ·skip
        refine aI rfl ?_
        cases h
       ·skip
        refine aI rfl ?_
        refine aQ rfl ?_
        refine aB ?_
        refine aA rfl ?_
        refine aC (Γ := aL) [10, 11] (aD _ _) rfl rfl rfl (fun K hK => ?_)
        simp (disch := omega) only [Tryd.f8, go_sem, Nat.reduceAdd, ↓reduceIte]
        refine hK _ ?_
        refine aB ?_
        refine aS rfl ?_
        exact ⟨rfl, fun j o hj => hU (fun j o hj => by { have := hlt j o hj; simp (disch := omega) only [aV, bY, ↓reduceIte]; exact hj }) j o hj, by simp only; omega⟩
     ·skip
      refine aI rfl ?_
      cases h
    ·skip
     have hzi : ((Z.length : Nat) : Int) = 1 := by rw [hz]; rfl
     have es : bgS 0 Z.length = some 0 := by rw [hz]; rfl
     have eb : bgV C 0 S now = (if (mkV C 0 S 0 now).2.1 ≠ 0 then (0#32, (mkV C 0 S 0 now).2.1, (mkV C 0 S 0 now).2.2) else ((mkV C 0 S 0 now).1, 0, if (0 : Int) = 2 then (snV (mkV C 0 S 0 now).2.2 (mkV C 0 S 0 now).1 now).2 else (mkV C 0 S 0 now).2.2)) := by
      unfold bgV
      rw [if_neg (by omega), hZ, es]
     obtain ⟨⟨mi, me, mC⟩, hM⟩ : ∃ p, mkV C 0 S 0 now = p := ⟨_, rfl⟩
     rw [hM] at eb
     simp only at eb
     refine aR 0 rfl rfl ?_
     refine aA rfl ?_
     refine aC (Γ := aL) [30, 0, 2, 4, 8, 12, 29] (aD _ _) rfl rfl rfl (fun K hK => ?_)
     simp (disch := omega) only [Tryd.f8, go_sem, Nat.reduceAdd, Int.reduceEq, ↓reduceIte, hzi, decide_false, Int.reduceEq]
     refine hK _ ?_
     refine aB ?_
     refine eC (.tmp 30) rfl rfl rfl (fun h => ?_) (fun h => ?_)
     ·skip
      refine aI rfl ?_
      cases h
     ·skip
      refine aI rfl ?_
      refine aA rfl ?_
      refine aC (Γ := aL) [36, 0, 2, 4, 8, 12] (aD _ _) rfl rfl rfl (fun K hK => ?_)
      simp (disch := omega) only [Tryd.f8, go_sem, Nat.reduceAdd, ↓reduceIte, decide_true]
      refine hK _ ?_
      refine aB ?_
      refine eC (.tmp 36) rfl rfl rfl (fun h => ?_) (fun h => ?_)
      ·skip
       refine aI rfl ?_
       refine aQ rfl ?_
       refine bU (aB ?_)
       refine aA rfl ?_
       refine aC (Γ := bC [(19, .heap makeG)]) [0, 4, 12, 13, 14] (aH okd9 aO) rfl rfl rfl (fun K hK => ?_)
       simp (disch := omega) only [Tryd.f8, go_sem, Nat.reduceAdd, Nat.reduceLeDiff, ↓reduceIte, hok, hla, hh, hs8, hM, true_and]
       refine hK _ ?_
       refine aB ?_
       refine aA rfl ?_
       refine aA rfl ?_
       refine aC (Γ := aL) [48, 0, 4, 12, 13, 14] (aD _ _) rfl rfl rfl (fun K hK => ?_)
       simp (disch := omega) only [Tryd.f8, go_sem, Nat.reduceAdd, ↓reduceIte]
       refine hK _ ?_
       refine aB ?_
       refine awp_ifE (.tmp 48) rfl rfl rfl (fun h => ?_) (fun h => ?_)
       ·skip
        refine aI rfl ?_
        rw [if_pos h] at eb
        rw [eb]
        refine aA rfl ?_
        refine aC (Γ := aL) [10, 11] (aD _ _) rfl rfl rfl (fun K hK => ?_)
        simp (disch := omega) only [Tryd.f8, go_sem, Nat.reduceAdd, Int.reduceLE, Int.reduceLT, BitVec.reduceOfInt, ↓reduceIte]
        refine hK _ ?_
        refine aB ?_
        refine aS rfl ?_
        refine bI ?_
        exact ⟨rfl, fun j o hj => hU (fun j o hj => by { have := hlt j o hj; simp (disch := omega) only [aV, bY, ↓reduceIte]; exact hj }) j o hj, by simp only; omega⟩
       ·skip
        refine aI rfl ?_
        rw [if_neg (fun e => e h)] at eb
        rw [eb, if_neg (by decide)]
        refine aQ rfl ?_
        refine aB ?_
        refine aA rfl ?_
        refine aA rfl ?_
        refine aC (Γ := aL) [51, 0, 4, 13] (aD _ _) rfl rfl rfl (fun K hK => ?_)
        simp (disch := omega) only [Tryd.f8, go_sem, Nat.reduceAdd, Int.reduceEq, ↓reduceIte, decide_false, Int.reduceEq]
        refine hK _ ?_
        refine aB ?_
        refine eC (.tmp 51) rfl rfl rfl (fun h => ?_) (fun h => ?_)
        ·skip
         refine aI rfl ?_
         cases h
        ·skip
         refine aI rfl ?_
         refine aQ rfl ?_
         refine aB ?_
         refine aA rfl ?_
         refine aC (Γ := aL) [10, 11] (aD _ _) rfl rfl rfl (fun K hK => ?_)
         simp (disch := omega) only [Tryd.f8, go_sem, Nat.reduceAdd, ↓reduceIte]
         refine hK _ ?_
         refine aB ?_
         refine aS rfl ?_
         exact ⟨rfl, fun j o hj => hU (fun j o hj => by { have := hlt j o hj; simp (disch := omega) only [aV, bY, ↓reduceIte]; exact hj }) j o hj, by simp only; omega⟩
      ·skip
       refine aI rfl ?_
       cases h
    ·skip
     have dz0 : decide (((Z.length : Nat) : Int) = 0) = false := decide_eq_false (by omega)
     have dz1 : decide (((Z.length : Nat) : Int) = 1) = false := decide_eq_false (by omega)
     have es : bgS 0 Z.length = none := by unfold bgS; rw [if_neg (by omega), if_neg (by omega)]
     have eb : bgV C 0 S now = (0#32, 140, C) := by
      unfold bgV
      rw [if_neg (by omega), hZ, es]
     rw [eb]
     refine aR 0 rfl rfl ?_
     refine aA rfl ?_
     refine aC (Γ := aL) [30, 0, 2, 4, 8, 12, 29] (aD _ _) rfl rfl rfl (fun K hK => ?_)
     simp (disch := omega) only [Tryd.f8, go_sem, Nat.reduceAdd, ↓reduceIte, dz0]
     refine hK _ ?_
     refine aB ?_
     refine eC (.tmp 30) rfl rfl rfl (fun h => ?_) (fun h => ?_)
     ·skip
      refine aI rfl ?_
      cases h
     ·skip
      refine aI rfl ?_
      refine aA rfl ?_
      refine aC (Γ := aL) [36, 0, 2, 4, 8, 12] (aD _ _) rfl rfl rfl (fun K hK => ?_)
      simp (disch := omega) only [Tryd.f8, go_sem, Nat.reduceAdd, ↓reduceIte, dz1]
      refine hK _ ?_
      refine aB ?_
      refine eC (.tmp 36) rfl rfl rfl (fun h => ?_) (fun h => ?_)
      ·skip
       refine aI rfl ?_
       cases h
      ·skip
       refine aI rfl ?_
       refine aA rfl ?_
       refine aC (Γ := aL) [10, 11] (aD _ _) rfl rfl rfl (fun K hK => ?_)
       simp (disch := omega) only [Tryd.f8, go_sem, Nat.reduceAdd, Int.reduceLE, Int.reduceLT, BitVec.reduceOfInt, ↓reduceIte]
       refine hK _ ?_
       refine aB ?_
       refine aS rfl ?_
       refine bN (bI ?_)
       exact ⟨rfl, fun j o hj => hU (fun j o hj => by { have := hlt j o hj; simp (disch := omega) only [aV, bY, ↓reduceIte]; exact hj }) j o hj, by simp only; omega⟩
  ·skip
   subst hr
   obtain ⟨Z, hZ⟩ : ∃ Z, gP 1 (iP C) = Z := ⟨_, rfl⟩
   refine aA rfl ?_
   refine aA rfl ?_
   refine aC (Γ := aL) [20, 0, 2, 4, 8] (aD _ _) rfl rfl rfl (fun K hK => ?_)
   simp (disch := omega) only [Tryd.f8, go_sem, Nat.reduceAdd, Int.reduceEq, ↓reduceIte, decide_true, decide_false, Int.reduceEq, Bool.not_true, Bool.not_false]
   refine hK _ ?_
   refine aB ?_
   refine eC (.tmp 20) rfl rfl rfl (fun h => ?_) (fun h => ?_)
   ·skip
    refine aI rfl ?_
    cases h
   ·skip
    refine aI rfl ?_
    refine aQ rfl ?_
    refine aB ?_
    refine aA rfl ?_
    refine aC (Γ := aL) [0, 2, 4, 8, 12] (aD _ _) rfl rfl rfl (fun K hK => ?_)
    simp (disch := omega) only [Tryd.f8, go_sem, Nat.reduceAdd, Nat.reduceLeDiff, Nat.reduceLT, Int.reduceLE, Int.reduceToNat, ↓reduceIte, List.head?_cons, List.drop_succ_cons, List.drop_zero]
    refine hK _ ?_
    refine aB ?_
    refine aA rfl ?_
    refine aA rfl ?_
    refine aC (Γ := bC [(10, .heap allG), (23, .pure false ofG)]) [0, 2, 4, 8, 12, 29] (aH okd15 (aH okh21 aO)) rfl rfl rfl (fun K hK => ?_)
    simp (disch := omega) only [Tryd.f8, go_sem, Nat.reduceAdd, ↓reduceIte, hC2, hal, hpos, hZ]
    refine hK _ ?_
    refine aB ?_
    rcases (by omega : Z.length = 0 ∨ Z.length = 1 ∨ 2 ≤ Z.length) with hz | hz | hz
    ·skip
     have hzi : ((Z.length : Nat) : Int) = 0 := by rw [hz]; rfl
     have es : bgS 1 Z.length = some 2 := by rw [hz]; rfl
     have eb : bgV C 1 S now = (if (mkV C 1 S 2 now).2.1 ≠ 0 then (0#32, (mkV C 1 S 2 now).2.1, (mkV C 1 S 2 now).2.2) else ((mkV C 1 S 2 now).1, 0, if (2 : Int) = 2 then (snV (mkV C 1 S 2 now).2.2 (mkV C 1 S 2 now).1 now).2 else (mkV C 1 S 2 now).2.2)) := by
      unfold bgV
      rw [if_neg (by omega), hZ, es]
     obtain ⟨⟨mi, me, mC⟩, hM⟩ : ∃ p, mkV C 1 S 2 now = p := ⟨_, rfl⟩
     rw [hM] at eb
     simp only at eb
     refine aR 0 rfl rfl ?_
     refine aA rfl ?_
     refine aC (Γ := aL) [30, 0, 2, 4, 8, 12, 29] (aD _ _) rfl rfl rfl (fun K hK => ?_)
     simp (disch := omega) only [Tryd.f8, go_sem, Nat.reduceAdd, ↓reduceIte, hzi, decide_true]
     refine hK _ ?_
     refine aB ?_
     refine eC (.tmp 30) rfl rfl rfl (fun h => ?_) (fun h => ?_)
     ·skip
      refine aI rfl ?_
      refine aC (Γ := aL) [0, 2, 4, 8, 12] (aD _ _) rfl rfl rfl (fun K hK => ?_)
      simp (disch := omega) only [Tryd.f8, go_sem, Nat.reduceAdd, Nat.reduceLeDiff, Nat.reduceLT, Int.reduceLE, Int.reduceToNat, ↓reduceIte, List.head?_cons, List.drop_succ_cons, List.drop_zero]
      refine hK _ ?_
      refine bU (aB ?_)
      refine aA rfl ?_
      refine aC (Γ := bC [(19, .heap makeG)]) [0, 4, 12, 13, 14] (aH okd9 aO) rfl rfl rfl (fun K hK => ?_)
      simp (disch := omega) only [Tryd.f8, go_sem, Nat.reduceAdd, Nat.reduceLeDiff, ↓reduceIte, hok, hla, hh, hs8, hM, true_and]
      refine hK _ ?_
      refine aB ?_
      refine aA rfl ?_
      refine aA rfl ?_
      refine aC (Γ := aL) [48, 0, 4, 12, 13, 14] (aD _ _) rfl rfl rfl (fun K hK => ?_)
      simp (disch := omega) only [Tryd.f8, go_sem, Nat.reduceAdd, ↓reduceIte]
      refine hK _ ?_
      refine aB ?_
      refine awp_ifE (.tmp 48) rfl rfl rfl (fun h => ?_) (fun h => ?_)
      ·skip
       refine aI rfl ?_
       rw [if_pos h] at eb
       rw [eb]
       refine aA rfl ?_
       refine aC (Γ := aL) [10, 11] (aD _ _) rfl rfl rfl (fun K hK => ?_)
       simp (disch := omega) only [Tryd.f8, go_sem, Nat.reduceAdd, Int.reduceLE, Int.reduceLT, BitVec.reduceOfInt, ↓reduceIte]
       refine hK _ ?_
       refine aB ?_
       refine aS rfl ?_
       refine bI ?_
       exact ⟨rfl, fun j o hj => hU (fun j o hj => by { have := hlt j o hj; simp (disch := omega) only [aV, bY, ↓reduceIte]; exact hj }) j o hj, by simp only; omega⟩
      ·skip
       refine aI rfl ?_
       rw [if_neg (fun e => e h)] at eb
       rw [eb, if_pos trivial]
       refine aQ rfl ?_
       refine aB ?_
       refine aA rfl ?_
       refine aA rfl ?_
       refine aC (Γ := aL) [51, 0, 4, 13] (aD _ _) rfl rfl rfl (fun K hK => ?_)
       simp (disch := omega) only [Tryd.f8, go_sem, Nat.reduceAdd, ↓reduceIte, decide_true]
       refine hK _ ?_
       refine aB ?_
       refine eC (.tmp 51) rfl rfl rfl (fun h => ?_) (fun h => ?_)
       ·skip
        refine aI rfl ?_
        refine aC (Γ := bC [(21, .heap seenG)]) [13] (aH okd21 aO) rfl rfl rfl (fun K hK => ?_)
        simp (disch := omega) only [Tryd.f8, go_sem, Nat.reduceAdd, ↓reduceIte]
        refine hK _ ?_
        refine aB ?_
        refine aA rfl ?_
        refine aC (Γ := aL) [10, 11] (aD _ _) rfl rfl rfl (fun K hK => ?_)
        simp (disch := omega) only [Tryd.f8, go_sem, Nat.reduceAdd, ↓reduceIte]
        refine hK _ ?_
        refine aB ?_
        refine aS rfl ?_
        exact ⟨rfl, fun j o hj => hU (fun j o hj => by { have := hlt j o hj; simp (disch := omega) only [aV, bY, ↓reduceIte]; exact hj }) j o hj, by simp only; omega⟩
       ·skip
        refine aI rfl ?_
        cases h
     ·skip
      refine aI rfl ?_
      cases h
    ·skip
     have hzi : ((Z.length : Nat) : Int) = 1 := by rw [hz]; rfl
     have es : bgS 1 Z.length = some 1 := by rw [hz]; rfl
     have eb : bgV C 1 S now = (if (mkV C 1 S 1 now).2.1 ≠ 0 then (0#32, (mkV C 1 S 1 now).2.1, (mkV C 1 S 1 now).2.2) else ((mkV C 1 S 1 now).1, 0, if (1 : Int) = 2 then (snV (mkV C 1 S 1 now).2.2 (mkV C 1 S 1 now).1 now).2 else (mkV C 1 S 1 now).2.2)) := by
      unfold bgV
      rw [if_neg (by omega), hZ, es]
     obtain ⟨⟨mi, me, mC⟩, hM⟩ : ∃ p, mkV C 1 S 1 now = p := ⟨_, rfl⟩
     rw [hM] at eb
     simp only at eb
     refine aR 0 rfl rfl ?_
     refine aA rfl ?_
     refine aC (Γ := aL) [30, 0, 2, 4, 8, 12, 29] (aD _ _) rfl rfl rfl (fun K hK => ?_)
     simp (disch := omega) only [Tryd.f8, go_sem, Nat.reduceAdd, Int.reduceEq, ↓reduceIte, hzi, decide_false, Int.reduceEq]
     refine hK _ ?_
     refine aB ?_
     refine eC (.tmp 30) rfl rfl rfl (fun h => ?_) (fun h => ?_)
     ·skip
      refine aI rfl ?_
      cases h
     ·skip
      refine aI rfl ?_
      refine aA rfl ?_
      refine aC (Γ := aL) [36, 0, 2, 4, 8, 12] (aD _ _) rfl rfl rfl (fun K hK => ?_)
      simp (disch := omega) only [Tryd.f8, go_sem, Nat.reduceAdd, ↓reduceIte, decide_true]
      refine hK _ ?_
      refine aB ?_
      refine eC (.tmp 36) rfl rfl rfl (fun h => ?_) (fun h => ?_)
      ·skip
       refine aI rfl ?_
       refine aQ rfl ?_
       refine bU (aB ?_)
       refine aA rfl ?_
       refine aC (Γ := bC [(19, .heap makeG)]) [0, 4, 12, 13, 14] (aH okd9 aO) rfl rfl rfl (fun K hK => ?_)
       simp (disch := omega) only [Tryd.f8, go_sem, Nat.reduceAdd, Nat.reduceLeDiff, ↓reduceIte, hok, hla, hh, hs8, hM, true_and]
       refine hK _ ?_
       refine aB ?_
       refine aA rfl ?_
       refine aA rfl ?_
       refine aC (Γ := aL) [48, 0, 4, 12, 13, 14] (aD _ _) rfl rfl rfl (fun K hK => ?_)
       simp (disch := omega) only [Tryd.f8, go_sem, Nat.reduceAdd, ↓reduceIte]
       refine hK _ ?_
       refine aB ?_
       refine awp_ifE (.tmp 48) rfl rfl rfl (fun h => ?_) (fun h => ?_)
       ·skip
        refine aI rfl ?_
        rw [if_pos h] at eb
        rw [eb]
        refine aA rfl ?_
        refine aC (Γ := aL) [10, 11] (aD _ _) rfl rfl rfl (fun K hK => ?_)
        simp (disch := omega) only [Tryd.f8, go_sem, Nat.reduceAdd, Int.reduceLE, Int.reduceLT, BitVec.reduceOfInt, ↓reduceIte]
        refine hK _ ?_
        refine aB ?_
        refine aS rfl ?_
        refine bI ?_
        exact ⟨rfl, fun j o hj => hU (fun j o hj => by { have := hlt j o hj; simp (disch := omega) only [aV, bY, ↓reduceIte]; exact hj }) j o hj, by simp only; omega⟩
       ·skip
        refine aI rfl ?_
        rw [if_neg (fun e => e h)] at eb
        rw [eb, if_neg (by decide)]
        refine aQ rfl ?_
        refine aB ?_
        refine aA rfl ?_
        refine aA rfl ?_
        refine aC (Γ := aL) [51, 0, 4, 13] (aD _ _) rfl rfl rfl (fun K hK => ?_)
        simp (disch := omega) only [Tryd.f8, go_sem, Nat.reduceAdd, Int.reduceEq, ↓reduceIte, decide_false, Int.reduceEq]
        refine hK _ ?_
        refine aB ?_
        refine eC (.tmp 51) rfl rfl rfl (fun h => ?_) (fun h => ?_)
        ·skip
         refine aI rfl ?_
         cases h
        ·skip
         refine aI rfl ?_
         refine aQ rfl ?_
         refine aB ?_
         refine aA rfl ?_
         refine aC (Γ := aL) [10, 11] (aD _ _) rfl rfl rfl (fun K hK => ?_)
         simp (disch := omega) only [Tryd.f8, go_sem, Nat.reduceAdd, ↓reduceIte]
         refine hK _ ?_
         refine aB ?_
         refine aS rfl ?_
         exact ⟨rfl, fun j o hj => hU (fun j o hj => by { have := hlt j o hj; simp (disch := omega) only [aV, bY, ↓reduceIte]; exact hj }) j o hj, by simp only; omega⟩
      ·skip
       refine aI rfl ?_
       cases h
    ·skip
     have dz0 : decide (((Z.length : Nat) : Int) = 0) = false := decide_eq_false (by omega)
     have dz1 : decide (((Z.length : Nat) : Int) = 1) = false := decide_eq_false (by omega)
     have es : bgS 1 Z.length = none := by unfold bgS; rw [if_neg (by omega), if_neg (by omega)]
     have eb : bgV C 1 S now = (0#32, 140, C) := by
      unfold bgV
      rw [if_neg (by omega), hZ, es]
     rw [eb]
     refine aR 0 rfl rfl ?_
     refine aA rfl ?_
     refine aC (Γ := aL) [30, 0, 2, 4, 8, 12, 29] (aD _ _) rfl rfl rfl (fun K hK => ?_)
     simp (disch := omega) only [Tryd.f8, go_sem, Nat.reduceAdd, ↓reduceIte, dz0]
     refine hK _ ?_
     refine aB ?_
     refine eC (.tmp 30) rfl rfl rfl (fun h => ?_) (fun h => ?_)
     ·skip
      refine aI rfl ?_
      cases h
     ·skip
      refine aI rfl ?_
      refine aA rfl ?_
      refine aC (Γ := aL) [36, 0, 2, 4, 8, 12] (aD _ _) rfl rfl rfl (fun K hK => ?_)
      simp (disch := omega) only [Tryd.f8, go_sem, Nat.reduceAdd, ↓reduceIte, dz1]
      refine hK _ ?_
      refine aB ?_
      refine eC (.tmp 36) rfl rfl rfl (fun h => ?_) (fun h => ?_)
      ·skip
       refine aI rfl ?_
       cases h
      ·skip
       refine aI rfl ?_
       refine aA rfl ?_
       refine aC (Γ := aL) [10, 11] (aD _ _) rfl rfl rfl (fun K hK => ?_)
       simp (disch := omega) only [Tryd.f8, go_sem, Nat.reduceAdd, Int.reduceLE, Int.reduceLT, BitVec.reduceOfInt, ↓reduceIte]
       refine hK _ ?_
       refine aB ?_
       refine aS rfl ?_
       refine bN (bI ?_)
       exact ⟨rfl, fun j o hj => hU (fun j o hj => by { have := hlt j o hj; simp (disch := omega) only [aV, bY, ↓reduceIte]; exact hj }) j o hj, by simp only; omega⟩
  ·skip
   have d0 : decide (role = 0) = false := decide_eq_false hr0
   have d1 : decide (role = 1) = false := decide_eq_false hr1
   have eb : bgV C role S now = (0#32, 131, C) := by unfold bgV; exact if_pos ⟨hr0, hr1⟩
   rw [eb]
   refine aA rfl ?_
   refine aA rfl ?_
   refine aC (Γ := aL) [20, 0, 2, 4, 8] (aD _ _) rfl rfl rfl (fun K hK => ?_)
   simp (disch := omega) only [Tryd.f8, go_sem, Nat.reduceAdd, ↓reduceIte, d0, d1, Bool.not_false]
   refine hK _ ?_
   refine aB ?_
   refine eC (.tmp 20) rfl rfl rfl (fun h => ?_) (fun h => ?_)
   ·skip
    refine aI rfl ?_
    refine aA rfl ?_
    refine aC (Γ := aL) [10, 11] (aD _ _) rfl rfl rfl (fun K hK => ?_)
    simp (disch := omega) only [Tryd.f8, go_sem, Nat.reduceAdd, Int.reduceLE, Int.reduceLT, BitVec.reduceOfInt, ↓reduceIte]
    refine hK _ ?_
    refine aB ?_
    refine aS rfl ?_
    refine bI ?_
    exact ⟨rfl, fun j o hj => hU (fun j o hj => by { have := hlt j o hj; simp (disch := omega) only [aV, bY, ↓reduceIte]; exact hj }) j o hj, by simp only; omega⟩
   ·skip
    refine aI rfl ?_
    cases h
 ·cases hg
theorem okh8 : bX Tryd.prog GLh 8 (.heap bgG) := ⟨⟨_, Tryd.func8, rfl, rfl⟩, bg_ok⟩
end Go.AX
namespace Go.AX
open Go
def okC (P : Program) (Γ : Env) (md : Nat → Nat) (ops : Array Oper) (i : Nat) : List Nat → Bool
 | [] => false
 | j :: r => j == i || ((match ops[j]?, ops[i]? with
  | some y, some x => y.apart ops x && compat j i (dcOf P Γ (md j) y.op) (dcOf P Γ (md i) x.op)
  | _, _ => false) && okC P Γ md ops i r)
def readyB (ops : Array Oper) (rem : List Nat) (i : Nat) : Bool := match ops[i]? with
 | some x => x.after.all fun e => !Region.binds .any e || !rem.contains e.on
 | none => false
def nextC (P : Program) (Γ : Env) (md : Nat → Nat) (ops : Array Oper) (i : Nat) (cs : List (List Nat)) : List (List Nat) := (cs.filter (okC P Γ md ops i)).map fun l => l.erase i
def okT (P : Program) (Γ : Env) (md : Nat → Nat) (ops : Array Oper) : Nat → List Nat → List (List Nat) → Bool
 | 0, _, cs => cs.any List.isEmpty
 | n + 1, rem, cs => !cs.isEmpty && (!rem.isEmpty || cs.any List.isEmpty) && rem.all fun i => !readyB ops rem i || okT P Γ md ops n (rem.filter fun k => k != i) (nextC P Γ md ops i cs)
theorem okC_split {P : Program} {Γ : Env} {md : Nat → Nat} {ops : Array Oper} {i : Nat} : ∀ {l : List Nat}, okC P Γ md ops i l = true → ∃ p q, l = p ++ i :: q ∧ l.erase i = p ++ q ∧
  ∀ j ∈ p, j ≠ i ∧ ∃ y x, ops[j]? = some y ∧ ops[i]? = some x ∧ y.apart ops x = true ∧ compat j i (dcOf P Γ (md j) y.op) (dcOf P Γ (md i) x.op) = true
 | [], h => by cases h
 | j :: r, h => by
  by_cases e : j = i
  ·subst e
   exact ⟨[], r, rfl, by simp, fun j hj => nomatch hj⟩
  ·have e2 : (j == i) = false := by simp [e]
   simp only [okC, e2, Bool.false_or, Bool.and_eq_true] at h
   obtain ⟨h1, h2⟩ := h
   obtain ⟨p, q, g1, g2, g3⟩ := okC_split h2
   refine ⟨j :: p, q, by rw [g1]; rfl, by rw [List.erase_cons, e2]; simp [g2], fun k hk => ?_⟩
   rcases List.mem_cons.1 hk with rfl | hk
   ·refine ⟨e, ?_⟩
    split at h1
    ·rename_i y x hy hx
     simp only [Bool.and_eq_true] at h1
     exact ⟨y, x, hy, hx, h1.1, h1.2⟩
    ·cases h1
   ·exact g3 k hk
section
variable {P : Program} {Γ : Env} {c : Ctx} {σ0 : Nat → Loc} {I0 : Nat → Prop} {w0 : World} {md : Nat → Nat} {ops : Array Oper}
theorem okT_ne {n : Nat} {rem : List Nat} {cs : List (List Nat)} (h : okT P Γ md ops n rem cs = true) : cs ≠ [] := by
 rintro rfl
 cases n <;> simp [okT] at h
theorem drawnT_sound (hΓ : eJ P c.GL Γ) {Q : Exit → Act → World → Prop} (hdst : fK c.nt ops.toList = true) (he : okEdges ops = true) {G : S → Prop} (hG : ∀ s t, G s → gC s t → G t)
  (hQ : ∀ s a' w', G s → R c σ0 I0 w0 (fun _ => False) s a' w' → Q .normal a' w') :
  ∀ (fuel : Nat) (listed : Array Bool) (s : S) (a : Act) (w : World) (cs : List (List Nat)), listed.size = ops.size → (unl ops.size listed).length ≤ fuel →
   okT P Γ md ops fuel (unl ops.size listed) cs = true → (∀ l ∈ cs, ∃ sf, dQ P Γ c.GL md ops l s = some sf ∧ G sf) → R c σ0 I0 w0 (fun k => k ∈ unl ops.size listed) s a w → wpAny P .any ops Q fuel listed a w := by
 have fin : ∀ (listed : Array Bool) (s : S) (a : Act) (w : World) (cs : List (List Nat)), cs.any List.isEmpty = true → (∀ l ∈ cs, ∃ sf, dQ P Γ c.GL md ops l s = some sf ∧ G sf) → R c σ0 I0 w0 (fun k => k ∈ unl ops.size listed) s a w → Q .normal a w := by
  intro listed s a w cs hcs hrun hR
  obtain ⟨l, hl, hl2⟩ := List.any_eq_true.1 hcs
  obtain rfl := List.isEmpty_iff.1 hl2
  obtain ⟨sf, h1, h2⟩ := hrun _ hl
  obtain rfl := Option.some.inj h1
  exact hQ _ _ _ h2 (hR.un fun k hk => hk.elim)
 have unl_nil : ∀ (listed : Array Bool), listed.size = ops.size → Region.ready .any ops listed = [] → unl ops.size listed = [] := by
  intro listed hsz hr
  have hall := noready_of he listed hsz hr
  unfold unl
  refine List.filter_eq_nil_iff.2 fun i hi => ?_
  rw [hall i (List.mem_range.1 hi)]; simp
 intro fuel
 induction fuel with
 | zero =>
  intro listed s a w cs hsz hlen hok hrun hR
  have hun0 : unl ops.size listed = [] := List.eq_nil_of_length_eq_zero (by omega)
  have hr : Region.ready .any ops listed = [] := by
   refine List.eq_nil_iff_forall_not_mem.2 fun i hi => ?_
   obtain ⟨h1, o, ho, _⟩ := mem_ready.1 hi
   have : i ∈ unl ops.size listed := by unfold unl; rw [List.mem_filter, List.mem_range]; exact ⟨(Array.getElem?_eq_some_iff.1 ho).1, by rw [h1]; rfl⟩
   rw [hun0] at this; cases this
  exact ⟨hr, fin listed s a w cs hok hrun hR⟩
 | succ fuel ih =>
  intro listed s a w cs hsz hlen hok hrun hR
  simp only [okT, Bool.and_eq_true, List.all_eq_true] at hok
  obtain ⟨⟨_, hemp⟩, hstepT⟩ := hok
  refine ⟨fun hr => ?_, fun i hi => ?_⟩
  ·have hz := unl_nil listed hsz hr
   rw [hz] at hemp
   exact fin listed s a w cs (by simpa using hemp) hrun hR
  obtain ⟨hun, x, hx, hall⟩ := mem_ready.1 hi
  have hlt := (Array.getElem?_eq_some_iff.1 hx).1
  have hmem : i ∈ unl ops.size listed := by unfold unl; rw [List.mem_filter, List.mem_range]; exact ⟨hlt, by rw [hun]; rfl⟩
  have hrd : readyB ops (unl ops.size listed) i = true := by
   unfold readyB
   simp only [hx]
   refine Array.all_eq_true_iff_forall_mem.2 fun e hem => ?_
   cases hb : Region.binds .any e with
   | false => rfl
   | true =>
    have h1 := hall e hem hb
    simp only [Bool.not_true, Bool.false_or, Bool.not_eq_true']
    rw [← Bool.not_eq_true]
    intro hc
    have hc2 := List.contains_iff_mem.1 hc
    unfold unl at hc2
    rw [List.mem_filter, List.mem_range] at hc2
    obtain ⟨hc3, hc4⟩ := hc2
    have hs2 : e.on < listed.size := by omega
    rw [Array.getD_eq_getD_getElem?, Array.getElem?_eq_getElem hs2] at h1 hc4
    simp only [Option.getD_some] at h1 hc4
    rw [h1] at hc4; cases hc4
  have hT := hstepT i hmem
  rw [hrd] at hT
  simp only [Bool.not_true, Bool.false_or] at hT
  have hsub : ∀ k, k ∈ unl ops.size (listed.setIfInBounds i true) → k ∈ unl ops.size listed ∧ k ≠ i := by
   intro k hk
   simp only [unl, List.mem_filter, List.mem_range] at hk ⊢
   by_cases hki : k = i
   ·subst hki
    rw [Array.getD_eq_getD_getElem?, Array.getElem?_setIfInBounds_self_of_lt (by omega)] at hk
    simp at hk
   ·rw [getD_set_ne true (Ne.symm hki)] at hk
    exact ⟨hk, hki⟩
  have e0 : unl ops.size (listed.setIfInBounds i true) = (unl ops.size listed).filter (fun k => k != i) := by
   unfold unl
   rw [List.filter_filter]
   refine List.filter_congr fun k hk => ?_
   by_cases hki : k = i
   ·subst hki
    rw [Array.getD_eq_getD_getElem?, Array.getElem?_setIfInBounds_self_of_lt (by omega)]; simp
   ·rw [getD_set_ne true (Ne.symm hki)]
    simp [hki]
  have hlen2 : (unl ops.size (listed.setIfInBounds i true)).length < (unl ops.size listed).length := by
   rw [e0]
   refine Nat.lt_of_le_of_ne (List.length_filter_le _ _) fun e => ?_
   have := List.length_filter_eq_length_iff.1 e i hmem
   simp at this
  have hfw : ∀ l, l ∈ cs → okC P Γ md ops i l = true → ∃ s1 sf, stepO P Γ c.GL md ops i x s = some s1 ∧ dQ P Γ c.GL md ops (l.erase i) s1 = some sf ∧ G sf := by
   intro l hl hc
   obtain ⟨p, q, g1, g2, g3⟩ := okC_split hc
   obtain ⟨sf, r1, r2⟩ := hrun l hl
   rw [g1] at r1
   obtain ⟨s1, sf', f1, f2, f3⟩ := forward hx p q (fun j hj => by
    obtain ⟨a1, y, x', a2, a3, a4, a5⟩ := g3 j hj
    rw [hx] at a3; obtain rfl := Option.some.inj a3
    exact ⟨a1, y, a2, a4, a5⟩) r1
   exact ⟨s1, sf', f1, by rw [g2]; exact f2, hG _ _ r2 f3⟩
  have hcs := okT_ne hT
  obtain ⟨s1, hs1⟩ : ∃ s1, stepO P Γ c.GL md ops i x s = some s1 := by
   unfold nextC at hcs
   cases hf : cs.filter (okC P Γ md ops i) with
   | nil => rw [hf] at hcs; exact absurd rfl hcs
   | cons l r =>
    have hm := List.mem_filter.1 (show l ∈ cs.filter (okC P Γ md ops i) by rw [hf]; simp)
    obtain ⟨s1, _, f1, _⟩ := hfw l hm.1 hm.2
    exact ⟨s1, f1⟩
  have hstep := fX (K := wpAny P .any ops Q fuel (listed.setIfInBounds i true)) (Q := Q) (ops := ops) hΓ hs1 (okDst_mem hdst (Array.mem_toList_iff.2 (Array.mem_of_getElem? hx))) (rem := fun k => k ∈ unl ops.size listed) hmem hR (fun a' w' hR' =>
   ih (listed.setIfInBounds i true) s1 a' w' (nextC P Γ md ops i cs) (by simpa using hsz) (by omega) (by rw [e0]; exact hT) (fun l hl => by
    unfold nextC at hl
    obtain ⟨l0, hl0, rfl⟩ := List.mem_map.1 hl
    obtain ⟨h1, h2⟩ := List.mem_filter.1 hl0
    obtain ⟨s1', sf, f1, f2, f3⟩ := hfw l0 h1 h2
    rw [hs1] at f1; obtain rfl := Option.some.inj f1
    exact ⟨sf, f2, f3⟩) (hR'.un fun k hk => hsub k hk))
  unfold wpOp
  simp only [hx]
  split
  ·rename_i hw; rw [if_pos hw] at hstep; exact .inl hstep
  ·rename_i hw; rw [if_neg hw] at hstep; exact hstep
end
def okTC (P : Program) (Γ : Env) (md : Nat → Nat) (L : List (List Nat)) (c : Code) : Bool := okEdges (aM c) && okT P Γ md (aM c) (aM c).size (List.range (aM c).size) L
theorem awp_drT {P : Program} {GL : Nat → Option (List AV)} {nt : Nat} {Q : Exit → S → Prop} {s : S} {code : Code} {Γ : Env} (L : List (List Nat)) (md : Nat → Nat) (ks : List Nat) (hm : P.follows .mixedOrders = true) (hΓ : eJ P GL Γ) (hc : isReg code = true) (hd : rDraw code = true) (ho : fK nt (aM code).toList = true) (hk : okTC P Γ md L code = true)
  (h : ∀ K : S → Prop, (∀ t, Q .normal t → K t) → allO (fun l => someP (runM P Γ GL md (rN code) (aF code) l (cX (rN code) s)) fun t => K { t with fr := gL ks t.fr }) L) : Awp P GL nt code s Q := by
 have h' := allO_mem (h (Q .normal) fun _ h => h)
 clear h
 refine Q_keep ?_
 cases code <;> first | (cases hc; done) | skip
 rename_i id ops d
 simp only [rDraw] at hd
 subst hd
 intro c h1 h2 σ0 I0 w0 a w hR
 subst h1; subst h2
 simp only [aM, okTC, Bool.and_eq_true] at ho hk
 have h0 : unl ops.size (Array.replicate ops.size false) = List.range ops.size := by
  unfold unl
  refine List.filter_eq_self.2 fun k hk => ?_
  rw [List.mem_range] at hk
  rw [Array.getD_eq_getD_getElem?, Array.getElem?_replicate, if_pos hk]; rfl
 have hrun : ∀ (l : List Nat) (s : S), runM P Γ c.GL md (rN (.region id ops true)) (aF (.region id ops true)) l s = dQ P Γ c.GL md ops l s := by
  intro l
  induction l with
  | nil => intro s; rfl
  | cons i r ih =>
   intro s
   have hl : (aF (.region id ops true))[i]? = (ops[i]?).map (aG ops) := by simp only [aF, aM, List.getElem?_map, Array.getElem?_toList]
   simp only [runM, dQ, hl]
   cases ops[i]? with
   | none => rfl
   | some o =>
    simp only [Option.map_some, stepI, step_eq]
    congr 1
    funext s'
    exact ih s'
 refine wp_region_any hm (drawnT_sound (σ0 := σ0) (I0 := I0) (w0 := w0) (md := md) (G := fun sf => ∃ s', gC s' sf ∧ Q .normal { s' with fr := gL ks s'.fr }) hΓ ho hk.1
  (fun s t hs he => by obtain ⟨s', e1, e2⟩ := hs; exact ⟨s', e1.trans he, e2⟩)
  (fun s a' w' hs hR' => by obtain ⟨s', e1, e2⟩ := hs; exact ⟨s', ⟨_, e2, sub_keep ks s', rfl⟩, hR'.eqv e1.symm⟩)
  ops.size _ (cX ops.size s) a _ L (by simp) (by rw [h0]; simp) (by rw [h0]; exact hk.2) (fun l hl => ?_) ?_)
 ·obtain ⟨t, e1, e2⟩ := someP_inv (h' l hl)
  rw [hrun] at e1
  exact ⟨t, e1, t, gC.refl _, e2⟩
 ·exact ((hR.enter ops.size).un fun k hk => by rw [h0] at hk; exact List.mem_range.1 hk).world rfl rfl rfl rfl
end Go.AX
