/-
  Data, part zA: in plain words: names, numbers and texts read off their bytes, and put together again. Data, part yI: names that may stand in data; names held against each other.
-/
import Derived.Test.YtndohkbppgmbjaaGreatCK
namespace Go.AX
open Go Go.Proofs
theorem dec_eq {α : Type} [DecidableEq α] (a : α) : decide (a = a) = true := decide_eq_true rfl
theorem labL_cons (l : List B8) : labL l = BitVec.ofInt 8 (l.length : Int) :: l := rfl
theorem wireL_nil : cM [] = [0#8] := rfl
theorem wireL_cons (l : List B8) (n : Nm) : cM (l :: n) = labL l ++ cM n := by unfold cM; rw [wirB_cons, List.append_assoc]
theorem len8 {l : List B8} (h : l.length ≤ 255) : (BitVec.ofInt 8 (l.length : Int)).toNat = l.length := by rw [BitVec.toNat_ofInt]; omega
def okN (n : Nm) : Prop := (∀ l ∈ n, gZ l) ∧ wl n ≤ 255
theorem opN_wire : ∀ (n : Nm) (f : Nat) (r : List B8), (∀ l ∈ n, gZ l) → n.length < f → opN f (cM n ++ r) = some (n, wl n)
 | [], f, r, _, hf => by
  obtain ⟨g, rfl⟩ : ∃ g, f = g + 1 := ⟨f - 1, by omega⟩
  rfl
 | l :: n, f, r, h, hf => by
  obtain ⟨g, rfl⟩ : ∃ g, f = g + 1 := ⟨f - 1, by omega⟩
  obtain ⟨h1, h2⟩ := h l (by simp)
  rw [List.length_cons] at hf
  have hk := len8 (l := l) (by omega)
  have ih := opN_wire n g r (fun x hx => h x (by simp [hx])) (by omega)
  rw [wireL_cons, labL_cons, List.cons_append, List.cons_append, opN, hk, if_neg (by omega), if_neg (by simp only [List.length_append]; omega), List.append_assoc, List.drop_left, ih, List.take_left, wl_cons]
  simp only [Option.some.injEq, Prod.mk.injEq, true_and]; omega
theorem opN_pre : ∀ (f : Nat) (b : List B8) (n : Nm) (s : Nat), opN f b = some (n, s) → b = cM n ++ b.drop s
 | 0, _, _, _, h => by cases h
 | _ + 1, [], _, _, h => by cases h
 | f + 1, k :: r, n, s, h => by
  rw [opN] at h
  split at h
  ·rename_i h0
   simp only [Option.some.injEq, Prod.mk.injEq] at h; obtain ⟨rfl, rfl⟩ := h
   have : k = 0#8 := BitVec.eq_of_toNat_eq h0
   rw [this]; rfl
  ·rename_i h1
   split at h
   ·cases h
   ·rename_i h2
    split at h
    ·rename_i n2 s2 e
     simp only [Option.some.injEq, Prod.mk.injEq] at h; obtain ⟨rfl, rfl⟩ := h
     have ih := opN_pre f _ _ _ e
     have hl : (r.take k.toNat).length = k.toNat := by rw [List.length_take]; omega
     have hk : BitVec.ofInt 8 ((r.take k.toNat).length : Int) = k := by
      apply BitVec.eq_of_toNat_eq
      rw [hl, BitVec.toNat_ofInt]
      have := k.isLt
      omega
     rw [wireL_cons, labL_cons, hk, List.cons_append, List.cons_append]
     congr 1
     rw [List.drop_drop] at ih
     have e2 : List.drop (s2 + 1 + k.toNat) (k :: r) = List.drop (k.toNat + s2) r := by
      rw [show s2 + 1 + k.toNat = (k.toNat + s2) + 1 by omega, List.drop_succ_cons]
     rw [e2, List.append_assoc, ← ih, List.take_append_drop]
    ·cases h
theorem nmO_wire (n : Nm) (r : List B8) (h : okN n) : nmO (cM n ++ r) = some (n, wl n) := by
 unfold nmO
 rw [opN_wire n _ r h.1 (by rw [List.length_append, dS]; have := len_wl n; omega)]
 exact if_neg (by have := h.2; omega)
theorem nmO_pre {b : List B8} {n : Nm} {s : Nat} (h : nmO b = some (n, s)) : okN n ∧ s = wl n ∧ b = cM n ++ b.drop s := by
 obtain ⟨h1, h2, h3⟩ := nmO_wl h
 refine ⟨⟨h3, h2⟩, h1.symm, ?_⟩
 unfold nmO at h
 rcases ho : opN (b.length + 1) b with _ | ⟨m, q⟩
 ·rw [ho] at h; cases h
 ·rw [ho] at h
  simp only at h
  split at h
  ·cases h
  ·simp only [Option.some.injEq, Prod.mk.injEq] at h
   obtain ⟨rfl, rfl⟩ := h
   exact opN_pre _ _ _ _ ho
theorem okN_low {n : Nm} (h : okN n) : okN (dJ n) := by
 refine ⟨fun l hl => ?_, by rw [wl_low]; exact h.2⟩
 unfold dJ at hl
 obtain ⟨x, hx, rfl⟩ := List.mem_map.1 hl
 have := h.1 x hx
 unfold gZ at this ⊢
 rw [List.length_map]; exact this
theorem low8_low8 (c : B8) : hG (hG c) = hG c := by
 unfold hG
 by_cases h : 65#8 ≤ c ∧ c ≤ 90#8
 ·rw [if_pos h, if_neg]
  intro ⟨_, h2⟩
  rw [BitVec.le_def] at h2
  obtain ⟨h3, h4⟩ := h
  rw [BitVec.le_def] at h3 h4
  rw [BitVec.toNat_add] at h2
  simp only [BitVec.toNat_ofNat, Nat.reducePow, Nat.reduceMod] at h2 h3 h4
  omega
 ·rw [if_neg h, if_neg h]
theorem lowS_lowS (n : Nm) : dJ (dJ n) = dJ n := by
 unfold dJ
 rw [List.map_map]
 refine List.map_congr_left fun l _ => ?_
 show (l.map hG).map hG = l.map hG
 rw [List.map_map]
 exact List.map_congr_left fun c _ => low8_low8 c
theorem or8 (n : W32) (x : B8) : ((n <<< 8) ||| x.setWidth 32).toNat = n.toNat % 16777216 * 256 + x.toNat := by
 have hx := x.isLt
 have e1 : (n <<< 8).toNat = (n.toNat % 16777216) <<< 8 := by
  rw [BitVec.toNat_shiftLeft, Nat.shiftLeft_eq, Nat.shiftLeft_eq]; omega
 rw [BitVec.toNat_or, e1, set32, ← Nat.shiftLeft_add_eq_or_of_lt hx, Nat.shiftLeft_eq]
theorem getL4 (a b c d : B8) : (eK [a, b, c, d]).toNat = a.toNat * 16777216 + b.toNat * 65536 + c.toNat * 256 + d.toNat := by
 show ((((((0#32 <<< 8 ||| a.setWidth 32) <<< 8) ||| b.setWidth 32) <<< 8) ||| c.setWidth 32) <<< 8 ||| d.setWidth 32).toNat = _
 have := a.isLt; have := b.isLt; have := c.isLt; have := d.isLt
 rw [or8, or8, or8, or8]
 simp only [BitVec.toNat_ofNat, Nat.zero_mod, Nat.zero_mul, Nat.zero_add]
 omega
theorem getL2 (a b : B8) : (eK [a, b]).toNat = a.toNat * 256 + b.toNat := by
 show ((0#32 <<< 8 ||| a.setWidth 32) <<< 8 ||| b.setWidth 32).toNat = _
 have := a.isLt; have := b.isLt
 rw [or8, or8]
 simp only [BitVec.toNat_ofNat, Nat.zero_mod, Nat.zero_mul, Nat.zero_add]
 omega
theorem beL4 (x : W32) : beL x 4 4 = [(x >>> 24).setWidth 8, (x >>> 16).setWidth 8, (x >>> 8).setWidth 8, (x >>> 0).setWidth 8] := rfl
theorem sh8 (x : W32) (k : Nat) : ((x >>> k).setWidth 8).toNat = x.toNat / 2 ^ k % 256 := by rw [BitVec.toNat_setWidth, BitVec.toNat_ushiftRight, Nat.shiftRight_eq_div_pow]
theorem be_get (a b c d : B8) : beL (eK [a, b, c, d]) 4 4 = [a, b, c, d] := by
 have h := getL4 a b c d
 have h1 := a.isLt; have h2 := b.isLt; have h3 := c.isLt; have h4 := d.isLt
 rw [beL4]
 have e1 : ((eK [a, b, c, d]) >>> 24).setWidth 8 = a := BitVec.eq_of_toNat_eq (by rw [sh8, h]; omega)
 have e2 : ((eK [a, b, c, d]) >>> 16).setWidth 8 = b := BitVec.eq_of_toNat_eq (by rw [sh8, h]; omega)
 have e3 : ((eK [a, b, c, d]) >>> 8).setWidth 8 = c := BitVec.eq_of_toNat_eq (by rw [sh8, h]; omega)
 have e4 : ((eK [a, b, c, d]) >>> 0).setWidth 8 = d := BitVec.eq_of_toNat_eq (by rw [sh8, h]; omega)
 rw [e1, e2, e3, e4]
theorem get_be (x : W32) : eK (beL x 4 4) = x := by
 apply BitVec.eq_of_toNat_eq
 rw [beL4, getL4, sh8, sh8, sh8, sh8]
 have := x.isLt
 omega
theorem b2_get (a b : B8) : b2 ((eK [a, b]).setWidth 16) = [a, b] := by
 have h := getL2 a b
 have h1 := a.isLt; have h2 := b.isLt
 unfold b2
 have e1 : (((eK [a, b]).setWidth 16) >>> 8).setWidth 8 = a := BitVec.eq_of_toNat_eq (by rw [BitVec.toNat_setWidth, BitVec.toNat_ushiftRight, BitVec.toNat_setWidth, h, Nat.shiftRight_eq_div_pow]; omega)
 have e2 : ((eK [a, b]).setWidth 16).setWidth 8 = b := BitVec.eq_of_toNat_eq (by rw [BitVec.toNat_setWidth, BitVec.toNat_setWidth, h]; omega)
 rw [e1, e2]
theorem get_b2 (t : BitVec 16) : (eK (b2 t)).setWidth 16 = t := by
 apply BitVec.eq_of_toNat_eq
 unfold b2
 rw [BitVec.toNat_setWidth, getL2, BitVec.toNat_setWidth, BitVec.toNat_setWidth, BitVec.toNat_ushiftRight, Nat.shiftRight_eq_div_pow]
 have := t.isLt
 omega
theorem four_of {l : List B8} (h : l.length = 4) : ∃ a b c d, l = [a, b, c, d] := by
 match l, h with
 | [a, b, c, d], _ => exact ⟨a, b, c, d, rfl⟩
theorem two_of {l : List B8} (h : l.length = 2) : ∃ a b, l = [a, b] := by
 match l, h with
 | [a, b], _ => exact ⟨a, b, rfl⟩
theorem be_num4 {l : List B8} {p : Nat} (h : p + 4 ≤ l.length) : beL (dX l p) 4 4 = (l.drop p).take 4 := by
 unfold dX
 obtain ⟨a, b, c, d, e⟩ := four_of (l := (l.drop p).take 4) (by rw [List.length_take, List.length_drop]; omega)
 rw [e, be_get]
theorem b2_num {l : List B8} {p : Nat} (h : p + 2 ≤ l.length) : b2 ((eK ((l.drop p).take 2)).setWidth 16) = (l.drop p).take 2 := by
 obtain ⟨a, b, e⟩ := two_of (l := (l.drop p).take 2) (by rw [List.length_take, List.length_drop]; omega)
 rw [e, b2_get]
theorem drop_app (a b : List B8) (p : Nat) (h : a.length = p) : (a ++ b).drop p = b := by rw [← h, List.drop_left]
theorem take_app (a b : List B8) (p : Nat) (h : a.length = p) : (a ++ b).take p = a := by rw [← h, List.take_left]
theorem num4_at (a r : List B8) (x : W32) (p : Nat) (h : a.length = p) : dX (a ++ (beL x 4 4 ++ r)) p = x := by
 unfold dX
 rw [drop_app _ _ _ h, take_app _ _ _ (cZ x 4 4), get_be]
theorem num2_at (a r : List B8) (t : BitVec 16) (p : Nat) (h : a.length = p) : (eK (((a ++ (b2 t ++ r)).drop p).take 2)).setWidth 16 = t := by
 rw [drop_app _ _ _ h, take_app _ _ _ (gS t), get_b2]
theorem num1_at (a r : List B8) (x : B8) (p : Nat) (h : a.length = p) : (a ++ x :: r).getD p 0#8 = x := by
 rw [List.getD_eq_getElem?_getD, List.getElem?_append_right (by omega), h, Nat.sub_self]; rfl
theorem part (l : List B8) (p k : Nat) : l.drop p = (l.drop p).take k ++ l.drop (p + k) := by
 rw [← List.drop_drop, List.take_append_drop]
theorem part1 {l : List B8} {p : Nat} (h : p < l.length) : l.drop p = l.getD p 0#8 :: l.drop (p + 1) := by
 rw [List.drop_eq_getElem_cons h, List.getD_eq_getElem?_getD, List.getElem?_eq_getElem h]; rfl
end Go.AX
namespace Go.AX
open Go Go.Proofs
instance (n : Nm) : Decidable (okN n) := by unfold okN; infer_instance
theorem lab_len : ∀ (n : Nm), (∀ l ∈ n, gZ l) → 2 * n.length + 1 ≤ wl n
 | [], _ => Nat.le_refl _
 | l :: r, h => by
  rw [wl_cons, List.length_cons]
  have := lab_len r fun x hx => h x (by simp [hx])
  have := (h l (by simp)).1
  omega
theorem okN_len {n : Nm} (h : okN n) : n.length ≤ 127 := by
 have := lab_len n h.1
 have := h.2
 omega
theorem okN_no {n : Nm} {k : Nat} (hk : k < n.length) (h : ¬ gZ (n.getD k [])) : ¬ okN n := fun q => h (lab_at q.1 hk)
def gY : List AV → Option AV
 | [.sl n xs] => aK (unS xs) fun p => aN (p.length = n ∧ n ≤ 9223372036854775807 ∧ ∀ l ∈ p, l.length ≤ 9223372036854775807) (some (.b (decide (okN p))))
 | _ => none
theorem rightG_eq (n : Nat) (xs : List AV) : gY [.sl n xs] = aK (unS xs) fun p => aN (p.length = n ∧ n ≤ 9223372036854775807 ∧ ∀ l ∈ p, l.length ≤ 9223372036854775807) (some (.b (decide (okN p)))) := (rfl)
attribute [go_sem] rightG_eq
def nameEG : List AV → Option AV
 | [.sl n xs, .sl m ys] => aK (unS xs) fun p => aK (unS ys) fun q => aN (p.length = n ∧ q.length = m ∧ n ≤ 9223372036854775807 ∧ m ≤ 9223372036854775807) (some (.b (decide (p = q))))
 | _ => none
theorem nameEG_eq (n m : Nat) (xs ys : List AV) : nameEG [.sl n xs, .sl m ys] = aK (unS xs) fun p => aK (unS ys) fun q => aN (p.length = n ∧ q.length = m ∧ n ≤ 9223372036854775807 ∧ m ≤ 9223372036854775807) (some (.b (decide (p = q)))) := (rfl)
attribute [go_sem] nameEG_eq
theorem take_nextS {a b : Nm} {k : Nat} (ha : k < a.length) (hb : k < b.length) (h : a.take k = b.take k) (e : a.getD k [] = b.getD k []) : a.take (k + 1) = b.take (k + 1) := by
 rw [List.take_succ_eq_append_getElem ha, List.take_succ_eq_append_getElem hb, h]
 rw [List.getD_eq_getElem?_getD, List.getD_eq_getElem?_getD, List.getElem?_eq_getElem ha, List.getElem?_eq_getElem hb] at e
 simp only [Option.getD_some] at e
 rw [e]
set_option maxHeartbeats 4000000 in
theorem nameE_ok : cL Tryz.prog GLh 12 nameEG := by
 refine cC Tryz.func12 (aT rfl) ?_
 intro args r hg
 unfold nameEG at hg
 split at hg
 ·rename_i n xs m ys
  replace hg := aJ hg; obtain ⟨a, ha, hg⟩ := hg
  replace hg := aJ hg; obtain ⟨b, hb, hg⟩ := hg
  replace hg := aP hg; obtain ⟨⟨rfl, rfl, hn, hm⟩, hg⟩ := hg
  obtain rfl := Option.some.inj hg
  have := gT ha; subst this
  have := gT hb; subst this
  refine ⟨Nat.le_of_ble_eq_true rfl, fun nx => ?_⟩
  clear ha hb hg
  refine aA rfl ?_
  refine aC (Γ := aL) [0, 1] (aD _ _) rfl rfl rfl (fun K hK => ?_)
  simp (disch := omega) only [Tryz.f12, go_sem, ↓reduceIte]
  refine hK _ ?_
  refine aB ?_
  refine aA rfl ?_
  refine aA rfl ?_
  refine aC (Γ := aL) [10, 0, 1] (aD _ _) rfl rfl rfl (fun K hK => ?_)
  simp (disch := omega) only [Tryz.f12, go_sem, Nat.reduceAdd, ↓reduceIte]
  refine hK _ ?_
  refine aB ?_
  refine awp_ifE (.tmp 10) rfl rfl rfl (fun h => ?_) (fun h => ?_)
  ·skip
   refine aI rfl ?_
   rw [decide_eq_false (fun q => by rw [q] at h; exact h rfl)]
   refine aA rfl ?_
   refine aC (Γ := aL) [4] (aD _ _) rfl rfl rfl (fun K hK => ?_)
   simp (disch := omega) only [Tryz.f12, go_sem, ↓reduceIte]
   refine hK _ ?_
   refine aB ?_
   refine aS rfl ?_
   refine bI ?_
   simp (disch := omega) only [cN, bV, bK, bQ, Tryz.f12, go_sem, ↓reduceIte]
  ·skip
   refine aI rfl ?_
   have hab : a.length = b.length := by omega
   refine aQ rfl ?_
   refine aB ?_
   refine aA rfl ?_
   refine aA rfl ?_
   refine aC (Γ := aL) [0, 1, 5] (aD _ _) rfl rfl rfl (fun K hK => ?_)
   simp (disch := omega) only [Tryz.f12, go_sem, ↓reduceIte]
   refine hK _ ?_
   refine aB ?_
   refine aR 0 rfl rfl ?_
   refine bR (fun p : KC5 => { fr := [(0, .sl a.length (cS a)), (1, .sl b.length (cS b)), (5, .i (p.k : Int))], hp := fun _ => none, nx := 0, cx := p.c }) (fun p => p.k ≤ a.length ∧ a.take p.k = b.take p.k) (fun p => a.length - p.k) rfl ⟨⟨0, _⟩, ⟨Nat.zero_le _, rfl⟩, bD rfl rfl (Nat.le_refl _)⟩ ?_
   rintro ⟨k, c⟩ ⟨hk, he⟩ n0
   simp only at hk he ⊢
   refine aA rfl ?_
   refine aA rfl ?_
   refine aC (Γ := aL) [14, 0, 1, 5] (aD _ _) rfl rfl rfl (fun K hK => ?_)
   simp (disch := omega) only [Tryz.f12, go_sem, Nat.reduceAdd, ↓reduceIte]
   refine hK _ ?_
   refine aB ?_
   refine aW (.tmp 14) rfl rfl rfl (fun h => ?_) (fun h => ?_)
   ·skip
    refine aI rfl ?_
    have hka : k < a.length := by omega
    have hkb : k < b.length := by omega
    have hnx := take_nextS hka hkb he
    obtain ⟨x, hx⟩ : ∃ x, a.getD k [] = x := ⟨_, rfl⟩
    obtain ⟨y, hy⟩ : ∃ y, b.getD k [] = y := ⟨_, rfl⟩
    rw [hx, hy] at hnx
    refine aQ rfl ?_
    refine aB ?_
    refine aA rfl ?_
    refine aR 1 rfl rfl ?_
    refine aA rfl ?_
    refine bB (Γ := aL) (fun _ => 2) [25, 0, 1, 5] bZ (aD _ _) rfl rfl rfl (by kernel_rfl) (fun K hK => ?_)
    simp (disch := omega) only [Tryz.f12, go_sem, Nat.reduceAdd, ↓reduceIte, hx, hy]
    refine hK _ ?_
    refine aB ?_
    refine awp_ifE (.tmp 25) rfl rfl rfl (fun h => ?_) (fun h => ?_)
    ·skip
     refine aI rfl ?_
     rw [decide_eq_false (fun q => h (by rw [← hx, ← hy, q]))]
     refine aA rfl ?_
     refine aC (Γ := aL) [4] (aD _ _) rfl rfl rfl (fun K hK => ?_)
     simp (disch := omega) only [Tryz.f12, go_sem, ↓reduceIte]
     refine hK _ ?_
     refine aB ?_
     refine aS rfl ?_
     refine bN (bI (dF (bN (bI ?_))))
     simp (disch := omega) only [cN, bV, bK, bQ, Tryz.f12, go_sem, ↓reduceIte]
    ·skip
     refine aI rfl ?_
     refine aQ rfl ?_
     refine bU (aB ?_)
     refine aC (Γ := aL) [0, 1, 5] (aD _ _) rfl rfl rfl (fun K hK => ?_)
     simp (disch := omega) only [Tryz.f12, go_sem, Nat.reduceAdd, ↓reduceIte]
     refine hK _ ?_
     refine bT ?_
     refine ⟨⟨k + 1, _⟩, ⟨by simp only; omega, hnx (by first | exact h | exact Decidable.not_not.1 h)⟩, by simp only; omega, bD ?_ rfl (Nat.le_refl _)⟩
     simp only [Int.natCast_add, Int.natCast_one]
   ·skip
    refine aI rfl ?_
    refine bF 0 rfl rfl ?_
    refine aY (aZ (bE ?_))
    refine aB ?_
    refine aA rfl ?_
    obtain rfl : k = a.length := by omega
    rw [List.take_length, hab, List.take_length] at he
    rw [decide_eq_true he]
    refine aC (Γ := aL) [4] (aD _ _) rfl rfl rfl (fun K hK => ?_)
    simp (disch := omega) only [Tryz.f12, go_sem, ↓reduceIte]
    refine hK _ ?_
    refine aB ?_
    refine aS rfl ?_
    simp (disch := omega) only [cN, bV, bK, bQ, Tryz.f12, go_sem, ↓reduceIte]
 ·cases hg
theorem ok19 : bX Tryz.prog GLh 12 (.pure true nameEG) := ⟨⟨_, Tryz.func12, rfl, rfl⟩, nameE_ok⟩
end Go.AX
