/-
  Data, part zA: in plain words: names, numbers and texts read off their bytes, and put together again. Data, part zB: in plain words: keys, SOAs and RRSIGs read off their bytes, and put together again.
-/
import Derived.Test.YtndohkbppgmbjaaCK
namespace Go.AX
open Go Go.Proofs
theorem dec_eq {α : Type} [DecidableEq α] (a : α) : decide (a = a) = true := decide_eq_true rfl
theorem labL_cons (l : List B8) : labL l = BitVec.ofInt 8 (l.length : Int) :: l := rfl
theorem wireL_nil : cM [] = [0#8] := rfl
theorem wireL_cons (l : List B8) (n : Nm) : cM (l :: n) = labL l ++ cM n := by unfold cM; rw [wirB_cons, List.append_assoc]
theorem len8 {l : List B8} (h : l.length ≤ 255) : (BitVec.ofInt 8 (l.length : Int)).toNat = l.length := by rw [BitVec.toNat_ofInt]; omega
def okN (n : Nm) : Prop := (∀ l ∈ n, gZ l) ∧ wl n ≤ 255
theorem opN_wire : ∀ (n : Nm) (f : Nat) (r : List B8), (∀ l ∈ n, gZ l) → n.length < f → opN f (cM n ++ r) = some (n, wl n)
 | [], f, r, _, hf => by
  obtain ⟨g, rfl⟩ : ∃ g, f = g + 1 := ⟨f - 1, by omega⟩
  rfl
 | l :: n, f, r, h, hf => by
  obtain ⟨g, rfl⟩ : ∃ g, f = g + 1 := ⟨f - 1, by omega⟩
  obtain ⟨h1, h2⟩ := h l (by simp)
  rw [List.length_cons] at hf
  have hk := len8 (l := l) (by omega)
  have ih := opN_wire n g r (fun x hx => h x (by simp [hx])) (by omega)
  rw [wireL_cons, labL_cons, List.cons_append, List.cons_append, opN, hk, if_neg (by omega), if_neg (by simp only [List.length_append]; omega), List.append_assoc, List.drop_left, ih, List.take_left, wl_cons]
  simp only [Option.some.injEq, Prod.mk.injEq, true_and]; omega
theorem opN_pre : ∀ (f : Nat) (b : List B8) (n : Nm) (s : Nat), opN f b = some (n, s) → b = cM n ++ b.drop s
 | 0, _, _, _, h => by cases h
 | _ + 1, [], _, _, h => by cases h
 | f + 1, k :: r, n, s, h => by
  rw [opN] at h
  split at h
  ·rename_i h0
   simp only [Option.some.injEq, Prod.mk.injEq] at h; obtain ⟨rfl, rfl⟩ := h
   have : k = 0#8 := BitVec.eq_of_toNat_eq h0
   rw [this]; rfl
  ·rename_i h1
   split at h
   ·cases h
   ·rename_i h2
    split at h
    ·rename_i n2 s2 e
     simp only [Option.some.injEq, Prod.mk.injEq] at h; obtain ⟨rfl, rfl⟩ := h
     have ih := opN_pre f _ _ _ e
     have hl : (r.take k.toNat).length = k.toNat := by rw [List.length_take]; omega
     have hk : BitVec.ofInt 8 ((r.take k.toNat).length : Int) = k := by
      apply BitVec.eq_of_toNat_eq
      rw [hl, BitVec.toNat_ofInt]
      have := k.isLt
      omega
     rw [wireL_cons, labL_cons, hk, List.cons_append, List.cons_append]
     congr 1
     rw [List.drop_drop] at ih
     have e2 : List.drop (s2 + 1 + k.toNat) (k :: r) = List.drop (k.toNat + s2) r := by
      rw [show s2 + 1 + k.toNat = (k.toNat + s2) + 1 by omega, List.drop_succ_cons]
     rw [e2, List.append_assoc, ← ih, List.take_append_drop]
    ·cases h
theorem nmO_wire (n : Nm) (r : List B8) (h : okN n) : nmO (cM n ++ r) = some (n, wl n) := by
 unfold nmO
 rw [opN_wire n _ r h.1 (by rw [List.length_append, dS]; have := len_wl n; omega)]
 exact if_neg (by have := h.2; omega)
theorem nmO_pre {b : List B8} {n : Nm} {s : Nat} (h : nmO b = some (n, s)) : okN n ∧ s = wl n ∧ b = cM n ++ b.drop s := by
 obtain ⟨h1, h2, h3⟩ := nmO_wl h
 refine ⟨⟨h3, h2⟩, h1.symm, ?_⟩
 unfold nmO at h
 rcases ho : opN (b.length + 1) b with _ | ⟨m, q⟩
 ·rw [ho] at h; cases h
 ·rw [ho] at h
  simp only at h
  split at h
  ·cases h
  ·simp only [Option.some.injEq, Prod.mk.injEq] at h
   obtain ⟨rfl, rfl⟩ := h
   exact opN_pre _ _ _ _ ho
theorem okN_low {n : Nm} (h : okN n) : okN (dJ n) := by
 refine ⟨fun l hl => ?_, by rw [wl_low]; exact h.2⟩
 unfold dJ at hl
 obtain ⟨x, hx, rfl⟩ := List.mem_map.1 hl
 have := h.1 x hx
 unfold gZ at this ⊢
 rw [List.length_map]; exact this
theorem low8_low8 (c : B8) : low8 (low8 c) = low8 c := by
 unfold low8
 by_cases h : 65#8 ≤ c ∧ c ≤ 90#8
 ·rw [if_pos h, if_neg]
  intro ⟨_, h2⟩
  rw [BitVec.le_def] at h2
  obtain ⟨h3, h4⟩ := h
  rw [BitVec.le_def] at h3 h4
  rw [BitVec.toNat_add] at h2
  simp only [BitVec.toNat_ofNat, Nat.reducePow, Nat.reduceMod] at h2 h3 h4
  omega
 ·rw [if_neg h, if_neg h]
theorem lowS_lowS (n : Nm) : dJ (dJ n) = dJ n := by
 unfold dJ
 rw [List.map_map]
 refine List.map_congr_left fun l _ => ?_
 show (l.map low8).map low8 = l.map low8
 rw [List.map_map]
 exact List.map_congr_left fun c _ => low8_low8 c
theorem or8 (n : W32) (x : B8) : ((n <<< 8) ||| x.setWidth 32).toNat = n.toNat % 16777216 * 256 + x.toNat := by
 have hx := x.isLt
 have e1 : (n <<< 8).toNat = (n.toNat % 16777216) <<< 8 := by
  rw [BitVec.toNat_shiftLeft, Nat.shiftLeft_eq, Nat.shiftLeft_eq]; omega
 rw [BitVec.toNat_or, e1, set32, ← Nat.shiftLeft_add_eq_or_of_lt hx, Nat.shiftLeft_eq]
theorem getL4 (a b c d : B8) : (eK [a, b, c, d]).toNat = a.toNat * 16777216 + b.toNat * 65536 + c.toNat * 256 + d.toNat := by
 show ((((((0#32 <<< 8 ||| a.setWidth 32) <<< 8) ||| b.setWidth 32) <<< 8) ||| c.setWidth 32) <<< 8 ||| d.setWidth 32).toNat = _
 have := a.isLt; have := b.isLt; have := c.isLt; have := d.isLt
 rw [or8, or8, or8, or8]
 simp only [BitVec.toNat_ofNat, Nat.zero_mod, Nat.zero_mul, Nat.zero_add]
 omega
theorem getL2 (a b : B8) : (eK [a, b]).toNat = a.toNat * 256 + b.toNat := by
 show ((0#32 <<< 8 ||| a.setWidth 32) <<< 8 ||| b.setWidth 32).toNat = _
 have := a.isLt; have := b.isLt
 rw [or8, or8]
 simp only [BitVec.toNat_ofNat, Nat.zero_mod, Nat.zero_mul, Nat.zero_add]
 omega
theorem beL4 (x : W32) : beL x 4 4 = [(x >>> 24).setWidth 8, (x >>> 16).setWidth 8, (x >>> 8).setWidth 8, (x >>> 0).setWidth 8] := rfl
theorem sh8 (x : W32) (k : Nat) : ((x >>> k).setWidth 8).toNat = x.toNat / 2 ^ k % 256 := by rw [BitVec.toNat_setWidth, BitVec.toNat_ushiftRight, Nat.shiftRight_eq_div_pow]
theorem be_get (a b c d : B8) : beL (eK [a, b, c, d]) 4 4 = [a, b, c, d] := by
 have h := getL4 a b c d
 have h1 := a.isLt; have h2 := b.isLt; have h3 := c.isLt; have h4 := d.isLt
 rw [beL4]
 have e1 : ((eK [a, b, c, d]) >>> 24).setWidth 8 = a := BitVec.eq_of_toNat_eq (by rw [sh8, h]; omega)
 have e2 : ((eK [a, b, c, d]) >>> 16).setWidth 8 = b := BitVec.eq_of_toNat_eq (by rw [sh8, h]; omega)
 have e3 : ((eK [a, b, c, d]) >>> 8).setWidth 8 = c := BitVec.eq_of_toNat_eq (by rw [sh8, h]; omega)
 have e4 : ((eK [a, b, c, d]) >>> 0).setWidth 8 = d := BitVec.eq_of_toNat_eq (by rw [sh8, h]; omega)
 rw [e1, e2, e3, e4]
theorem get_be (x : W32) : eK (beL x 4 4) = x := by
 apply BitVec.eq_of_toNat_eq
 rw [beL4, getL4, sh8, sh8, sh8, sh8]
 have := x.isLt
 omega
theorem b2_get (a b : B8) : b2 ((eK [a, b]).setWidth 16) = [a, b] := by
 have h := getL2 a b
 have h1 := a.isLt; have h2 := b.isLt
 unfold b2
 have e1 : (((eK [a, b]).setWidth 16) >>> 8).setWidth 8 = a := BitVec.eq_of_toNat_eq (by rw [BitVec.toNat_setWidth, BitVec.toNat_ushiftRight, BitVec.toNat_setWidth, h, Nat.shiftRight_eq_div_pow]; omega)
 have e2 : ((eK [a, b]).setWidth 16).setWidth 8 = b := BitVec.eq_of_toNat_eq (by rw [BitVec.toNat_setWidth, BitVec.toNat_setWidth, h]; omega)
 rw [e1, e2]
theorem get_b2 (t : BitVec 16) : (eK (b2 t)).setWidth 16 = t := by
 apply BitVec.eq_of_toNat_eq
 unfold b2
 rw [BitVec.toNat_setWidth, getL2, BitVec.toNat_setWidth, BitVec.toNat_setWidth, BitVec.toNat_ushiftRight, Nat.shiftRight_eq_div_pow]
 have := t.isLt
 omega
theorem four_of {l : List B8} (h : l.length = 4) : ∃ a b c d, l = [a, b, c, d] := by
 match l, h with
 | [a, b, c, d], _ => exact ⟨a, b, c, d, rfl⟩
theorem two_of {l : List B8} (h : l.length = 2) : ∃ a b, l = [a, b] := by
 match l, h with
 | [a, b], _ => exact ⟨a, b, rfl⟩
theorem be_num4 {l : List B8} {p : Nat} (h : p + 4 ≤ l.length) : beL (dX l p) 4 4 = (l.drop p).take 4 := by
 unfold dX
 obtain ⟨a, b, c, d, e⟩ := four_of (l := (l.drop p).take 4) (by rw [List.length_take, List.length_drop]; omega)
 rw [e, be_get]
theorem b2_num {l : List B8} {p : Nat} (h : p + 2 ≤ l.length) : b2 ((eK ((l.drop p).take 2)).setWidth 16) = (l.drop p).take 2 := by
 obtain ⟨a, b, e⟩ := two_of (l := (l.drop p).take 2) (by rw [List.length_take, List.length_drop]; omega)
 rw [e, b2_get]
theorem drop_app (a b : List B8) (p : Nat) (h : a.length = p) : (a ++ b).drop p = b := by rw [← h, List.drop_left]
theorem take_app (a b : List B8) (p : Nat) (h : a.length = p) : (a ++ b).take p = a := by rw [← h, List.take_left]
theorem num4_at (a r : List B8) (x : W32) (p : Nat) (h : a.length = p) : dX (a ++ (beL x 4 4 ++ r)) p = x := by
 unfold dX
 rw [drop_app _ _ _ h, take_app _ _ _ (cZ x 4 4), get_be]
theorem num2_at (a r : List B8) (t : BitVec 16) (p : Nat) (h : a.length = p) : (eK (((a ++ (b2 t ++ r)).drop p).take 2)).setWidth 16 = t := by
 rw [drop_app _ _ _ h, take_app _ _ _ (gS t), get_b2]
theorem num1_at (a r : List B8) (x : B8) (p : Nat) (h : a.length = p) : (a ++ x :: r).getD p 0#8 = x := by
 rw [List.getD_eq_getElem?_getD, List.getElem?_append_right (by omega), h, Nat.sub_self]; rfl
theorem part (l : List B8) (p k : Nat) : l.drop p = (l.drop p).take k ++ l.drop (p + k) := by
 rw [← List.drop_drop, List.take_append_drop]
theorem part1 {l : List B8} {p : Nat} (h : p < l.length) : l.drop p = l.getD p 0#8 :: l.drop (p + 1) := by
 rw [List.drop_eq_getElem_cons h, List.getD_eq_getElem?_getD, List.getElem?_eq_getElem h]; rfl
end Go.AX
namespace Go.AX
open Go Go.Proofs
theorem keyB_len (f : BitVec 16) (p a : B8) (k : List B8) : (keyB f p a k).length = 4 + k.length := by simp [keyB]; omega
theorem keyB_eq (f : BitVec 16) (p a : B8) (k : List B8) : keyB f p a k = b2 f ++ p :: a :: k := by simp [keyB, b2]
theorem key_at (f : BitVec 16) (p a : B8) (k : List B8) : gE (keyB f p a k) = some (.agg [.w16 f, .w8 p, .w8 a, .sl k.length (c8 k)], [.sl (keyB f p a k).length (c8 (keyB f p a k)), .i ((keyB f p a k).length : Int)]) := by
 unfold gE
 rw [if_pos (by rw [keyB_len]; omega)]
 unfold keyA
 have hl := keyB_len f p a k
 have e0 : (eK ((keyB f p a k).take 2)).setWidth 16 = f := by rw [keyB_eq, take_app _ _ _ (gS f), get_b2]
 have e1 : (keyB f p a k).getD 2 0#8 = p := by rw [keyB_eq]; exact num1_at _ _ _ _ (gS f)
 have e2 : (keyB f p a k).getD 3 0#8 = a := by
  rw [keyB_eq, show b2 f ++ p :: a :: k = (b2 f ++ [p]) ++ a :: k by simp]
  exact num1_at _ _ _ _ (by simp [gS])
 have e3 : (keyB f p a k).drop 4 = k := by
  rw [keyB_eq, show b2 f ++ p :: a :: k = (b2 f ++ [p, a]) ++ k by simp]
  exact drop_app _ _ _ (by simp [gS])
 rw [e0, e1, e2, e3, hl, show 4 + k.length - 4 = k.length by omega]
theorem key_of {l : List B8} (h : rdE l.length (gE l) = 0) : ∃ f p a k, l = keyB f p a k := by
 obtain ⟨v, s, e⟩ := rdE_0 h
 unfold gE at e
 split at e
 ·rename_i h4
  refine ⟨(eK ((l.drop 0).take 2)).setWidth 16, l.getD 2 0#8, l.getD 3 0#8, l.drop 4, ?_⟩
  rw [keyB_eq, b2_num (by omega)]
  rw [← part1 (by omega), ← part1 (by omega), List.drop_zero, List.take_append_drop]
 ·cases e
theorem soaB_len (n m : Nm) (vs : List W32) : (soaB n m vs).length = wl n + wl m + 4 * vs.length := by
 unfold soaB; rw [List.length_append, List.length_append, dS, dS, pn_len]
theorem pn_cons (x : W32) (r : List W32) : pn (x :: r) = beL x 4 4 ++ pn r := by unfold pn; rw [List.flatMap_cons]
theorem pn_nil : pn [] = [] := rfl
theorem nm2_at (n m : Nm) (r : List B8) (h1 : okN n) (h2 : okN m) : nm2 (cM n ++ (cM m ++ r)) = some (n, m, wl n + wl m) := by
 unfold nm2
 rw [nmO_wire n _ h1]
 simp only
 rw [drop_app _ _ _ (dS n), nmO_wire m _ h2]
theorem soa_at (n m : Nm) (a b c d e : W32) (h1 : okN n) (h2 : okN m) : eX (soaB n m [a, b, c, d, e]) = some (.agg [.sl n.length (cS n), .sl m.length (cS m), .w32 a, .w32 b, .w32 c, .w32 d, .w32 e], [.sl (soaB n m [a, b, c, d, e]).length (c8 (soaB n m [a, b, c, d, e])), .i ((soaB n m [a, b, c, d, e]).length : Int)]) := by
 have hl := soaB_len n m [a, b, c, d, e]
 simp only [List.length_cons, List.length_nil] at hl
 obtain ⟨L, hL⟩ : ∃ L, soaB n m [a, b, c, d, e] = L := ⟨_, rfl⟩
 rw [hL] at hl ⊢
 obtain ⟨p, hp⟩ : ∃ p, wl n + wl m = p := ⟨_, rfl⟩
 have w0 : (cM n ++ cM m).length = p := by rw [List.length_append, dS, dS, hp]
 have hL2 : L = (cM n ++ cM m) ++ (beL a 4 4 ++ (beL b 4 4 ++ (beL c 4 4 ++ (beL d 4 4 ++ (beL e 4 4 ++ []))))) := by
  rw [← hL]; simp only [soaB, pn_cons, pn_nil]
 have q0 : dX L p = a := by rw [hL2]; exact num4_at _ _ _ _ w0
 have q1 : dX L (p + 4) = b := by
  rw [hL2, ← List.append_assoc]; exact num4_at _ _ _ _ (by rw [List.length_append, w0, cZ])
 have q2 : dX L (p + 4 + 4) = c := by
  rw [hL2, ← List.append_assoc, ← List.append_assoc]; exact num4_at _ _ _ _ (by rw [List.length_append, List.length_append, w0, cZ, cZ])
 have q3 : dX L (p + 4 + 4 + 4) = d := by
  rw [hL2, ← List.append_assoc, ← List.append_assoc, ← List.append_assoc]; exact num4_at _ _ _ _ (by rw [List.length_append, List.length_append, List.length_append, w0, cZ, cZ, cZ])
 have q4 : dX L (p + 4 + 4 + 4 + 4) = e := by
  rw [hL2, ← List.append_assoc, ← List.append_assoc, ← List.append_assoc, ← List.append_assoc]; exact num4_at _ _ _ _ (by rw [List.length_append, List.length_append, List.length_append, List.length_append, w0, cZ, cZ, cZ, cZ])
 have hn : nm2 L = some (n, m, p) := by rw [hL2, List.append_assoc, nm2_at n m _ h1 h2, hp]
 unfold eX
 rw [hn]
 simp only [soa1S]
 rw [if_pos (by omega), show p + 4 + 4 + 4 + 4 + 4 = L.length by omega]
 unfold soaA
 rw [q0, q1, q2, q3, q4]
theorem nm2_of {l : List B8} {n m : Nm} {p : Nat} (h : nm2 l = some (n, m, p)) : okN n ∧ okN m ∧ p = wl n + wl m ∧ l = cM n ++ (cM m ++ l.drop p) := by
 unfold nm2 at h
 rcases h1 : nmO l with _ | ⟨n', s'⟩
 ·rw [h1] at h; cases h
 ·rw [h1] at h
  simp only at h
  rcases h2 : nmO (l.drop s') with _ | ⟨m', s2'⟩
  ·rw [h2] at h; cases h
  ·rw [h2] at h
   simp only [Option.some.injEq, Prod.mk.injEq] at h
   obtain ⟨rfl, rfl, rfl⟩ := h
   obtain ⟨a1, a2, a3⟩ := nmO_pre h1
   obtain ⟨b1, b2', b3⟩ := nmO_pre h2
   refine ⟨a1, b1, by rw [a2, b2'], ?_⟩
   rw [List.drop_drop] at b3
   rw [← b3]; exact a3
theorem drop4 {l : List B8} {p : Nat} (h : p + 4 ≤ l.length) : l.drop p = beL (dX l p) 4 4 ++ l.drop (p + 4) := by rw [be_num4 h]; exact part l p 4
theorem drop2 {l : List B8} {p : Nat} (h : p + 2 ≤ l.length) : l.drop p = b2 ((eK ((l.drop p).take 2)).setWidth 16) ++ l.drop (p + 2) := by rw [b2_num h]; exact part l p 2
theorem soa_of {l : List B8} (h : rdE l.length (eX l) = 0) : ∃ n m a b c d e, okN n ∧ okN m ∧ l = soaB n m [a, b, c, d, e] := by
 obtain ⟨v, s, e⟩ := rdE_0 h
 unfold eX at e
 rcases hn : nm2 l with _ | ⟨n, m, p⟩
 ·rw [hn] at e; cases e
 ·rw [hn] at e
  simp only [soa1S] at e
  split at e
  ·rename_i hle
   simp only [Option.some.injEq, Prod.mk.injEq, List.cons.injEq, AV.i.injEq, and_true] at e
   obtain ⟨_, _, e2⟩ := e
   obtain ⟨a1, a2, a3, a4⟩ := nm2_of hn
   refine ⟨n, m, dX l p, dX l (p + 4), dX l (p + 4 + 4), dX l (p + 4 + 4 + 4), dX l (p + 4 + 4 + 4 + 4), a1, a2, ?_⟩
   have hend : l.drop (p + 4 + 4 + 4 + 4 + 4) = [] := List.drop_of_length_le (by omega)
   have : l.drop p = pn [dX l p, dX l (p + 4), dX l (p + 4 + 4), dX l (p + 4 + 4 + 4), dX l (p + 4 + 4 + 4 + 4)] := by
    simp only [pn_cons, pn_nil]
    rw [drop4 (show p + 4 ≤ l.length by omega), drop4 (show p + 4 + 4 ≤ l.length by omega), drop4 (show p + 4 + 4 + 4 ≤ l.length by omega), drop4 (show p + 4 + 4 + 4 + 4 ≤ l.length by omega), drop4 (show p + 4 + 4 + 4 + 4 + 4 ≤ l.length by omega), hend]
   unfold soaB
   rw [← this, List.append_assoc]; exact a4
  ·cases e
theorem sigB_len (t : BitVec 16) (al lb : B8) (vs : List W32) (tag : BitVec 16) (n : Nm) (s : List B8) : (sigB t al lb vs tag n s).length = 6 + 4 * vs.length + wl n + s.length := by
 unfold sigB; simp only [List.length_append, gS, pn_len, dS, List.length_cons, List.length_nil]; omega
theorem sig_at (t : BitVec 16) (al lb : B8) (a b c : W32) (tag : BitVec 16) (n : Nm) (s : List B8) (hn : okN n) : eY (sigB t al lb [a, b, c] tag n s) = some (.agg [.w16 t, .w8 al, .w8 lb, .w32 a, .w32 b, .w32 c, .w16 tag, .sl n.length (cS n), .sl s.length (c8 s)], [.sl (sigB t al lb [a, b, c] tag n s).length (c8 (sigB t al lb [a, b, c] tag n s)), .i ((sigB t al lb [a, b, c] tag n s).length : Int)]) := by
 have hl := sigB_len t al lb [a, b, c] tag n s
 simp only [List.length_cons, List.length_nil] at hl
 obtain ⟨L, hL⟩ : ∃ L, sigB t al lb [a, b, c] tag n s = L := ⟨_, rfl⟩
 rw [hL] at hl ⊢
 have hL2 : L = b2 t ++ (al :: (lb :: (beL a 4 4 ++ (beL b 4 4 ++ (beL c 4 4 ++ (b2 tag ++ (cM n ++ s))))))) := by
  rw [← hL]; simp only [sigB, pn_cons, pn_nil, List.append_assoc, List.cons_append, List.nil_append]
 have g0 : (eK (L.take 2)).setWidth 16 = t := by rw [hL2, take_app _ _ _ (gS t), get_b2]
 have g1 : L.getD 2 0#8 = al := by rw [hL2]; exact num1_at _ _ _ _ (gS t)
 have g2 : L.getD 3 0#8 = lb := by
  rw [hL2, show ∀ r : List B8, b2 t ++ al :: (lb :: r) = (b2 t ++ [al]) ++ lb :: r from fun r => by simp]
  exact num1_at _ _ _ _ (by simp [gS])
 have hA : ∀ r : List B8, b2 t ++ al :: (lb :: r) = (b2 t ++ [al, lb]) ++ r := fun r => by simp
 have l4 : (b2 t ++ [al, lb]).length = 4 := by simp [gS]
 have g3 : dX L 4 = a := by rw [hL2, hA]; exact num4_at _ _ _ _ l4
 have g4 : dX L 8 = b := by rw [hL2, hA, ← List.append_assoc]; exact num4_at _ _ _ _ (by rw [List.length_append, l4, cZ])
 have g5 : dX L 12 = c := by rw [hL2, hA, ← List.append_assoc, ← List.append_assoc]; exact num4_at _ _ _ _ (by rw [List.length_append, List.length_append, l4, cZ, cZ])
 have g6 : (eK ((L.drop 16).take 2)).setWidth 16 = tag := by
  rw [hL2, hA, ← List.append_assoc, ← List.append_assoc, ← List.append_assoc]; exact num2_at _ _ _ _ (by rw [List.length_append, List.length_append, List.length_append, l4, cZ, cZ, cZ])
 have g7 : L.drop 18 = cM n ++ s := by
  rw [hL2, hA, ← List.append_assoc, ← List.append_assoc, ← List.append_assoc, ← List.append_assoc]
  exact drop_app _ _ _ (by simp only [List.length_append, l4, cZ, gS])
 have g8 : L.drop (18 + wl n) = s := by rw [← List.drop_drop, g7, drop_app _ _ _ (dS n)]
 unfold eY
 rw [if_pos (by omega), g7, nmO_wire n s hn]
 unfold sig1S sigA
 simp only
 rw [g0, g1, g2, g3, g4, g5, g6, g8, show L.length - (18 + wl n) = s.length by omega]
theorem sig_of {l : List B8} (h : rdE l.length (eY l) = 0) : ∃ t al lb a b c tag n s, okN n ∧ l = sigB t al lb [a, b, c] tag n s := by
 obtain ⟨v, s, e⟩ := rdE_0 h
 unfold eY at e
 split at e
 ·rename_i h18
  rcases hn : nmO (l.drop 18) with _ | ⟨n, s⟩
  ·rw [hn] at e; cases e
  ·obtain ⟨a1, a2, a3⟩ := nmO_pre hn
   refine ⟨(eK ((l.drop 0).take 2)).setWidth 16, l.getD 2 0#8, l.getD 3 0#8, dX l 4, dX l (4 + 4), dX l (4 + 4 + 4), (eK ((l.drop (4 + 4 + 4 + 4)).take 2)).setWidth 16, n, (l.drop 18).drop s, a1, ?_⟩
   unfold sigB
   simp only [pn_cons, pn_nil, List.append_assoc, List.cons_append, List.nil_append]
   rw [← a3]
   have d0 := drop2 (l := l) (p := 0) (by omega)
   rw [List.drop_zero] at d0
   rw [← drop2 (show 4 + 4 + 4 + 4 + 2 ≤ l.length by omega), ← drop4 (show 4 + 4 + 4 + 4 ≤ l.length by omega), ← drop4 (show 4 + 4 + 4 ≤ l.length by omega), ← drop4 (show 4 + 4 ≤ l.length by omega), ← part1 (show 3 < l.length by omega), ← part1 (show 2 < l.length by omega)]
   exact d0
 ·cases e
end Go.AX
