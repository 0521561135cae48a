/-
  Data, part zE: in plain words: NSEC3s read off their bytes, and put together again. Data, part zG: what data reads as that parts were put together to.
-/
import Derived.Test.YtndohkbppgmbjaaCL
import Derived.Test.YtndohkbppgmbjaaCN
namespace Go.AX
open Go Go.Proofs
theorem labL_len (s : List B8) : (labL s).length = 1 + s.length := by rw [labL_cons, List.length_cons]; omega
theorem txE_at (pre s r : List B8) (a : Nat) (h : pre.length = a) (hs : s.length ≤ 255) : txE (pre ++ (labL s ++ r)) a = some (a + 1 + s.length) ∧ txD (pre ++ (labL s ++ r)) a = s := by
 have hx : (pre ++ (labL s ++ r)).getD a 0#8 = BitVec.ofInt 8 (s.length : Int) := by rw [labL_cons, List.cons_append]; exact num1_at _ _ _ _ h
 have hl : (pre ++ (labL s ++ r)).length = a + (1 + s.length) + r.length := by rw [List.length_append, List.length_append, labL_len, h]; omega
 constructor
 ·unfold txE
  rw [hx, len8 hs, if_pos ⟨by omega, by omega⟩]
 ·unfold txD
  rw [hx, len8 hs, labL_cons, List.cons_append, show pre ++ BitVec.ofInt 8 (s.length : Int) :: (s ++ r) = (pre ++ [BitVec.ofInt 8 (s.length : Int)]) ++ (s ++ r) by simp, drop_app _ _ _ (by rw [List.length_append, h]; rfl), List.take_left]
theorem txE_of {l : List B8} {a p : Nat} (h : txE l a = some p) : (txD l a).length ≤ 255 ∧ l.drop a = labL (txD l a) ++ l.drop p := by
 obtain ⟨h1, h2, h3, _⟩ := textR_s h
 unfold txE at h
 split at h
 ·rename_i hc
  obtain rfl := Option.some.inj h
  have hx := (l.getD a 0#8).isLt
  have hl : (txD l a).length = (l.getD a 0#8).toNat := by unfold txD; rw [List.length_take, List.length_drop]; omega
  refine ⟨by omega, ?_⟩
  have hb : BitVec.ofInt 8 ((txD l a).length : Int) = l.getD a 0#8 := by
   apply BitVec.eq_of_toNat_eq
   rw [hl, BitVec.toNat_ofInt]; omega
  rw [labL_cons, hb, part1 hc.1, List.cons_append]
  congr 1
  unfold txD
  exact part l (a + 1) _
 ·cases h
theorem wirB2 (a b : List B8) : eF [a, b] = labL a ++ labL b := by rw [wirB_cons, wirB_cons, wirB_nil, List.append_nil]
theorem chnB_eq (h f : B8) (it : BitVec 16) (salt next : List B8) (ty : List T16) : chnB h f it salt next ty = h :: (f :: (b2 it ++ (labL salt ++ (labL next ++ bmL (eA ty))))) := by
 unfold chnB; rw [wirB2]; simp only [List.append_assoc, List.cons_append, List.nil_append]
theorem chnB_len (h f : B8) (it : BitVec 16) (salt next : List B8) (ty : List T16) : (chnB h f it salt next ty).length = 6 + salt.length + next.length + (bmL (eA ty)).length := by
 rw [chnB_eq]; simp only [List.length_cons, List.length_append, gS, labL_len]; omega
theorem bmO_bm (ty : List T16) : bmO (bmL (eA ty)) = some (eA ty) := opR_bm _ (eA ty) (-1) (cleanL_inc ty) (fun t _ => by omega) (by omega)
theorem chn_at (h f : B8) (it : BitVec 16) (salt next : List B8) (ty : List T16) (h1 : salt.length ≤ 255) (h2 : next.length ≤ 255) (h3 : 0 < next.length) : gW (chnB h f it salt next ty) = some (.agg [.w8 h, .w8 f, .w16 it, .sl salt.length (c8 salt), .sl next.length (c8 next), .sl (eA ty).length (c16 (eA ty))], [.sl (chnB h f it salt next ty).length (c8 (chnB h f it salt next ty)), .i ((chnB h f it salt next ty).length : Int)]) := by
 have hl := chnB_len h f it salt next ty
 have hL2 := chnB_eq h f it salt next ty
 obtain ⟨L, hL⟩ : ∃ L, chnB h f it salt next ty = L := ⟨_, rfl⟩
 rw [hL] at hl hL2 ⊢
 have hA : ∀ r : List B8, h :: (f :: r) = [h, f] ++ r := fun r => rfl
 have g0 : L.getD 0 0#8 = h := by rw [hL2]; rfl
 have g1 : L.getD 1 0#8 = f := by rw [hL2]; rfl
 have g2 : (eK ((L.drop 2).take 2)).setWidth 16 = it := by rw [hL2, hA]; exact num2_at _ _ _ _ rfl
 have l4 : ([h, f] ++ b2 it).length = 4 := rfl
 obtain ⟨t1, t2⟩ := txE_at ([h, f] ++ b2 it) salt (labL next ++ bmL (eA ty)) 4 l4 h1
 have e1 : ([h, f] ++ b2 it) ++ (labL salt ++ (labL next ++ bmL (eA ty))) = L := by rw [hL2, List.append_assoc]; rfl
 rw [e1] at t1 t2
 obtain ⟨t3, t4⟩ := txE_at ([h, f] ++ b2 it ++ labL salt) next (bmL (eA ty)) (4 + 1 + salt.length) (by rw [List.length_append, l4, labL_len]; omega) h2
 have e2 : ([h, f] ++ b2 it ++ labL salt) ++ (labL next ++ bmL (eA ty)) = L := by rw [List.append_assoc, e1]
 rw [e2] at t3 t4
 have e3 : L.drop (4 + 1 + salt.length + 1 + next.length) = bmL (eA ty) := by
  rw [← e2, ← List.append_assoc]
  exact drop_app _ _ _ (by simp only [List.length_append, l4, labL_len]; omega)
 unfold gW
 rw [if_pos (by omega), t1]
 simp only [chn1]
 rw [t3]
 simp only [chn2]
 rw [t4, if_pos h3, e3, bmO_bm]
 simp only [chn3, chnA]
 rw [g0, g1, g2, t2, t4]
theorem chn_of {l : List B8} (h : rdE l.length (gW l) = 0) : ∃ h f it salt next ty, salt.length ≤ 255 ∧ next.length ≤ 255 ∧ 0 < next.length ∧ Inc ty ∧ l = chnB h f it salt next ty := by
 obtain ⟨v, s, e⟩ := rdE_0 h
 unfold gW at e
 split at e
 ·rename_i h4
  rcases t1 : txE l 4 with _ | p1
  ·rw [t1] at e; cases e
  ·rw [t1] at e
   simp only [chn1] at e
   rcases t2 : txE l p1 with _ | p2
   ·rw [t2] at e; cases e
   ·rw [t2] at e
    simp only [chn2] at e
    split at e
    ·rename_i hpos
     rcases hb : bmO (l.drop p2) with _ | ty
     ·rw [hb] at e; cases e
     ·obtain ⟨a1, a2⟩ := txE_of t1
      obtain ⟨b1, b2'⟩ := txE_of t2
      obtain ⟨i1, i2, i3, i4⟩ := opR_inv _ _ _ _ hb
      refine ⟨l.getD 0 0#8, l.getD 1 0#8, (eK ((l.drop 2).take 2)).setWidth 16, txD l 4, txD l p1, ty, a1, b1, hpos, i1, ?_⟩
      rw [chnB_eq, cleanL_id i1, i3, ← b2', ← a2, ← drop2 (show 2 + 2 ≤ l.length by omega), ← part1 (show 1 < l.length by omega), ← part1 (show 0 < l.length by omega), List.drop_zero]
    ·cases e
 ·cases e
end Go.AX
namespace Go.AX
open Go Go.Proofs
theorem bmL_le : ∀ (k : Nat) (l : List T16), l.length ≤ k → (bmL l).length ≤ 34 * l.length
 | _, [], _ => by rw [bmL]; exact Nat.zero_le _
 | 0, _ :: _, h => by simp at h
 | k + 1, t :: r, h => by
  rw [bmL, List.length_append, recL_len, List.length_cons]
  rw [List.length_cons] at h
  have h1 := szL_le (grp t r)
  have h2 := rst_len t r
  have h3 := bmL_le k (rst t r) (by omega)
  omega
theorem soaT_at (n m : Nm) (a b c d e : W32) (h1 : okN n) (h2 : okN m) : soaT (soaB n m [a, b, c, d, e]) = .tup [.agg [.sl n.length (cS n), .sl m.length (cS m), .w32 a, .w32 b, .w32 c, .w32 d, .w32 e], .i 0] := by
 unfold soaT; rw [soa_at n m a b c d e h1 h2]; exact fO _ _ _ rfl
theorem sigT_at (t : BitVec 16) (al lb : B8) (a b c : W32) (tag : BitVec 16) (n : Nm) (s : List B8) (hn : okN n) : sigT (sigB t al lb [a, b, c] tag n s) = .tup [.agg [.w16 t, .w8 al, .w8 lb, .w32 a, .w32 b, .w32 c, .w16 tag, .sl n.length (cS n), .sl s.length (c8 s)], .i 0] := by
 unfold sigT; rw [sig_at t al lb a b c tag n s hn]; exact fO _ _ _ rfl
theorem chnT_at (h f : B8) (it : BitVec 16) (salt next : List B8) (ty : List T16) (h1 : salt.length ≤ 255) (h2 : next.length ≤ 255) (h3 : 0 < next.length) : chnT (chnB h f it salt next ty) = .tup [.agg [.w8 h, .w8 f, .w16 it, .sl salt.length (c8 salt), .sl next.length (c8 next), .sl (eA ty).length (c16 (eA ty))], .i 0] := by
 unfold chnT; rw [chn_at h f it salt next ty h1 h2 h3]; exact fO _ _ _ rfl
theorem keyT_at (f : BitVec 16) (p a : B8) (k : List B8) : keyT (keyB f p a k) = .tup [.agg [.w16 f, .w8 p, .w8 a, .sl k.length (c8 k)], .i 0] := by
 unfold keyT; rw [key_at]; exact fO _ _ _ rfl
end Go.AX
