/-
  Hash, part N: plain law: the reference's sum is the program's.
-/
import Derived.Test.YtnnkmoaipcdhnaaDoorHsM
namespace Go.AX
open Go Go.Proofs

theorem ab_append (s : List W32) (x y : List B8) (q : Nat) (hx : x.length = 64 * q) : ∀ m, ab s (x ++ y) (q + m) = ab (ab s x q) y m
  | 0 => by
    show ab s (x ++ y) q = ab s x q
    have : ∀ j, j ≤ q → ab s (x ++ y) j = ab s x j := by
      intro j
      induction j with
      | zero => intro _; rfl
      | succ j ih =>
        intro hj
        simp only [ab]
        rw [ih (by omega), List.drop_append_of_le_length (by omega), List.take_append_of_le_length (by rw [List.length_drop]; omega)]
    exact this q (Nat.le_refl _)
  | m + 1 => by
    show comp (ab s (x ++ y) (q + m)) _ = comp (ab (ab s x q) y m) _
    rw [ab_append s x y q hx m]
    congr 1
    rw [show 64 * q.add m = x.length + 64 * m by rw [Nat.add_eq]; omega, List.drop_append]
    rw [List.drop_of_length_le (by omega), List.nil_append, show x.length + 64 * m - x.length = 64 * m by omega]
theorem ab_take (s : List W32) (l : List B8) (e : Nat) : ∀ n, 64 * n ≤ e → ab s (l.take e) n = ab s l n
  | 0, _ => rfl
  | n + 1, h => by
    simp only [ab]
    rw [ab_take s l e n (by omega), List.drop_take, List.take_take, Nat.min_eq_left (by omega)]
def len8 (n : BitVec 64) : List B8 := [(n >>> 56).setWidth 8, (n >>> 48).setWidth 8, (n >>> 40).setWidth 8, (n >>> 32).setWidth 8, (n >>> 24).setWidth 8, (n >>> 16).setWidth 8, (n >>> 8).setWidth 8, n.setWidth 8]
theorem padn8 (n : BitVec 64) (l : List B8) : padn n l 8 = l ++ len8 n := by
  simp only [padn, len8, List.append_assoc, List.cons_append, List.nil_append, Nat.reduceMul, Nat.reduceSub, BitVec.ushiftRight_zero, Nat.sub_self, Nat.mul_zero]
theorem padz_eq (b : List B8) (k : Nat) : padz b k = b ++ 0x80#8 :: List.replicate k 0#8 := by
  induction k with
  | zero => rfl
  | succ k ih => simp only [padz, ih, List.append_assoc, List.cons_append, List.replicate_succ']
theorem tl8 (n : BitVec 64) (a d : List B8) (c0 c1 c2 c3 c4 c5 c6 c7 : B8) : tl n (a.length + 8) (a ++ c0 :: c1 :: c2 :: c3 :: c4 :: c5 :: c6 :: c7 :: d) 8 = a ++ len8 n ++ d := by
  simp only [tl, len8]
  have h : ∀ k, k < 8 → a.length + 8 - 1 - k = a.length + (7 - k) := by intro k hk; omega
  rw [h 0 (by omega), h 1 (by omega), h 2 (by omega), h 3 (by omega), h 4 (by omega), h 5 (by omega), h 6 (by omega), h 7 (by omega)]
  simp only [List.set_append_right _ _ (Nat.le_add_right _ _), Nat.add_sub_cancel_left, Nat.reduceSub, List.set_cons_succ, List.set_cons_zero, Nat.reduceMul, BitVec.ushiftRight_zero, Nat.mul_zero, List.append_assoc, List.cons_append, List.nil_append]
theorem split8 (l : List B8) (e : Nat) (h : 8 ≤ e) (he : e ≤ l.length) : ∃ c0 c1 c2 c3 c4 c5 c6 c7, l = l.take (e - 8) ++ c0 :: c1 :: c2 :: c3 :: c4 :: c5 :: c6 :: c7 :: l.drop e := by
  have h1 : l = l.take (e - 8) ++ l.drop (e - 8) := (List.take_append_drop _ _).symm
  have h2 : ∀ k, k < 8 → l.drop (e - 8 + k) = l.getD (e - 8 + k) 0#8 :: l.drop (e - 8 + (k + 1)) := by
    intro k hk
    rw [List.drop_eq_getElem_cons (by omega : e - 8 + k < l.length)]
    simp [List.getD_eq_getElem?_getD, List.getElem?_eq_getElem (by omega : e - 8 + k < l.length), Nat.add_assoc]
  refine ⟨l.getD (e - 8 + 0) 0#8, l.getD (e - 8 + 1) 0#8, l.getD (e - 8 + 2) 0#8, l.getD (e - 8 + 3) 0#8, l.getD (e - 8 + 4) 0#8, l.getD (e - 8 + 5) 0#8, l.getD (e - 8 + 6) 0#8, l.getD (e - 8 + 7) 0#8, h1.trans ?_⟩
  congr 1
  have h0 := h2 0 (by omega)
  rw [show l.drop (e - 8) = l.drop (e - 8 + 0) from rfl, h0, h2 1 (by omega), h2 2 (by omega), h2 3 (by omega), h2 4 (by omega), h2 5 (by omega), h2 6 (by omega), h2 7 (by omega), show e - 8 + (7 + 1) = e by omega]
theorem tl0_eq (r : List B8) (h : r.length < 64) : tl0 r = r ++ 0x80#8 :: List.replicate (127 - r.length) 0#8 := by
  unfold tl0 splice8
  rw [Nat.min_eq_left (by omega), List.take_of_length_le (Nat.le_refl _), List.take_zero, List.nil_append, Nat.zero_add, List.drop_replicate, List.set_append_right _ _ (Nat.le_refl _), Nat.sub_self, show 128 - r.length = (127 - r.length) + 1 by omega, List.replicate_succ, List.set_cons_zero]

theorem refL_eq (b : List B8) : refL b = sumL b := by
  rw [sumL_eq]
  unfold refL
  congr 1
  have hlen := padL_len b
  have hmod := padL_mod b
  generalize hN : BitVec.ofInt 64 (b.length : Int) * 8#64 = N
  have hb : b = b.take (64 * (b.length / 64)) ++ b.drop (64 * (b.length / 64)) := (List.take_append_drop _ _).symm
  have hx : (b.take (64 * (b.length / 64))).length = 64 * (b.length / 64) := by rw [List.length_take]; omega
  have hr : (b.drop (64 * (b.length / 64))).length = b.length - 64 * (b.length / 64) := List.length_drop ..
  have hpk : padk b = if 56 ≤ b.length - 64 * (b.length / 64) then 119 - (b.length - 64 * (b.length / 64)) else 55 - (b.length - 64 * (b.length / 64)) := by
    unfold padk; split <;> omega
  have hp : padL b = b.take (64 * (b.length / 64)) ++ (b.drop (64 * (b.length / 64)) ++ (0x80#8 :: List.replicate (padk b) 0#8 ++ len8 N)) := by
    rw [padL, hN, padn8, padz_eq]
    conv => lhs; rw [hb]
    simp only [List.append_assoc, List.cons_append]
    rw [← hb]
  generalize hq : b.length / 64 = q at *
  generalize hrr : b.drop (64 * q) = r at *
  generalize hxx : b.take (64 * q) = x at *
  have hr64 : r.length < 64 := by omega
  have hbx : ab S0 b q = ab S0 x q := by
    rw [hb]
    have := ab_append S0 x r q hx 0
    exact this
  have he : en r = r.length + 1 + padk b + 8 := by
    unfold en; rw [hpk, ← hr]; split <;> omega
  have hem : en r % 64 = 0 ∧ en r ≤ 128 ∧ 64 ≤ en r := by unfold en; split <;> omega
  have hd : (padL b).length / 64 = q + en r / 64 := by omega
  rw [hd, hbx, hp, ab_append S0 x _ q hx]
  rw [tl0_eq r hr64]
  obtain ⟨c0, c1, c2, c3, c4, c5, c6, c7, hs⟩ := split8 (r ++ 0x80#8 :: List.replicate (127 - r.length) 0#8) (en r) (by omega) (by simp only [List.length_append, List.length_cons, List.length_replicate]; omega)
  have htl : (r ++ 0x80#8 :: List.replicate (127 - r.length) 0#8).take (en r - 8) = r ++ 0x80#8 :: List.replicate (padk b) 0#8 := by
    rw [List.take_append, List.take_of_length_le (by omega), show en r - 8 - r.length = padk b + 1 by omega, List.take_succ_cons, List.take_replicate, Nat.min_eq_left (by omega)]
  rw [htl] at hs
  have hla : (r ++ 0x80#8 :: List.replicate (padk b) 0#8).length + 8 = en r := by simp only [List.length_append, List.length_cons, List.length_replicate]; omega
  rw [hs]
  have key := tl8 N (r ++ 0x80#8 :: List.replicate (padk b) 0#8) (List.drop (en r) (r ++ 0x80#8 :: List.replicate (127 - r.length) 0#8)) c0 c1 c2 c3 c4 c5 c6 c7
  rw [hla] at key
  rw [key]
  have hta := ab_take (ab S0 x q) (r ++ 0x80#8 :: List.replicate (padk b) 0#8 ++ len8 N ++ List.drop (en r) (r ++ 0x80#8 :: List.replicate (127 - r.length) 0#8)) (en r) (en r / 64) (by omega)
  rw [← hta, List.take_append_of_le_length (by simp only [List.length_append, List.length_cons, List.length_replicate, len8, List.length_nil]; omega), List.take_of_length_le (by simp only [List.length_append, List.length_cons, List.length_replicate, len8, List.length_nil]; omega)]
  simp only [List.append_assoc]
end Go.AX
