/-
  Once, part I: a signature opens to its public key; what the statements of layer 7 ask ahead of all.
-/
import Derived.Test.YtnnkmoaipcdhnaaDoorHoH
namespace Go.AX
open Go Go.Proofs

theorem fl_piece (f : Nat → List B8) (n : Nat) (hf : ∀ i, (f i).length = n) (k : Nat) : ∀ i, i < k → ((fl f k).drop (n * i)).take n = f i := by
  induction k with
  | zero => intro i hi; omega
  | succ k ih =>
    intro i hi
    have hl := fl_len f n hf k
    rw [fl]
    by_cases e : i = k
    · subst e
      rw [List.drop_append, List.drop_of_length_le (by omega), List.nil_append, hl, Nat.sub_self, List.drop_zero, List.take_of_length_le (by rw [hf]; exact Nat.le_refl _)]
    · have hm : n * i + n ≤ n * k := by
        have : n * (i + 1) ≤ n * k := Nat.mul_le_mul_left _ (by omega)
        rwa [Nat.mul_succ] at this
      rw [List.drop_append_of_le_length (by omega), List.take_append_of_le_length (by rw [List.length_drop]; omega)]
      exact ih i (by omega)
theorem sub_bit (d : W32) (i : Nat) : (bitL d i = 0#8 ∧ 1#8 - bitL d i = 1#8) ∨ (bitL d i = 1#8 ∧ 1#8 - bitL d i = 0#8) := by
  rcases bitL_01 d i with h | h
  · left; rw [h]; exact ⟨rfl, rfl⟩
  · right; rw [h]; exact ⟨rfl, rfl⟩
theorem fl_congr (f g : Nat → List B8) (k : Nat) (h : ∀ i, i < k → f i = g i) : fl f k = fl g k := by
  induction k with
  | zero => rfl
  | succ k ih => rw [fl, fl, ih (fun i hi => h i (by omega)), h k (by omega)]
theorem ob_sign (seed : List B8) (leaf d : W32) (i : Nat) (hi : i < 32) : ob1 d (signL seed leaf d) i = lk2 seed leaf i := by
  have hp := fl_piece (sg1 seed leaf d) 16 (sg1_len seed leaf d) 32 i hi
  have hx : sx (signL seed leaf d) i = secretL seed leaf (BitVec.ofInt 8 (i : Int)) (bitL d i) := by
    have : sx (signL seed leaf d) i = (sg1 seed leaf d i).take 8 := by rw [← hp, List.take_take]; rfl
    rw [this, sg1, List.take_append_of_le_length (by rw [secretL_len]; exact Nat.le_refl _), List.take_of_length_le (by rw [secretL_len]; exact Nat.le_refl _)]
  have hy : sy (signL seed leaf d) i = lkv seed leaf i (1#8 - bitL d i) := by
    have : sy (signL seed leaf d) i = (sg1 seed leaf d i).drop 8 := by
      rw [← hp, List.drop_take, List.drop_drop]; rfl
    rw [this, sg1, List.drop_append, List.drop_of_length_le (by rw [secretL_len]; exact Nat.le_refl _), secretL_len, Nat.sub_self, List.drop_zero, List.nil_append]
  unfold ob1
  rw [hx, hy]
  rcases sub_bit d i with ⟨h1, h2⟩ | ⟨h1, h2⟩
  · rw [h2, h1, if_pos rfl]; rfl
  · rw [h2, h1, if_neg (by decide)]; rfl
theorem open_sign (seed : List B8) (leaf d : W32) : openL d (signL seed leaf d) = publicL seed leaf := by
  unfold openL publicL lks
  rw [fl_congr _ _ 32 (fun i hi => ob_sign seed leaf d i hi)]
theorem openR_sign (seed msg m2 : List B8) (leaf : W32) (h : digL m2 = digL msg) : openR m2 (signL seed leaf (digL msg)) = .tup [.agg (c8 (publicL seed leaf)), .b true] := by
  rw [openR_y _ _ (signL_len _ _ _), h, open_sign]
theorem openR_cases (msg sig : List B8) : ∃ (p : List B8) (ok : Bool), openR msg sig = .tup [.agg (c8 p), .b ok] ∧ p.length = 8 := by
  by_cases h : sig.length = 512
  · exact ⟨_, _, openR_y msg sig h, openL_len _ _⟩
  · exact ⟨_, _, openR_n msg sig h, List.length_replicate⟩

def seed7 : List B8 := [1#8, 0#8, 0#8, 0#8, 0#8, 0#8, 0#8, 0#8]
theorem k7b : digL [97#8, 98#8, 99#8] = 0xba7816bf#32 := by kernel_rfl
end Go.AX
