/-
  AX, part C: plain operations on abstract values say what the model's do.
-/
import Derived.Test.YtnnkmoaipcdhnaaDoorAxB
namespace Go.AX
open Go
section
variable {P : Program} {σ : Nat → Loc} {I : Nat → Prop} {w : World}

theorem b_eq {p : Prop} [Decidable p] {q : Bool} (h : q = true ↔ p) : Value.bool q = Value.bool (decide p) := by
  congr 1; rw [Bool.eq_iff_iff, h]; simp
theorem b_ne {p : Prop} [Decidable p] {q : Bool} (h : q = true ↔ ¬ p) : Value.bool q = Value.bool (!decide p) := by
  congr 1; rw [Bool.eq_iff_iff, h]; simp

theorem wrap_of_nat {k : IntKind} (hk : k.signed = false) (m : Nat) (h : m < 2 ^ k.bits) : k.wrap (m : Int) = (m : Int) := by
  rw [wrap_u hk, BitVec.toNat_ofInt]
  rw [← Int.natCast_emod, Int.toNat_natCast, Nat.mod_eq_of_lt h]


theorem arith8_sound {op : BinOp} {a b : BitVec 8} {z : AV} {t : TypeId} (h : arith8 op a b = some z) :
    ∃ v, (binOp op t (.int .u8 a.toNat) (.int .u8 b.toNat)).run P w = .ok v w ∧ Rel σ I w z v := by
  have hs : IntKind.signed .u8 = false := rfl
  cases op with
  | add =>
    obtain rfl := Option.some.inj h
    refine ⟨_, by simp only [binOp, Op.intArith, if_neg (show ¬ (IntKind.u8 ≠ IntKind.u8) from fun h => h rfl), Sem.run_pure]; rfl, ?_⟩
    rw [show (a.toNat : Int) + b.toNat = ((a.toNat + b.toNat : Nat) : Int) from by simp, wrap_u hs, show BitVec.ofInt (IntKind.bits .u8) ((a.toNat + b.toNat : Nat) : Int) = a + b from by
      rw [Int.natCast_add, ofInt_add']; show BitVec.ofInt 8 _ + BitVec.ofInt 8 _ = _; rw [ofInt_toNat, ofInt_toNat]]
    exact .w8 _
  | sub =>
    obtain rfl := Option.some.inj h
    refine ⟨_, by simp only [binOp, Op.intArith, if_neg (show ¬ (IntKind.u8 ≠ IntKind.u8) from fun h => h rfl), Sem.run_pure]; rfl, ?_⟩
    rw [wrap_u hs, show BitVec.ofInt (IntKind.bits .u8) ((a.toNat : Int) - (b.toNat : Int)) = a - b from by
      rw [ofInt_sub']; show BitVec.ofInt 8 _ - BitVec.ofInt 8 _ = _; rw [ofInt_toNat, ofInt_toNat]]
    exact .w8 _
  | mul =>
    obtain rfl := Option.some.inj h
    refine ⟨_, by simp only [binOp, Op.intArith, if_neg (show ¬ (IntKind.u8 ≠ IntKind.u8) from fun h => h rfl), Sem.run_pure]; rfl, ?_⟩
    rw [wrap_u hs, show BitVec.ofInt (IntKind.bits .u8) ((a.toNat : Int) * (b.toNat : Int)) = a * b from by
      rw [ofInt_mul']; show BitVec.ofInt 8 _ * BitVec.ofInt 8 _ = _; rw [ofInt_toNat, ofInt_toNat]]
    exact .w8 _
  | quo =>
    simp only [arith8] at h
    split at h
    · cases h
    · rename_i hb
      obtain rfl := Option.some.inj h
      have hb' : ¬ (b.toNat : Int) = 0 := by
        intro e; apply hb; apply BitVec.eq_of_toNat_eq; simpa using e
      refine ⟨_, by simp only [binOp, Op.intDiv, if_neg (show ¬ (IntKind.u8 ≠ IntKind.u8) from fun h => h rfl), if_neg hb', Sem.run_pure]; rfl, ?_⟩
      rw [show (a.toNat : Int).tdiv b.toNat = ((a.toNat / b.toNat : Nat) : Int) from by simp [Int.tdiv], wrap_of_nat hs _ (Nat.lt_of_le_of_lt (Nat.div_le_self _ _) a.isLt), ← BitVec.toNat_udiv]
      exact .w8 _
  | rem =>
    simp only [arith8] at h
    split at h
    · cases h
    · rename_i hb
      obtain rfl := Option.some.inj h
      have hb' : ¬ (b.toNat : Int) = 0 := by
        intro e; apply hb; apply BitVec.eq_of_toNat_eq; simpa using e
      refine ⟨_, by simp only [binOp, Op.intDiv, if_neg (show ¬ (IntKind.u8 ≠ IntKind.u8) from fun h => h rfl), if_neg hb', Sem.run_pure]; rfl, ?_⟩
      rw [show (a.toNat : Int).tmod b.toNat = ((a.toNat % b.toNat : Nat) : Int) from by simp [Int.tmod], ← BitVec.toNat_umod]
      exact .w8 _
  | and =>
    obtain rfl := Option.some.inj h
    refine ⟨_, by simp only [binOp, Op.intBits, if_neg (show ¬ (IntKind.u8 ≠ IntKind.u8) from fun h => h rfl), Sem.run_pure]; rfl, ?_⟩
    rw [show (BitVec.ofInt (IntKind.bits .u8) (a.toNat : Int)) = a from ofInt_toNat a, show (BitVec.ofInt (IntKind.bits .u8) (b.toNat : Int)) = b from ofInt_toNat b]
    first | (rw [← BitVec.toNat_and, wrap_of_nat hs _ (BitVec.isLt _)]; exact .w8 _) | (rw [wrap_of_nat hs _ (BitVec.isLt _)]; exact .w8 _)
  | or =>
    obtain rfl := Option.some.inj h
    refine ⟨_, by simp only [binOp, Op.intBits, if_neg (show ¬ (IntKind.u8 ≠ IntKind.u8) from fun h => h rfl), Sem.run_pure]; rfl, ?_⟩
    rw [show (BitVec.ofInt (IntKind.bits .u8) (a.toNat : Int)) = a from ofInt_toNat a, show (BitVec.ofInt (IntKind.bits .u8) (b.toNat : Int)) = b from ofInt_toNat b]
    first | (rw [← BitVec.toNat_or, wrap_of_nat hs _ (BitVec.isLt _)]; exact .w8 _) | (rw [wrap_of_nat hs _ (BitVec.isLt _)]; exact .w8 _)
  | xor =>
    obtain rfl := Option.some.inj h
    refine ⟨_, by simp only [binOp, Op.intBits, if_neg (show ¬ (IntKind.u8 ≠ IntKind.u8) from fun h => h rfl), Sem.run_pure]; rfl, ?_⟩
    rw [show (BitVec.ofInt (IntKind.bits .u8) (a.toNat : Int)) = a from ofInt_toNat a, show (BitVec.ofInt (IntKind.bits .u8) (b.toNat : Int)) = b from ofInt_toNat b]
    first | (rw [← BitVec.toNat_xor, wrap_of_nat hs _ (BitVec.isLt _)]; exact .w8 _) | (rw [wrap_of_nat hs _ (BitVec.isLt _)]; exact .w8 _)
  | andNot =>
    obtain rfl := Option.some.inj h
    refine ⟨_, by simp only [binOp, Op.intBits, Sem.run_pure, if_neg (show ¬ (IntKind.u8 ≠ IntKind.u8) from fun h => h rfl)]; rfl, ?_⟩
    rw [show (BitVec.ofInt (IntKind.bits .u8) (a.toNat : Int)) = a from ofInt_toNat a, show (BitVec.ofInt (IntKind.bits .u8) (b.toNat : Int)) = b from ofInt_toNat b, wrap_of_nat hs _ (BitVec.isLt _)]
    exact .w8 _
  | eql =>
    obtain rfl := Option.some.inj h
    refine ⟨_, by simp only [binOp, Op.intCmp, Sem.run_pure, if_neg (show ¬ (IntKind.u8 ≠ IntKind.u8) from fun h => h rfl)]; rfl, ?_⟩
    rw [b_eq (p := a = b) (by rw [beq_iff_eq, Int.ofNat_inj, BitVec.toNat_inj])]
    exact .b _
  | neq =>
    obtain rfl := Option.some.inj h
    refine ⟨_, by simp only [binOp, Op.intCmp, Sem.run_pure, if_neg (show ¬ (IntKind.u8 ≠ IntKind.u8) from fun h => h rfl)]; rfl, ?_⟩
    rw [b_ne (p := a = b) (by rw [bne_iff_ne, ne_eq, Int.ofNat_inj, BitVec.toNat_inj])]
    exact .b _
  | lss =>
    obtain rfl := Option.some.inj h
    refine ⟨_, by simp only [binOp, Op.intCmp, Sem.run_pure, if_neg (show ¬ (IntKind.u8 ≠ IntKind.u8) from fun h => h rfl)]; rfl, ?_⟩
    rw [b_eq (p := a < b) (by rw [decide_eq_true_eq, Int.ofNat_lt, BitVec.lt_def])]
    exact .b _
  | leq =>
    obtain rfl := Option.some.inj h
    refine ⟨_, by simp only [binOp, Op.intCmp, Sem.run_pure, if_neg (show ¬ (IntKind.u8 ≠ IntKind.u8) from fun h => h rfl)]; rfl, ?_⟩
    rw [b_eq (p := a ≤ b) (by rw [decide_eq_true_eq, Int.ofNat_le, BitVec.le_def])]
    exact .b _
  | gtr =>
    obtain rfl := Option.some.inj h
    refine ⟨_, by simp only [binOp, Op.intCmp, Sem.run_pure, if_neg (show ¬ (IntKind.u8 ≠ IntKind.u8) from fun h => h rfl)]; rfl, ?_⟩
    rw [b_eq (p := b < a) (by rw [decide_eq_true_eq, gt_iff_lt, Int.ofNat_lt, BitVec.lt_def])]
    exact .b _
  | geq =>
    obtain rfl := Option.some.inj h
    refine ⟨_, by simp only [binOp, Op.intCmp, Sem.run_pure, if_neg (show ¬ (IntKind.u8 ≠ IntKind.u8) from fun h => h rfl)]; rfl, ?_⟩
    rw [b_eq (p := b ≤ a) (by rw [decide_eq_true_eq, ge_iff_le, Int.ofNat_le, BitVec.le_def])]
    exact .b _
  | shl => cases h
  | shr => cases h

theorem arith16_sound {op : BinOp} {a b : BitVec 16} {z : AV} {t : TypeId} (h : arith16 op a b = some z) :
    ∃ v, (binOp op t (.int .u16 a.toNat) (.int .u16 b.toNat)).run P w = .ok v w ∧ Rel σ I w z v := by
  have hs : IntKind.signed .u16 = false := rfl
  cases op with
  | add =>
    obtain rfl := Option.some.inj h
    refine ⟨_, by simp only [binOp, Op.intArith, if_neg (show ¬ (IntKind.u16 ≠ IntKind.u16) from fun h => h rfl), Sem.run_pure]; rfl, ?_⟩
    rw [show (a.toNat : Int) + b.toNat = ((a.toNat + b.toNat : Nat) : Int) from by simp, wrap_u hs, show BitVec.ofInt (IntKind.bits .u16) ((a.toNat + b.toNat : Nat) : Int) = a + b from by
      rw [Int.natCast_add, ofInt_add']; show BitVec.ofInt 16 _ + BitVec.ofInt 16 _ = _; rw [ofInt_toNat, ofInt_toNat]]
    exact .w16 _
  | sub =>
    obtain rfl := Option.some.inj h
    refine ⟨_, by simp only [binOp, Op.intArith, if_neg (show ¬ (IntKind.u16 ≠ IntKind.u16) from fun h => h rfl), Sem.run_pure]; rfl, ?_⟩
    rw [wrap_u hs, show BitVec.ofInt (IntKind.bits .u16) ((a.toNat : Int) - (b.toNat : Int)) = a - b from by
      rw [ofInt_sub']; show BitVec.ofInt 16 _ - BitVec.ofInt 16 _ = _; rw [ofInt_toNat, ofInt_toNat]]
    exact .w16 _
  | mul =>
    obtain rfl := Option.some.inj h
    refine ⟨_, by simp only [binOp, Op.intArith, if_neg (show ¬ (IntKind.u16 ≠ IntKind.u16) from fun h => h rfl), Sem.run_pure]; rfl, ?_⟩
    rw [wrap_u hs, show BitVec.ofInt (IntKind.bits .u16) ((a.toNat : Int) * (b.toNat : Int)) = a * b from by
      rw [ofInt_mul']; show BitVec.ofInt 16 _ * BitVec.ofInt 16 _ = _; rw [ofInt_toNat, ofInt_toNat]]
    exact .w16 _
  | quo =>
    simp only [arith16] at h
    split at h
    · cases h
    · rename_i hb
      obtain rfl := Option.some.inj h
      have hb' : ¬ (b.toNat : Int) = 0 := by
        intro e; apply hb; apply BitVec.eq_of_toNat_eq; simpa using e
      refine ⟨_, by simp only [binOp, Op.intDiv, if_neg (show ¬ (IntKind.u16 ≠ IntKind.u16) from fun h => h rfl), if_neg hb', Sem.run_pure]; rfl, ?_⟩
      rw [show (a.toNat : Int).tdiv b.toNat = ((a.toNat / b.toNat : Nat) : Int) from by simp [Int.tdiv], wrap_of_nat hs _ (Nat.lt_of_le_of_lt (Nat.div_le_self _ _) a.isLt), ← BitVec.toNat_udiv]
      exact .w16 _
  | rem =>
    simp only [arith16] at h
    split at h
    · cases h
    · rename_i hb
      obtain rfl := Option.some.inj h
      have hb' : ¬ (b.toNat : Int) = 0 := by
        intro e; apply hb; apply BitVec.eq_of_toNat_eq; simpa using e
      refine ⟨_, by simp only [binOp, Op.intDiv, if_neg (show ¬ (IntKind.u16 ≠ IntKind.u16) from fun h => h rfl), if_neg hb', Sem.run_pure]; rfl, ?_⟩
      rw [show (a.toNat : Int).tmod b.toNat = ((a.toNat % b.toNat : Nat) : Int) from by simp [Int.tmod], ← BitVec.toNat_umod]
      exact .w16 _
  | and =>
    obtain rfl := Option.some.inj h
    refine ⟨_, by simp only [binOp, Op.intBits, if_neg (show ¬ (IntKind.u16 ≠ IntKind.u16) from fun h => h rfl), Sem.run_pure]; rfl, ?_⟩
    rw [show (BitVec.ofInt (IntKind.bits .u16) (a.toNat : Int)) = a from ofInt_toNat a, show (BitVec.ofInt (IntKind.bits .u16) (b.toNat : Int)) = b from ofInt_toNat b]
    first | (rw [← BitVec.toNat_and, wrap_of_nat hs _ (BitVec.isLt _)]; exact .w16 _) | (rw [wrap_of_nat hs _ (BitVec.isLt _)]; exact .w16 _)
  | or =>
    obtain rfl := Option.some.inj h
    refine ⟨_, by simp only [binOp, Op.intBits, if_neg (show ¬ (IntKind.u16 ≠ IntKind.u16) from fun h => h rfl), Sem.run_pure]; rfl, ?_⟩
    rw [show (BitVec.ofInt (IntKind.bits .u16) (a.toNat : Int)) = a from ofInt_toNat a, show (BitVec.ofInt (IntKind.bits .u16) (b.toNat : Int)) = b from ofInt_toNat b]
    first | (rw [← BitVec.toNat_or, wrap_of_nat hs _ (BitVec.isLt _)]; exact .w16 _) | (rw [wrap_of_nat hs _ (BitVec.isLt _)]; exact .w16 _)
  | xor =>
    obtain rfl := Option.some.inj h
    refine ⟨_, by simp only [binOp, Op.intBits, if_neg (show ¬ (IntKind.u16 ≠ IntKind.u16) from fun h => h rfl), Sem.run_pure]; rfl, ?_⟩
    rw [show (BitVec.ofInt (IntKind.bits .u16) (a.toNat : Int)) = a from ofInt_toNat a, show (BitVec.ofInt (IntKind.bits .u16) (b.toNat : Int)) = b from ofInt_toNat b]
    first | (rw [← BitVec.toNat_xor, wrap_of_nat hs _ (BitVec.isLt _)]; exact .w16 _) | (rw [wrap_of_nat hs _ (BitVec.isLt _)]; exact .w16 _)
  | andNot =>
    obtain rfl := Option.some.inj h
    refine ⟨_, by simp only [binOp, Op.intBits, Sem.run_pure, if_neg (show ¬ (IntKind.u16 ≠ IntKind.u16) from fun h => h rfl)]; rfl, ?_⟩
    rw [show (BitVec.ofInt (IntKind.bits .u16) (a.toNat : Int)) = a from ofInt_toNat a, show (BitVec.ofInt (IntKind.bits .u16) (b.toNat : Int)) = b from ofInt_toNat b, wrap_of_nat hs _ (BitVec.isLt _)]
    exact .w16 _
  | eql =>
    obtain rfl := Option.some.inj h
    refine ⟨_, by simp only [binOp, Op.intCmp, Sem.run_pure, if_neg (show ¬ (IntKind.u16 ≠ IntKind.u16) from fun h => h rfl)]; rfl, ?_⟩
    rw [b_eq (p := a = b) (by rw [beq_iff_eq, Int.ofNat_inj, BitVec.toNat_inj])]
    exact .b _
  | neq =>
    obtain rfl := Option.some.inj h
    refine ⟨_, by simp only [binOp, Op.intCmp, Sem.run_pure, if_neg (show ¬ (IntKind.u16 ≠ IntKind.u16) from fun h => h rfl)]; rfl, ?_⟩
    rw [b_ne (p := a = b) (by rw [bne_iff_ne, ne_eq, Int.ofNat_inj, BitVec.toNat_inj])]
    exact .b _
  | lss =>
    obtain rfl := Option.some.inj h
    refine ⟨_, by simp only [binOp, Op.intCmp, Sem.run_pure, if_neg (show ¬ (IntKind.u16 ≠ IntKind.u16) from fun h => h rfl)]; rfl, ?_⟩
    rw [b_eq (p := a < b) (by rw [decide_eq_true_eq, Int.ofNat_lt, BitVec.lt_def])]
    exact .b _
  | leq =>
    obtain rfl := Option.some.inj h
    refine ⟨_, by simp only [binOp, Op.intCmp, Sem.run_pure, if_neg (show ¬ (IntKind.u16 ≠ IntKind.u16) from fun h => h rfl)]; rfl, ?_⟩
    rw [b_eq (p := a ≤ b) (by rw [decide_eq_true_eq, Int.ofNat_le, BitVec.le_def])]
    exact .b _
  | gtr =>
    obtain rfl := Option.some.inj h
    refine ⟨_, by simp only [binOp, Op.intCmp, Sem.run_pure, if_neg (show ¬ (IntKind.u16 ≠ IntKind.u16) from fun h => h rfl)]; rfl, ?_⟩
    rw [b_eq (p := b < a) (by rw [decide_eq_true_eq, gt_iff_lt, Int.ofNat_lt, BitVec.lt_def])]
    exact .b _
  | geq =>
    obtain rfl := Option.some.inj h
    refine ⟨_, by simp only [binOp, Op.intCmp, Sem.run_pure, if_neg (show ¬ (IntKind.u16 ≠ IntKind.u16) from fun h => h rfl)]; rfl, ?_⟩
    rw [b_eq (p := b ≤ a) (by rw [decide_eq_true_eq, ge_iff_le, Int.ofNat_le, BitVec.le_def])]
    exact .b _
  | shl => cases h
  | shr => cases h

theorem arith32_sound {op : BinOp} {a b : BitVec 32} {z : AV} {t : TypeId} (h : arith32 op a b = some z) :
    ∃ v, (binOp op t (.int .u32 a.toNat) (.int .u32 b.toNat)).run P w = .ok v w ∧ Rel σ I w z v := by
  have hs : IntKind.signed .u32 = false := rfl
  cases op with
  | add =>
    obtain rfl := Option.some.inj h
    refine ⟨_, by simp only [binOp, Op.intArith, if_neg (show ¬ (IntKind.u32 ≠ IntKind.u32) from fun h => h rfl), Sem.run_pure]; rfl, ?_⟩
    rw [show (a.toNat : Int) + b.toNat = ((a.toNat + b.toNat : Nat) : Int) from by simp, wrap_u hs, show BitVec.ofInt (IntKind.bits .u32) ((a.toNat + b.toNat : Nat) : Int) = a + b from by
      rw [Int.natCast_add, ofInt_add']; show BitVec.ofInt 32 _ + BitVec.ofInt 32 _ = _; rw [ofInt_toNat, ofInt_toNat]]
    exact .w32 _
  | sub =>
    obtain rfl := Option.some.inj h
    refine ⟨_, by simp only [binOp, Op.intArith, if_neg (show ¬ (IntKind.u32 ≠ IntKind.u32) from fun h => h rfl), Sem.run_pure]; rfl, ?_⟩
    rw [wrap_u hs, show BitVec.ofInt (IntKind.bits .u32) ((a.toNat : Int) - (b.toNat : Int)) = a - b from by
      rw [ofInt_sub']; show BitVec.ofInt 32 _ - BitVec.ofInt 32 _ = _; rw [ofInt_toNat, ofInt_toNat]]
    exact .w32 _
  | mul =>
    obtain rfl := Option.some.inj h
    refine ⟨_, by simp only [binOp, Op.intArith, if_neg (show ¬ (IntKind.u32 ≠ IntKind.u32) from fun h => h rfl), Sem.run_pure]; rfl, ?_⟩
    rw [wrap_u hs, show BitVec.ofInt (IntKind.bits .u32) ((a.toNat : Int) * (b.toNat : Int)) = a * b from by
      rw [ofInt_mul']; show BitVec.ofInt 32 _ * BitVec.ofInt 32 _ = _; rw [ofInt_toNat, ofInt_toNat]]
    exact .w32 _
  | quo =>
    simp only [arith32] at h
    split at h
    · cases h
    · rename_i hb
      obtain rfl := Option.some.inj h
      have hb' : ¬ (b.toNat : Int) = 0 := by
        intro e; apply hb; apply BitVec.eq_of_toNat_eq; simpa using e
      refine ⟨_, by simp only [binOp, Op.intDiv, if_neg (show ¬ (IntKind.u32 ≠ IntKind.u32) from fun h => h rfl), if_neg hb', Sem.run_pure]; rfl, ?_⟩
      rw [show (a.toNat : Int).tdiv b.toNat = ((a.toNat / b.toNat : Nat) : Int) from by simp [Int.tdiv], wrap_of_nat hs _ (Nat.lt_of_le_of_lt (Nat.div_le_self _ _) a.isLt), ← BitVec.toNat_udiv]
      exact .w32 _
  | rem =>
    simp only [arith32] at h
    split at h
    · cases h
    · rename_i hb
      obtain rfl := Option.some.inj h
      have hb' : ¬ (b.toNat : Int) = 0 := by
        intro e; apply hb; apply BitVec.eq_of_toNat_eq; simpa using e
      refine ⟨_, by simp only [binOp, Op.intDiv, if_neg (show ¬ (IntKind.u32 ≠ IntKind.u32) from fun h => h rfl), if_neg hb', Sem.run_pure]; rfl, ?_⟩
      rw [show (a.toNat : Int).tmod b.toNat = ((a.toNat % b.toNat : Nat) : Int) from by simp [Int.tmod], ← BitVec.toNat_umod]
      exact .w32 _
  | and =>
    obtain rfl := Option.some.inj h
    refine ⟨_, by simp only [binOp, Op.intBits, if_neg (show ¬ (IntKind.u32 ≠ IntKind.u32) from fun h => h rfl), Sem.run_pure]; rfl, ?_⟩
    rw [show (BitVec.ofInt (IntKind.bits .u32) (a.toNat : Int)) = a from ofInt_toNat a, show (BitVec.ofInt (IntKind.bits .u32) (b.toNat : Int)) = b from ofInt_toNat b]
    first | (rw [← BitVec.toNat_and, wrap_of_nat hs _ (BitVec.isLt _)]; exact .w32 _) | (rw [wrap_of_nat hs _ (BitVec.isLt _)]; exact .w32 _)
  | or =>
    obtain rfl := Option.some.inj h
    refine ⟨_, by simp only [binOp, Op.intBits, if_neg (show ¬ (IntKind.u32 ≠ IntKind.u32) from fun h => h rfl), Sem.run_pure]; rfl, ?_⟩
    rw [show (BitVec.ofInt (IntKind.bits .u32) (a.toNat : Int)) = a from ofInt_toNat a, show (BitVec.ofInt (IntKind.bits .u32) (b.toNat : Int)) = b from ofInt_toNat b]
    first | (rw [← BitVec.toNat_or, wrap_of_nat hs _ (BitVec.isLt _)]; exact .w32 _) | (rw [wrap_of_nat hs _ (BitVec.isLt _)]; exact .w32 _)
  | xor =>
    obtain rfl := Option.some.inj h
    refine ⟨_, by simp only [binOp, Op.intBits, if_neg (show ¬ (IntKind.u32 ≠ IntKind.u32) from fun h => h rfl), Sem.run_pure]; rfl, ?_⟩
    rw [show (BitVec.ofInt (IntKind.bits .u32) (a.toNat : Int)) = a from ofInt_toNat a, show (BitVec.ofInt (IntKind.bits .u32) (b.toNat : Int)) = b from ofInt_toNat b]
    first | (rw [← BitVec.toNat_xor, wrap_of_nat hs _ (BitVec.isLt _)]; exact .w32 _) | (rw [wrap_of_nat hs _ (BitVec.isLt _)]; exact .w32 _)
  | andNot =>
    obtain rfl := Option.some.inj h
    refine ⟨_, by simp only [binOp, Op.intBits, Sem.run_pure, if_neg (show ¬ (IntKind.u32 ≠ IntKind.u32) from fun h => h rfl)]; rfl, ?_⟩
    rw [show (BitVec.ofInt (IntKind.bits .u32) (a.toNat : Int)) = a from ofInt_toNat a, show (BitVec.ofInt (IntKind.bits .u32) (b.toNat : Int)) = b from ofInt_toNat b, wrap_of_nat hs _ (BitVec.isLt _)]
    exact .w32 _
  | eql =>
    obtain rfl := Option.some.inj h
    refine ⟨_, by simp only [binOp, Op.intCmp, Sem.run_pure, if_neg (show ¬ (IntKind.u32 ≠ IntKind.u32) from fun h => h rfl)]; rfl, ?_⟩
    rw [b_eq (p := a = b) (by rw [beq_iff_eq, Int.ofNat_inj, BitVec.toNat_inj])]
    exact .b _
  | neq =>
    obtain rfl := Option.some.inj h
    refine ⟨_, by simp only [binOp, Op.intCmp, Sem.run_pure, if_neg (show ¬ (IntKind.u32 ≠ IntKind.u32) from fun h => h rfl)]; rfl, ?_⟩
    rw [b_ne (p := a = b) (by rw [bne_iff_ne, ne_eq, Int.ofNat_inj, BitVec.toNat_inj])]
    exact .b _
  | lss =>
    obtain rfl := Option.some.inj h
    refine ⟨_, by simp only [binOp, Op.intCmp, Sem.run_pure, if_neg (show ¬ (IntKind.u32 ≠ IntKind.u32) from fun h => h rfl)]; rfl, ?_⟩
    rw [b_eq (p := a < b) (by rw [decide_eq_true_eq, Int.ofNat_lt, BitVec.lt_def])]
    exact .b _
  | leq =>
    obtain rfl := Option.some.inj h
    refine ⟨_, by simp only [binOp, Op.intCmp, Sem.run_pure, if_neg (show ¬ (IntKind.u32 ≠ IntKind.u32) from fun h => h rfl)]; rfl, ?_⟩
    rw [b_eq (p := a ≤ b) (by rw [decide_eq_true_eq, Int.ofNat_le, BitVec.le_def])]
    exact .b _
  | gtr =>
    obtain rfl := Option.some.inj h
    refine ⟨_, by simp only [binOp, Op.intCmp, Sem.run_pure, if_neg (show ¬ (IntKind.u32 ≠ IntKind.u32) from fun h => h rfl)]; rfl, ?_⟩
    rw [b_eq (p := b < a) (by rw [decide_eq_true_eq, gt_iff_lt, Int.ofNat_lt, BitVec.lt_def])]
    exact .b _
  | geq =>
    obtain rfl := Option.some.inj h
    refine ⟨_, by simp only [binOp, Op.intCmp, Sem.run_pure, if_neg (show ¬ (IntKind.u32 ≠ IntKind.u32) from fun h => h rfl)]; rfl, ?_⟩
    rw [b_eq (p := b ≤ a) (by rw [decide_eq_true_eq, ge_iff_le, Int.ofNat_le, BitVec.le_def])]
    exact .b _
  | shl => cases h
  | shr => cases h

theorem arith64_sound {op : BinOp} {a b : BitVec 64} {z : AV} {t : TypeId} (h : arith64 op a b = some z) :
    ∃ v, (binOp op t (.int .u64 a.toNat) (.int .u64 b.toNat)).run P w = .ok v w ∧ Rel σ I w z v := by
  have hs : IntKind.signed .u64 = false := rfl
  cases op with
  | add =>
    obtain rfl := Option.some.inj h
    refine ⟨_, by simp only [binOp, Op.intArith, if_neg (show ¬ (IntKind.u64 ≠ IntKind.u64) from fun h => h rfl), Sem.run_pure]; rfl, ?_⟩
    rw [show (a.toNat : Int) + b.toNat = ((a.toNat + b.toNat : Nat) : Int) from by simp, wrap_u hs, show BitVec.ofInt (IntKind.bits .u64) ((a.toNat + b.toNat : Nat) : Int) = a + b from by
      rw [Int.natCast_add, ofInt_add']; show BitVec.ofInt 64 _ + BitVec.ofInt 64 _ = _; rw [ofInt_toNat, ofInt_toNat]]
    exact .w64 _
  | sub =>
    obtain rfl := Option.some.inj h
    refine ⟨_, by simp only [binOp, Op.intArith, if_neg (show ¬ (IntKind.u64 ≠ IntKind.u64) from fun h => h rfl), Sem.run_pure]; rfl, ?_⟩
    rw [wrap_u hs, show BitVec.ofInt (IntKind.bits .u64) ((a.toNat : Int) - (b.toNat : Int)) = a - b from by
      rw [ofInt_sub']; show BitVec.ofInt 64 _ - BitVec.ofInt 64 _ = _; rw [ofInt_toNat, ofInt_toNat]]
    exact .w64 _
  | mul =>
    obtain rfl := Option.some.inj h
    refine ⟨_, by simp only [binOp, Op.intArith, if_neg (show ¬ (IntKind.u64 ≠ IntKind.u64) from fun h => h rfl), Sem.run_pure]; rfl, ?_⟩
    rw [wrap_u hs, show BitVec.ofInt (IntKind.bits .u64) ((a.toNat : Int) * (b.toNat : Int)) = a * b from by
      rw [ofInt_mul']; show BitVec.ofInt 64 _ * BitVec.ofInt 64 _ = _; rw [ofInt_toNat, ofInt_toNat]]
    exact .w64 _
  | quo =>
    simp only [arith64] at h
    split at h
    · cases h
    · rename_i hb
      obtain rfl := Option.some.inj h
      have hb' : ¬ (b.toNat : Int) = 0 := by
        intro e; apply hb; apply BitVec.eq_of_toNat_eq; simpa using e
      refine ⟨_, by simp only [binOp, Op.intDiv, if_neg (show ¬ (IntKind.u64 ≠ IntKind.u64) from fun h => h rfl), if_neg hb', Sem.run_pure]; rfl, ?_⟩
      rw [show (a.toNat : Int).tdiv b.toNat = ((a.toNat / b.toNat : Nat) : Int) from by simp [Int.tdiv], wrap_of_nat hs _ (Nat.lt_of_le_of_lt (Nat.div_le_self _ _) a.isLt), ← BitVec.toNat_udiv]
      exact .w64 _
  | rem =>
    simp only [arith64] at h
    split at h
    · cases h
    · rename_i hb
      obtain rfl := Option.some.inj h
      have hb' : ¬ (b.toNat : Int) = 0 := by
        intro e; apply hb; apply BitVec.eq_of_toNat_eq; simpa using e
      refine ⟨_, by simp only [binOp, Op.intDiv, if_neg (show ¬ (IntKind.u64 ≠ IntKind.u64) from fun h => h rfl), if_neg hb', Sem.run_pure]; rfl, ?_⟩
      rw [show (a.toNat : Int).tmod b.toNat = ((a.toNat % b.toNat : Nat) : Int) from by simp [Int.tmod], ← BitVec.toNat_umod]
      exact .w64 _
  | and =>
    obtain rfl := Option.some.inj h
    refine ⟨_, by simp only [binOp, Op.intBits, if_neg (show ¬ (IntKind.u64 ≠ IntKind.u64) from fun h => h rfl), Sem.run_pure]; rfl, ?_⟩
    rw [show (BitVec.ofInt (IntKind.bits .u64) (a.toNat : Int)) = a from ofInt_toNat a, show (BitVec.ofInt (IntKind.bits .u64) (b.toNat : Int)) = b from ofInt_toNat b]
    first | (rw [← BitVec.toNat_and, wrap_of_nat hs _ (BitVec.isLt _)]; exact .w64 _) | (rw [wrap_of_nat hs _ (BitVec.isLt _)]; exact .w64 _)
  | or =>
    obtain rfl := Option.some.inj h
    refine ⟨_, by simp only [binOp, Op.intBits, if_neg (show ¬ (IntKind.u64 ≠ IntKind.u64) from fun h => h rfl), Sem.run_pure]; rfl, ?_⟩
    rw [show (BitVec.ofInt (IntKind.bits .u64) (a.toNat : Int)) = a from ofInt_toNat a, show (BitVec.ofInt (IntKind.bits .u64) (b.toNat : Int)) = b from ofInt_toNat b]
    first | (rw [← BitVec.toNat_or, wrap_of_nat hs _ (BitVec.isLt _)]; exact .w64 _) | (rw [wrap_of_nat hs _ (BitVec.isLt _)]; exact .w64 _)
  | xor =>
    obtain rfl := Option.some.inj h
    refine ⟨_, by simp only [binOp, Op.intBits, if_neg (show ¬ (IntKind.u64 ≠ IntKind.u64) from fun h => h rfl), Sem.run_pure]; rfl, ?_⟩
    rw [show (BitVec.ofInt (IntKind.bits .u64) (a.toNat : Int)) = a from ofInt_toNat a, show (BitVec.ofInt (IntKind.bits .u64) (b.toNat : Int)) = b from ofInt_toNat b]
    first | (rw [← BitVec.toNat_xor, wrap_of_nat hs _ (BitVec.isLt _)]; exact .w64 _) | (rw [wrap_of_nat hs _ (BitVec.isLt _)]; exact .w64 _)
  | andNot =>
    obtain rfl := Option.some.inj h
    refine ⟨_, by simp only [binOp, Op.intBits, Sem.run_pure, if_neg (show ¬ (IntKind.u64 ≠ IntKind.u64) from fun h => h rfl)]; rfl, ?_⟩
    rw [show (BitVec.ofInt (IntKind.bits .u64) (a.toNat : Int)) = a from ofInt_toNat a, show (BitVec.ofInt (IntKind.bits .u64) (b.toNat : Int)) = b from ofInt_toNat b, wrap_of_nat hs _ (BitVec.isLt _)]
    exact .w64 _
  | eql =>
    obtain rfl := Option.some.inj h
    refine ⟨_, by simp only [binOp, Op.intCmp, Sem.run_pure, if_neg (show ¬ (IntKind.u64 ≠ IntKind.u64) from fun h => h rfl)]; rfl, ?_⟩
    rw [b_eq (p := a = b) (by rw [beq_iff_eq, Int.ofNat_inj, BitVec.toNat_inj])]
    exact .b _
  | neq =>
    obtain rfl := Option.some.inj h
    refine ⟨_, by simp only [binOp, Op.intCmp, Sem.run_pure, if_neg (show ¬ (IntKind.u64 ≠ IntKind.u64) from fun h => h rfl)]; rfl, ?_⟩
    rw [b_ne (p := a = b) (by rw [bne_iff_ne, ne_eq, Int.ofNat_inj, BitVec.toNat_inj])]
    exact .b _
  | lss =>
    obtain rfl := Option.some.inj h
    refine ⟨_, by simp only [binOp, Op.intCmp, Sem.run_pure, if_neg (show ¬ (IntKind.u64 ≠ IntKind.u64) from fun h => h rfl)]; rfl, ?_⟩
    rw [b_eq (p := a < b) (by rw [decide_eq_true_eq, Int.ofNat_lt, BitVec.lt_def])]
    exact .b _
  | leq =>
    obtain rfl := Option.some.inj h
    refine ⟨_, by simp only [binOp, Op.intCmp, Sem.run_pure, if_neg (show ¬ (IntKind.u64 ≠ IntKind.u64) from fun h => h rfl)]; rfl, ?_⟩
    rw [b_eq (p := a ≤ b) (by rw [decide_eq_true_eq, Int.ofNat_le, BitVec.le_def])]
    exact .b _
  | gtr =>
    obtain rfl := Option.some.inj h
    refine ⟨_, by simp only [binOp, Op.intCmp, Sem.run_pure, if_neg (show ¬ (IntKind.u64 ≠ IntKind.u64) from fun h => h rfl)]; rfl, ?_⟩
    rw [b_eq (p := b < a) (by rw [decide_eq_true_eq, gt_iff_lt, Int.ofNat_lt, BitVec.lt_def])]
    exact .b _
  | geq =>
    obtain rfl := Option.some.inj h
    refine ⟨_, by simp only [binOp, Op.intCmp, Sem.run_pure, if_neg (show ¬ (IntKind.u64 ≠ IntKind.u64) from fun h => h rfl)]; rfl, ?_⟩
    rw [b_eq (p := b ≤ a) (by rw [decide_eq_true_eq, ge_iff_le, Int.ofNat_le, BitVec.le_def])]
    exact .b _
  | shl => cases h
  | shr => cases h

theorem arithI_sound {op : BinOp} {a b : Int} {z : AV} {t : TypeId} (h : arithI op a b = some z) :
    ∃ v, (binOp op t (.int .i64 a) (.int .i64 b)).run P w = .ok v w ∧ Rel σ I w z v := by
  cases op with
  | add => obtain rfl := Option.some.inj h; exact ⟨_, by simp only [binOp, Op.intArith, Sem.run_pure, if_neg (show ¬ (IntKind.i64 ≠ IntKind.i64) from fun h => h rfl)]; rfl, .i _⟩
  | sub => obtain rfl := Option.some.inj h; exact ⟨_, by simp only [binOp, Op.intArith, Sem.run_pure, if_neg (show ¬ (IntKind.i64 ≠ IntKind.i64) from fun h => h rfl)]; rfl, .i _⟩
  | mul => obtain rfl := Option.some.inj h; exact ⟨_, by simp only [binOp, Op.intArith, Sem.run_pure, if_neg (show ¬ (IntKind.i64 ≠ IntKind.i64) from fun h => h rfl)]; rfl, .i _⟩
  | quo =>
    simp only [arithI] at h
    split at h
    · cases h
    · rename_i hb
      obtain rfl := Option.some.inj h
      exact ⟨_, by simp only [binOp, Op.intDiv, Sem.run_pure, if_neg (show ¬ (IntKind.i64 ≠ IntKind.i64) from fun h => h rfl), if_neg hb]; rfl, .i _⟩
  | rem =>
    simp only [arithI] at h
    split at h
    · cases h
    · rename_i hb
      obtain rfl := Option.some.inj h
      exact ⟨_, by simp only [binOp, Op.intDiv, Sem.run_pure, if_neg (show ¬ (IntKind.i64 ≠ IntKind.i64) from fun h => h rfl), if_neg hb], .i _⟩
  | and => obtain rfl := Option.some.inj h; exact ⟨_, by simp only [binOp, Op.intBits, Sem.run_pure, if_neg (show ¬ (IntKind.i64 ≠ IntKind.i64) from fun h => h rfl)]; rfl, .i _⟩
  | or => obtain rfl := Option.some.inj h; exact ⟨_, by simp only [binOp, Op.intBits, Sem.run_pure, if_neg (show ¬ (IntKind.i64 ≠ IntKind.i64) from fun h => h rfl)]; rfl, .i _⟩
  | xor => obtain rfl := Option.some.inj h; exact ⟨_, by simp only [binOp, Op.intBits, Sem.run_pure, if_neg (show ¬ (IntKind.i64 ≠ IntKind.i64) from fun h => h rfl)]; rfl, .i _⟩
  | andNot => cases h
  | shl => cases h
  | shr => cases h
  | eql => obtain rfl := Option.some.inj h; exact ⟨_, by simp only [binOp, Op.intCmp, Sem.run_pure, if_neg (show ¬ (IntKind.i64 ≠ IntKind.i64) from fun h => h rfl)]; rfl, .b _⟩
  | neq => obtain rfl := Option.some.inj h; exact ⟨_, by simp only [binOp, Op.intCmp, Sem.run_pure, if_neg (show ¬ (IntKind.i64 ≠ IntKind.i64) from fun h => h rfl)]; rfl, .b _⟩
  | lss => obtain rfl := Option.some.inj h; exact ⟨_, by simp only [binOp, Op.intCmp, Sem.run_pure, if_neg (show ¬ (IntKind.i64 ≠ IntKind.i64) from fun h => h rfl)], .b _⟩
  | leq => obtain rfl := Option.some.inj h; exact ⟨_, by simp only [binOp, Op.intCmp, Sem.run_pure, if_neg (show ¬ (IntKind.i64 ≠ IntKind.i64) from fun h => h rfl)], .b _⟩
  | gtr => obtain rfl := Option.some.inj h; exact ⟨_, by simp only [binOp, Op.intCmp, Sem.run_pure, if_neg (show ¬ (IntKind.i64 ≠ IntKind.i64) from fun h => h rfl)], .b _⟩
  | geq => obtain rfl := Option.some.inj h; exact ⟨_, by simp only [binOp, Op.intCmp, Sem.run_pure, if_neg (show ¬ (IntKind.i64 ≠ IntKind.i64) from fun h => h rfl)], .b _⟩

theorem W_toNat {n : Nat} (x : BitVec n) (hn : n ≤ 32) : W (x.toNat : Int) = x.toNat := by
  have h := x.isLt
  have h2 : 2 ^ n ≤ 2 ^ 32 := Nat.pow_le_pow_right (by omega) hn
  exact W_eq (by omega) (by omega)

theorem encS_toList (l : List (BitVec 8)) : (encS l).toList = l.map UInt8.ofBitVec := by
  rw [encS, ByteArray.toList_mk]
theorem encS_size (l : List (BitVec 8)) : (encS l).size = l.length := by simp [encS, ByteArray.size]
theorem encS_inj {a b : List (BitVec 8)} (h : a.map UInt8.ofBitVec = b.map UInt8.ofBitVec) : a = b := by
  have := congrArg (List.map UInt8.toBitVec) h
  simpa [List.map_map, Function.comp_def] using this
theorem bless_eq : ∀ a b : List (BitVec 8), Op.bytesLess (a.map UInt8.ofBitVec) (b.map UInt8.ofBitVec) = bless a b
  | a, [] => by cases a <;> simp [Op.bytesLess, bless]
  | [], _ :: _ => by simp [Op.bytesLess, bless]
  | a :: x, b :: y => by
    simp only [List.map_cons, Op.bytesLess, bless, bless_eq x y]
    have h1 : decide (UInt8.ofBitVec a < UInt8.ofBitVec b) = decide (a < b) := by
      congr 1
    have h2 : (UInt8.ofBitVec a == UInt8.ofBitVec b) = decide (a = b) := by
      rw [Bool.eq_iff_iff, beq_iff_eq, decide_eq_true_eq]
      exact ⟨fun h => by simpa using congrArg UInt8.toBitVec h, fun h => by rw [h]⟩
    rw [h1, h2]

theorem arithS_sound {op : BinOp} {a b : List (BitVec 8)} {z : AV} {t : TypeId} (h : arithS op a b = some z) :
    ∃ v, (binOp op t (.string (encS a)) (.string (encS b))).run P w = .ok v w ∧ Rel σ I w z v := by
  have heq : ((encS a).toList == (encS b).toList) = decide (a = b) := by
    rw [Bool.eq_iff_iff, beq_iff_eq, decide_eq_true_eq, encS_toList, encS_toList]
    exact ⟨encS_inj, fun h => by rw [h]⟩
  have hlt : Op.bytesLess (encS a).toList (encS b).toList = bless a b := by rw [encS_toList, encS_toList, bless_eq]
  cases op with
  | add =>
    simp only [arithS] at h
    split at h
    · rename_i hl
      obtain rfl := Option.some.inj h
      have hl' : ¬ ((((encS a).size + (encS b).size : Nat) : Int) > IntKind.i64.max) := by
        rw [encS_size, encS_size]; simp only [IntKind.max, IntKind.signed, IntKind.bits, if_true]; omega
      refine ⟨.string (encS a ++ encS b), by simp only [binOp, Op.stringOp, if_neg hl', Sem.run_pure], ?_⟩
      have : encS (a ++ b) = encS a ++ encS b := by
        apply ByteArray.ext
        simp [encS, ByteArray.data_append]
      rw [← this]; exact .s _
    · cases h
  | eql => obtain rfl := Option.some.inj h; exact ⟨_, by simp only [binOp, Op.stringOp, Sem.run_pure, heq], .b _⟩
  | neq => obtain rfl := Option.some.inj h; exact ⟨_, by simp only [binOp, Op.stringOp, Sem.run_pure, heq], .b _⟩
  | lss => obtain rfl := Option.some.inj h; exact ⟨_, by simp only [binOp, Op.stringOp, Sem.run_pure, hlt], .b _⟩
  | leq => obtain rfl := Option.some.inj h; exact ⟨_, by simp only [binOp, Op.stringOp, Sem.run_pure, hlt, heq], .b _⟩
  | gtr => obtain rfl := Option.some.inj h; exact ⟨_, by simp only [binOp, Op.stringOp, Sem.run_pure, hlt, heq], .b _⟩
  | geq => obtain rfl := Option.some.inj h; exact ⟨_, by simp only [binOp, Op.stringOp, Sem.run_pure, hlt], .b _⟩
  | _ => cases h

theorem run_eqGuard_int (op : BinOp) (t : TypeId) (X Y : Operand) (k k' : IntKind) (a b : Int) : (eqGuard op t X Y (.int k a) (.int k' b)).run P w = .ok () w := by
  simp only [eqGuard, Sem.run_ite]; split <;> rfl
theorem run_eqGuard_str (op : BinOp) (t : TypeId) (X Y : Operand) (a b : ByteArray) : (eqGuard op t X Y (.string a) (.string b)).run P w = .ok () w := by
  simp only [eqGuard, Sem.run_ite]; split <;> rfl
theorem run_eqGuard_bool (op : BinOp) (t : TypeId) (X Y : Operand) (a b : Bool) : (eqGuard op t X Y (.bool a) (.bool b)).run P w = .ok () w := by
  simp only [eqGuard, Sem.run_ite]; split <;> rfl

theorem shAmt_inv {y : AV} {v : Value} {n : Nat} (h : shAmt y = some n) (hr : Rel σ I w y v) : ∃ k m, v = .int k m ∧ 0 ≤ m ∧ m.toNat = n := by
  cases y <;> simp only [shAmt] at h <;> first | (cases h; done) | skip
  case i m =>
    split at h
    · rename_i h0; cases hr; exact ⟨_, _, rfl, h0, Option.some.inj h⟩
    · cases h
  all_goals (cases hr; refine ⟨_, _, rfl, by omega, ?_⟩; simpa using Option.some.inj h)

theorem shl_min {m n b : Nat} (_h : b < 2 ^ m) : b * 2 ^ (min n m) % 2 ^ m = b * 2 ^ n % 2 ^ m := by
  rcases Nat.le_total n m with hn | hn
  · rw [Nat.min_eq_left hn]
  · rw [Nat.min_eq_right hn]
    have : 2 ^ n = 2 ^ m * 2 ^ (n - m) := by rw [← Nat.pow_add]; congr 1; omega
    rw [this, Nat.mul_left_comm, Nat.mul_mod_right, Nat.mul_mod_left]

theorem shr_min {m n b : Nat} (h : b < 2 ^ m) : b / 2 ^ (min n m) = b / 2 ^ n := by
  rcases Nat.le_total n m with hn | hn
  · rw [Nat.min_eq_left hn]
  · rw [Nat.min_eq_right hn, Nat.div_eq_of_lt h, Nat.div_eq_of_lt (Nat.lt_of_lt_of_le h (Nat.pow_le_pow_right (by omega) hn))]

theorem shl_u {k : IntKind} (hk : k.signed = false) (a : BitVec k.bits) (n : Nat) : k.wrap ((a.toNat : Int) * 2 ^ (min n k.bits)) = ((a <<< n).toNat : Int) := by
  rw [wrap_u hk, show (a.toNat : Int) * 2 ^ (min n k.bits) = ((a.toNat * 2 ^ (min n k.bits) : Nat) : Int) from by simp]
  rw [BitVec.toNat_ofInt, ← Int.natCast_emod, Int.toNat_natCast, shl_min a.isLt, BitVec.toNat_shiftLeft, Nat.shiftLeft_eq]

theorem shr_u {k : IntKind} (a : BitVec k.bits) (n : Nat) : ((a.toNat : Int)).fdiv (2 ^ (min n k.bits)) = ((a >>> n).toNat : Int) := by
  rw [show (2 : Int) ^ (min n k.bits) = ((2 ^ (min n k.bits) : Nat) : Int) from by simp, Int.fdiv_eq_ediv_of_nonneg _ (Int.natCast_nonneg _), ← Int.natCast_ediv, shr_min a.isLt, BitVec.toNat_ushiftRight, Nat.shiftRight_eq_div_pow]

theorem shl_sound {x y z : AV} {a b : Value} {t : TypeId} (h : shl x y = some z) (hx : Rel σ I w x a) (hy : Rel σ I w y b) :
    ∃ v, (binOp .shl t a b).run P w = .ok v w ∧ Rel σ I w z v := by
  unfold shl at h
  split at h
  · cases h
  · rename_i n hn
    obtain ⟨k, m, rfl, h0, hm⟩ := shAmt_inv hn hy
    have h0' : ¬ m < 0 := by omega
    cases x <;> simp only at h <;> first | (cases h; done) | skip
    case w8 => cases hx; obtain rfl := Option.some.inj h; exact ⟨_, by simp only [binOp, Op.shift, if_neg h0', Sem.run_pure, hm]; exact congrArg (fun z => Result.ok (Value.int .u8 z) w) (shl_u (k := .u8) rfl _ n), .w8 _⟩
    case w16 => cases hx; obtain rfl := Option.some.inj h; exact ⟨_, by simp only [binOp, Op.shift, if_neg h0', Sem.run_pure, hm]; exact congrArg (fun z => Result.ok (Value.int .u16 z) w) (shl_u (k := .u16) rfl _ n), .w16 _⟩
    case w32 => cases hx; obtain rfl := Option.some.inj h; exact ⟨_, by simp only [binOp, Op.shift, if_neg h0', Sem.run_pure, hm]; exact congrArg (fun z => Result.ok (Value.int .u32 z) w) (shl_u (k := .u32) rfl _ n), .w32 _⟩
    case w64 => cases hx; obtain rfl := Option.some.inj h; exact ⟨_, by simp only [binOp, Op.shift, if_neg h0', Sem.run_pure, hm]; exact congrArg (fun z => Result.ok (Value.int .u64 z) w) (shl_u (k := .u64) rfl _ n), .w64 _⟩
    case i => cases hx; obtain rfl := Option.some.inj h; exact ⟨_, by simp only [binOp, Op.shift, if_neg h0', Sem.run_pure, hm]; rfl, .i _⟩

theorem shr_sound {x y z : AV} {a b : Value} {t : TypeId} (h : shr x y = some z) (hx : Rel σ I w x a) (hy : Rel σ I w y b) :
    ∃ v, (binOp .shr t a b).run P w = .ok v w ∧ Rel σ I w z v := by
  unfold shr at h
  split at h
  · cases h
  · rename_i n hn
    obtain ⟨k, m, rfl, h0, hm⟩ := shAmt_inv hn hy
    have h0' : ¬ m < 0 := by omega
    cases x <;> simp only at h <;> first | (cases h; done) | skip
    case w8 => cases hx; obtain rfl := Option.some.inj h; exact ⟨_, by simp only [binOp, Op.shift, if_neg h0', Sem.run_pure, hm]; exact congrArg (fun z => Result.ok (Value.int .u8 z) w) (shr_u (k := .u8) _ n), .w8 _⟩
    case w16 => cases hx; obtain rfl := Option.some.inj h; exact ⟨_, by simp only [binOp, Op.shift, if_neg h0', Sem.run_pure, hm]; exact congrArg (fun z => Result.ok (Value.int .u16 z) w) (shr_u (k := .u16) _ n), .w16 _⟩
    case w32 => cases hx; obtain rfl := Option.some.inj h; exact ⟨_, by simp only [binOp, Op.shift, if_neg h0', Sem.run_pure, hm]; exact congrArg (fun z => Result.ok (Value.int .u32 z) w) (shr_u (k := .u32) _ n), .w32 _⟩
    case w64 => cases hx; obtain rfl := Option.some.inj h; exact ⟨_, by simp only [binOp, Op.shift, if_neg h0', Sem.run_pure, hm]; exact congrArg (fun z => Result.ok (Value.int .u64 z) w) (shr_u (k := .u64) _ n), .w64 _⟩
    case i => cases hx; obtain rfl := Option.some.inj h; exact ⟨_, by simp only [binOp, Op.shift, if_neg h0', Sem.run_pure, hm]; rfl, .i _⟩

theorem bin_sound {op : BinOp} {x y z : AV} {a b : Value} {t : TypeId} (X Y : Operand) (h : bin op x y = some z) (hx : Rel σ I w x a) (hy : Rel σ I w y b) :
    ∃ v, (do eqGuard op t X Y a b; binOp op t a b : Sem Value).run P w = .ok v w ∧ Rel σ I w z v := by
  have shift : ∀ n, shAmt y = some n → (∃ k m, b = .int k m) := fun n hn => by obtain ⟨k, m, hb, _⟩ := shAmt_inv hn hy; exact ⟨k, m, hb⟩
  unfold bin at h
  split at h
  · obtain ⟨v, hv, hr⟩ := shl_sound (P := P) (t := t) h hx hy
    exact ⟨v, by rw [Sem.run_bind]; simp only [eqGuard, Sem.run_ite]; exact hv, hr⟩
  · obtain ⟨v, hv, hr⟩ := shr_sound (P := P) (t := t) h hx hy
    exact ⟨v, by rw [Sem.run_bind]; simp only [eqGuard, Sem.run_ite]; exact hv, hr⟩
  · split at h
    · cases hx; cases hy; rw [Sem.run_bind, run_eqGuard_int]; exact arith8_sound h
    · cases hx; cases hy; rw [Sem.run_bind, run_eqGuard_int]; exact arith16_sound h
    · cases hx; cases hy; rw [Sem.run_bind, run_eqGuard_int]; exact arith32_sound h
    · cases hx; cases hy; rw [Sem.run_bind, run_eqGuard_int]; exact arith64_sound h
    · cases hx; cases hy; rw [Sem.run_bind, run_eqGuard_int]; exact arithI_sound h
    · cases hx; cases hy; rw [Sem.run_bind, run_eqGuard_str]; exact arithS_sound h
    · cases h

theorem un_sound {op : UnOp} {x z : AV} {a : Value} (h : un op x = some z) (hx : Rel σ I w x a) :
    ∃ v, (Op.unary op a).run P w = .ok v w ∧ Rel σ I w z v := by
  unfold un at h
  split at h <;> first | (cases h; done) | skip
  · cases hx; obtain rfl := Option.some.inj h; exact ⟨_, by simp only [Op.unary, Op.intArith, Sem.run_pure]; rfl, .i _⟩
  · cases hx; obtain rfl := Option.some.inj h
    refine ⟨_, by simp only [Op.unary, Op.intArith, Sem.run_pure]; rfl, ?_⟩
    rename_i a
    rw [wrap_u rfl, show BitVec.ofInt (IntKind.bits .u8) (0 - (a.toNat : Int)) = 0#8 - a from by rw [ofInt_sub']; show BitVec.ofInt 8 0 - BitVec.ofInt 8 _ = _; rw [ofInt_toNat]; rfl]
    exact .w8 _
  · cases hx; obtain rfl := Option.some.inj h
    refine ⟨_, by simp only [Op.unary, Op.intArith, Sem.run_pure]; rfl, ?_⟩
    rename_i a
    rw [wrap_u rfl, show BitVec.ofInt (IntKind.bits .u16) (0 - (a.toNat : Int)) = 0#16 - a from by rw [ofInt_sub']; show BitVec.ofInt 16 0 - BitVec.ofInt 16 _ = _; rw [ofInt_toNat]; rfl]
    exact .w16 _
  · cases hx; obtain rfl := Option.some.inj h
    refine ⟨_, by simp only [Op.unary, Op.intArith, Sem.run_pure]; rfl, ?_⟩
    rename_i a
    rw [wrap_u rfl, show BitVec.ofInt (IntKind.bits .u32) (0 - (a.toNat : Int)) = 0#32 - a from by rw [ofInt_sub']; show BitVec.ofInt 32 0 - BitVec.ofInt 32 _ = _; rw [ofInt_toNat]; rfl]
    exact .w32 _
  · cases hx; obtain rfl := Option.some.inj h
    refine ⟨_, by simp only [Op.unary, Op.intArith, Sem.run_pure]; rfl, ?_⟩
    rename_i a
    rw [wrap_u rfl, show BitVec.ofInt (IntKind.bits .u64) (0 - (a.toNat : Int)) = 0#64 - a from by rw [ofInt_sub']; show BitVec.ofInt 64 0 - BitVec.ofInt 64 _ = _; rw [ofInt_toNat]; rfl]
    exact .w64 _
  · cases hx; obtain rfl := Option.some.inj h
    refine ⟨_, by simp only [Op.unary, Op.intBits, Sem.run_pure]; rfl, ?_⟩
    rename_i a
    have e : (BitVec.ofInt 8 (if IntKind.signed .u8 = true then -1 else IntKind.max .u8) : BitVec 8) = BitVec.allOnes 8 := by decide
    rw [wrap_of_nat rfl _ (BitVec.isLt _)]
    have e2 : ((BitVec.ofInt 8 (if IntKind.signed .u8 = true then -1 else IntKind.max .u8) ^^^ BitVec.ofInt 8 (a.toNat : Int)) : BitVec 8) = ~~~a := by rw [e, ofInt_toNat, BitVec.allOnes_xor]
    exact (congrArg (fun (z : BitVec 8) => Rel σ I w (.w8 (~~~a)) (.int .u8 z.toNat)) e2).mpr (.w8 _)
  · cases hx; obtain rfl := Option.some.inj h
    refine ⟨_, by simp only [Op.unary, Op.intBits, Sem.run_pure]; rfl, ?_⟩
    rename_i a
    have e : (BitVec.ofInt 16 (if IntKind.signed .u16 = true then -1 else IntKind.max .u16) : BitVec 16) = BitVec.allOnes 16 := by decide
    rw [wrap_of_nat rfl _ (BitVec.isLt _)]
    have e2 : ((BitVec.ofInt 16 (if IntKind.signed .u16 = true then -1 else IntKind.max .u16) ^^^ BitVec.ofInt 16 (a.toNat : Int)) : BitVec 16) = ~~~a := by rw [e, ofInt_toNat, BitVec.allOnes_xor]
    exact (congrArg (fun (z : BitVec 16) => Rel σ I w (.w16 (~~~a)) (.int .u16 z.toNat)) e2).mpr (.w16 _)
  · cases hx; obtain rfl := Option.some.inj h
    refine ⟨_, by simp only [Op.unary, Op.intBits, Sem.run_pure]; rfl, ?_⟩
    rename_i a
    have e : (BitVec.ofInt 32 (if IntKind.signed .u32 = true then -1 else IntKind.max .u32) : BitVec 32) = BitVec.allOnes 32 := by decide
    rw [wrap_of_nat rfl _ (BitVec.isLt _)]
    have e2 : ((BitVec.ofInt 32 (if IntKind.signed .u32 = true then -1 else IntKind.max .u32) ^^^ BitVec.ofInt 32 (a.toNat : Int)) : BitVec 32) = ~~~a := by rw [e, ofInt_toNat, BitVec.allOnes_xor]
    exact (congrArg (fun (z : BitVec 32) => Rel σ I w (.w32 (~~~a)) (.int .u32 z.toNat)) e2).mpr (.w32 _)
  · cases hx; obtain rfl := Option.some.inj h
    refine ⟨_, by simp only [Op.unary, Op.intBits, Sem.run_pure]; rfl, ?_⟩
    rename_i a
    have e : (BitVec.ofInt 64 (if IntKind.signed .u64 = true then -1 else IntKind.max .u64) : BitVec 64) = BitVec.allOnes 64 := by decide
    rw [wrap_of_nat rfl _ (BitVec.isLt _)]
    have e2 : ((BitVec.ofInt 64 (if IntKind.signed .u64 = true then -1 else IntKind.max .u64) ^^^ BitVec.ofInt 64 (a.toNat : Int)) : BitVec 64) = ~~~a := by rw [e, ofInt_toNat, BitVec.allOnes_xor]
    exact (congrArg (fun (z : BitVec 64) => Rel σ I w (.w64 (~~~a)) (.int .u64 z.toNat)) e2).mpr (.w64 _)
  · cases hx; obtain rfl := Option.some.inj h; exact ⟨_, by simp only [Op.unary, Sem.run_pure], .b _⟩

theorem ix_inv {x : AV} {v : Value} {n : Int} (h : ix x = some n) (hr : Rel σ I w x v) : ∃ k, v = .int k n := by
  cases x <;> simp only [ix] at h <;> first | (cases h; done) | skip
  all_goals (cases hr; obtain rfl := Option.some.inj h; exact ⟨_, rfl⟩)

theorem toK_sound {k : IntKind} {x z : AV} {a : Value} (h : toK k x = some z) (hx : Rel σ I w x a) :
    ∃ k' m v, a = .int k' m ∧ (Conv.intToInt k m).run P w = .ok v w ∧ Rel σ I w z v := by
  unfold toK at h
  split at h
  · split at h <;> first | (cases h; done) | skip
    · cases hx; obtain rfl := Option.some.inj h; exact ⟨_, _, _, rfl, by simp only [Conv.intToInt, Sem.run_pure]; rw [wrap_u rfl]; rfl, .w8 _⟩
    · cases hx; obtain rfl := Option.some.inj h; exact ⟨_, _, _, rfl, by simp only [Conv.intToInt, Sem.run_pure]; rw [wrap_u rfl]; exact congrArg (fun z : BitVec 8 => Result.ok (Value.int .u8 z.toNat) w) (ofInt_toNat _), .w8 _⟩
    · cases hx; obtain rfl := Option.some.inj h; exact ⟨_, _, _, rfl, by simp only [Conv.intToInt, Sem.run_pure]; rw [wrap_u rfl]; exact congrArg (fun z : BitVec 8 => Result.ok (Value.int .u8 z.toNat) w) (ofInt_toNat' _), .w8 _⟩
    · cases hx; obtain rfl := Option.some.inj h; exact ⟨_, _, _, rfl, by simp only [Conv.intToInt, Sem.run_pure]; rw [wrap_u rfl]; exact congrArg (fun z : BitVec 8 => Result.ok (Value.int .u8 z.toNat) w) (ofInt_toNat' _), .w8 _⟩
    · cases hx; obtain rfl := Option.some.inj h; exact ⟨_, _, _, rfl, by simp only [Conv.intToInt, Sem.run_pure]; rw [wrap_u rfl]; exact congrArg (fun z : BitVec 8 => Result.ok (Value.int .u8 z.toNat) w) (ofInt_toNat' _), .w8 _⟩
  · split at h <;> first | (cases h; done) | skip
    · cases hx; obtain rfl := Option.some.inj h; exact ⟨_, _, _, rfl, by simp only [Conv.intToInt, Sem.run_pure]; rw [wrap_u rfl]; rfl, .w16 _⟩
    · cases hx; obtain rfl := Option.some.inj h; exact ⟨_, _, _, rfl, by simp only [Conv.intToInt, Sem.run_pure]; rw [wrap_u rfl]; exact congrArg (fun z : BitVec 16 => Result.ok (Value.int .u16 z.toNat) w) (ofInt_toNat' _), .w16 _⟩
    · cases hx; obtain rfl := Option.some.inj h; exact ⟨_, _, _, rfl, by simp only [Conv.intToInt, Sem.run_pure]; rw [wrap_u rfl]; exact congrArg (fun z : BitVec 16 => Result.ok (Value.int .u16 z.toNat) w) (ofInt_toNat _), .w16 _⟩
    · cases hx; obtain rfl := Option.some.inj h; exact ⟨_, _, _, rfl, by simp only [Conv.intToInt, Sem.run_pure]; rw [wrap_u rfl]; exact congrArg (fun z : BitVec 16 => Result.ok (Value.int .u16 z.toNat) w) (ofInt_toNat' _), .w16 _⟩
    · cases hx; obtain rfl := Option.some.inj h; exact ⟨_, _, _, rfl, by simp only [Conv.intToInt, Sem.run_pure]; rw [wrap_u rfl]; exact congrArg (fun z : BitVec 16 => Result.ok (Value.int .u16 z.toNat) w) (ofInt_toNat' _), .w16 _⟩
  · split at h <;> first | (cases h; done) | skip
    · cases hx; obtain rfl := Option.some.inj h; exact ⟨_, _, _, rfl, by simp only [Conv.intToInt, Sem.run_pure]; rw [wrap_u rfl]; rfl, .w32 _⟩
    · cases hx; obtain rfl := Option.some.inj h; exact ⟨_, _, _, rfl, by simp only [Conv.intToInt, Sem.run_pure]; rw [wrap_u rfl]; exact congrArg (fun z : BitVec 32 => Result.ok (Value.int .u32 z.toNat) w) (ofInt_toNat' _), .w32 _⟩
    · cases hx; obtain rfl := Option.some.inj h; exact ⟨_, _, _, rfl, by simp only [Conv.intToInt, Sem.run_pure]; rw [wrap_u rfl]; exact congrArg (fun z : BitVec 32 => Result.ok (Value.int .u32 z.toNat) w) (ofInt_toNat' _), .w32 _⟩
    · cases hx; obtain rfl := Option.some.inj h; exact ⟨_, _, _, rfl, by simp only [Conv.intToInt, Sem.run_pure]; rw [wrap_u rfl]; exact congrArg (fun z : BitVec 32 => Result.ok (Value.int .u32 z.toNat) w) (ofInt_toNat _), .w32 _⟩
    · cases hx; obtain rfl := Option.some.inj h; exact ⟨_, _, _, rfl, by simp only [Conv.intToInt, Sem.run_pure]; rw [wrap_u rfl]; exact congrArg (fun z : BitVec 32 => Result.ok (Value.int .u32 z.toNat) w) (ofInt_toNat' _), .w32 _⟩
  · split at h <;> first | (cases h; done) | skip
    · cases hx; obtain rfl := Option.some.inj h; exact ⟨_, _, _, rfl, by simp only [Conv.intToInt, Sem.run_pure]; rw [wrap_u rfl]; rfl, .w64 _⟩
    · cases hx; obtain rfl := Option.some.inj h; exact ⟨_, _, _, rfl, by simp only [Conv.intToInt, Sem.run_pure]; rw [wrap_u rfl]; exact congrArg (fun z : BitVec 64 => Result.ok (Value.int .u64 z.toNat) w) (ofInt_toNat' _), .w64 _⟩
    · cases hx; obtain rfl := Option.some.inj h; exact ⟨_, _, _, rfl, by simp only [Conv.intToInt, Sem.run_pure]; rw [wrap_u rfl]; exact congrArg (fun z : BitVec 64 => Result.ok (Value.int .u64 z.toNat) w) (ofInt_toNat' _), .w64 _⟩
    · cases hx; obtain rfl := Option.some.inj h; exact ⟨_, _, _, rfl, by simp only [Conv.intToInt, Sem.run_pure]; rw [wrap_u rfl]; exact congrArg (fun z : BitVec 64 => Result.ok (Value.int .u64 z.toNat) w) (ofInt_toNat' _), .w64 _⟩
    · cases hx; obtain rfl := Option.some.inj h; exact ⟨_, _, _, rfl, by simp only [Conv.intToInt, Sem.run_pure]; rw [wrap_u rfl]; exact congrArg (fun z : BitVec 64 => Result.ok (Value.int .u64 z.toNat) w) (ofInt_toNat _), .w64 _⟩
  · split at h <;> first | (cases h; done) | skip
    · cases hx; obtain rfl := Option.some.inj h; exact ⟨_, _, _, rfl, by simp only [Conv.intToInt, Sem.run_pure]; rfl, .i _⟩
    · cases hx; obtain rfl := Option.some.inj h; exact ⟨_, _, _, rfl, by simp only [Conv.intToInt, Sem.run_pure]; exact congrArg (fun z => Result.ok (Value.int .i64 z) w) (W_toNat _ (by decide)), .i _⟩
    · cases hx; obtain rfl := Option.some.inj h; exact ⟨_, _, _, rfl, by simp only [Conv.intToInt, Sem.run_pure]; exact congrArg (fun z => Result.ok (Value.int .i64 z) w) (W_toNat _ (by decide)), .i _⟩
    · cases hx; obtain rfl := Option.some.inj h; exact ⟨_, _, _, rfl, by simp only [Conv.intToInt, Sem.run_pure]; exact congrArg (fun z => Result.ok (Value.int .i64 z) w) (W_toNat _ (by decide)), .i _⟩
    · cases hx; obtain rfl := Option.some.inj h; exact ⟨_, _, _, rfl, by simp only [Conv.intToInt, Sem.run_pure]; rfl, .i _⟩
  · cases h
end
end Go.AX
