/-
  AX, part B: what plain operations do with abstract values.
-/
import Derived.Test.YtnnkmoaipcdhnaaDoorAxA
namespace Go.AX
open Go

def W (n : Int) : Int := IntKind.i64.wrap n
theorem W_eq {n : Int} (h0 : -9223372036854775808 ≤ n) (h1 : n ≤ 9223372036854775807) : W n = n := by
  have e : (2 : Int) ^ (64 - 1) = 9223372036854775808 := by decide
  have e' : (2 : Int) ^ 64 = 18446744073709551616 := by decide
  simp only [W, IntKind.wrap, IntKind.bits, IntKind.signed, Bool.true_and, decide_eq_true_eq, e, e']
  split <;> omega
theorem W_nat {n : Int} (h0 : 0 ≤ n) (h1 : n ≤ 9223372036854775807) : W n = n := W_eq (by omega) h1

def iand (x y : Int) : Int := W (BitVec.ofInt 64 x &&& BitVec.ofInt 64 y).toNat
def ior (x y : Int) : Int := W (BitVec.ofInt 64 x ||| BitVec.ofInt 64 y).toNat
def ixor (x y : Int) : Int := W (BitVec.ofInt 64 x ^^^ BitVec.ofInt 64 y).toNat

def ofV1 : Value → AV
  | .int .u8 n => if 0 ≤ n ∧ n < 256 then .w8 (BitVec.ofInt 8 n) else .v (.int .u8 n)
  | .int .u16 n => if 0 ≤ n ∧ n < 65536 then .w16 (BitVec.ofInt 16 n) else .v (.int .u16 n)
  | .int .u32 n => if 0 ≤ n ∧ n < 4294967296 then .w32 (BitVec.ofInt 32 n) else .v (.int .u32 n)
  | .int .u64 n => if 0 ≤ n ∧ n < 18446744073709551616 then .w64 (BitVec.ofInt 64 n) else .v (.int .u64 n)
  | .int .i64 n => .i n
  | .bool x => .b x
  | .string s => .s (s.data.toList.map UInt8.toBitVec)
  | x => .v x
def ofV : Value → AV
  | .agg cs => if cs.toList.all Value.oneCell' then .agg (cs.toList.map ofV1) else .v (.agg cs)
  | x => ofV1 x

def cmpB (op : BinOp) (lt eq : Bool) : Option Bool :=
  match op with
  | .eql => some eq
  | .neq => some (!eq)
  | .lss => some lt
  | .leq => some (lt || eq)
  | .gtr => some (!(lt || eq))
  | .geq => some (!lt)
  | _ => none

def bless : List (BitVec 8) → List (BitVec 8) → Bool
  | _, [] => false
  | [], _ :: _ => true
  | a :: x, b :: y => decide (a < b) || (decide (a = b) && bless x y)

def shAmt : AV → Option Nat
  | .i n => if 0 ≤ n then some n.toNat else none
  | .w8 x => some x.toNat
  | .w16 x => some x.toNat
  | .w32 x => some x.toNat
  | .w64 x => some x.toNat
  | _ => none

def arith8 (op : BinOp) (a b : BitVec 8) : Option AV :=
  match op with
  | .add => some (.w8 (a + b)) | .sub => some (.w8 (a - b)) | .mul => some (.w8 (a * b))
  | .quo => if b = 0#8 then none else some (.w8 (a / b)) | .rem => if b = 0#8 then none else some (.w8 (a % b))
  | .and => some (.w8 (a &&& b)) | .or => some (.w8 (a ||| b)) | .xor => some (.w8 (a ^^^ b)) | .andNot => some (.w8 (a &&& ~~~b))
  | .eql => some (.b (decide (a = b))) | .neq => some (.b (!decide (a = b)))
  | .lss => some (.b (decide (a < b))) | .leq => some (.b (decide (a ≤ b))) | .gtr => some (.b (decide (b < a))) | .geq => some (.b (decide (b ≤ a)))
  | _ => none
def arith16 (op : BinOp) (a b : BitVec 16) : Option AV :=
  match op with
  | .add => some (.w16 (a + b)) | .sub => some (.w16 (a - b)) | .mul => some (.w16 (a * b))
  | .quo => if b = 0#16 then none else some (.w16 (a / b)) | .rem => if b = 0#16 then none else some (.w16 (a % b))
  | .and => some (.w16 (a &&& b)) | .or => some (.w16 (a ||| b)) | .xor => some (.w16 (a ^^^ b)) | .andNot => some (.w16 (a &&& ~~~b))
  | .eql => some (.b (decide (a = b))) | .neq => some (.b (!decide (a = b)))
  | .lss => some (.b (decide (a < b))) | .leq => some (.b (decide (a ≤ b))) | .gtr => some (.b (decide (b < a))) | .geq => some (.b (decide (b ≤ a)))
  | _ => none
def arith32 (op : BinOp) (a b : BitVec 32) : Option AV :=
  match op with
  | .add => some (.w32 (a + b)) | .sub => some (.w32 (a - b)) | .mul => some (.w32 (a * b))
  | .quo => if b = 0#32 then none else some (.w32 (a / b)) | .rem => if b = 0#32 then none else some (.w32 (a % b))
  | .and => some (.w32 (a &&& b)) | .or => some (.w32 (a ||| b)) | .xor => some (.w32 (a ^^^ b)) | .andNot => some (.w32 (a &&& ~~~b))
  | .eql => some (.b (decide (a = b))) | .neq => some (.b (!decide (a = b)))
  | .lss => some (.b (decide (a < b))) | .leq => some (.b (decide (a ≤ b))) | .gtr => some (.b (decide (b < a))) | .geq => some (.b (decide (b ≤ a)))
  | _ => none
def arith64 (op : BinOp) (a b : BitVec 64) : Option AV :=
  match op with
  | .add => some (.w64 (a + b)) | .sub => some (.w64 (a - b)) | .mul => some (.w64 (a * b))
  | .quo => if b = 0#64 then none else some (.w64 (a / b)) | .rem => if b = 0#64 then none else some (.w64 (a % b))
  | .and => some (.w64 (a &&& b)) | .or => some (.w64 (a ||| b)) | .xor => some (.w64 (a ^^^ b)) | .andNot => some (.w64 (a &&& ~~~b))
  | .eql => some (.b (decide (a = b))) | .neq => some (.b (!decide (a = b)))
  | .lss => some (.b (decide (a < b))) | .leq => some (.b (decide (a ≤ b))) | .gtr => some (.b (decide (b < a))) | .geq => some (.b (decide (b ≤ a)))
  | _ => none
def arithI (op : BinOp) (a b : Int) : Option AV :=
  match op with
  | .add => some (.i (W (a + b))) | .sub => some (.i (W (a - b))) | .mul => some (.i (W (a * b)))
  | .quo => if b = 0 then none else some (.i (W (a.tdiv b))) | .rem => if b = 0 then none else some (.i (a.tmod b))
  | .and => some (.i (iand a b)) | .or => some (.i (ior a b)) | .xor => some (.i (ixor a b))
  | .eql => some (.b (decide (a = b))) | .neq => some (.b (!decide (a = b)))
  | .lss => some (.b (decide (a < b))) | .leq => some (.b (decide (a ≤ b))) | .gtr => some (.b (decide (b < a))) | .geq => some (.b (decide (b ≤ a)))
  | _ => none
def arithS (op : BinOp) (a b : List (BitVec 8)) : Option AV :=
  match op with
  | .add => if a.length + b.length ≤ 9223372036854775807 then some (.s (a ++ b)) else none
  | .eql => some (.b (decide (a = b))) | .neq => some (.b (!decide (a = b)))
  | .lss => some (.b (bless a b)) | .leq => some (.b (bless a b || decide (a = b))) | .gtr => some (.b (!(bless a b || decide (a = b)))) | .geq => some (.b (!bless a b))
  | _ => none
def shl (x y : AV) : Option AV :=
  match shAmt y with
  | none => none
  | some n => match x with
    | .w8 a => some (.w8 (a <<< n)) | .w16 a => some (.w16 (a <<< n)) | .w32 a => some (.w32 (a <<< n)) | .w64 a => some (.w64 (a <<< n))
    | .i a => some (.i (W (a * 2 ^ (min n 64))))
    | _ => none
def shr (x y : AV) : Option AV :=
  match shAmt y with
  | none => none
  | some n => match x with
    | .w8 a => some (.w8 (a >>> n)) | .w16 a => some (.w16 (a >>> n)) | .w32 a => some (.w32 (a >>> n)) | .w64 a => some (.w64 (a >>> n))
    | .i a => some (.i (a.fdiv (2 ^ (min n 64))))
    | _ => none

/-- nil against a pointer. -/
def nilEq (x y : AV) : Option Bool :=
  match x, y with
  | .v (.pointer none), .v (.pointer none) => some true
  | .v (.pointer none), .op _ _ | .op _ _, .v (.pointer none) => some false
  | .v (.pointer none), .rp _ | .rp _, .v (.pointer none) => some false
  | _, _ => none

def bin (op : BinOp) (x y : AV) : Option AV :=
  match op with
  | .shl => shl x y
  | .shr => shr x y
  | op => match x, y with
    | .w8 a, .w8 b => arith8 op a b
    | .w16 a, .w16 b => arith16 op a b
    | .w32 a, .w32 b => arith32 op a b
    | .w64 a, .w64 b => arith64 op a b
    | .i a, .i b => arithI op a b
    | .s a, .s b => arithS op a b
    | _, _ => none

def un (op : UnOp) (x : AV) : Option AV :=
  match op, x with
  | .neg, .i a => some (.i (W (0 - a)))
  | .neg, .w8 a => some (.w8 (0#8 - a)) | .neg, .w16 a => some (.w16 (0#16 - a)) | .neg, .w32 a => some (.w32 (0#32 - a)) | .neg, .w64 a => some (.w64 (0#64 - a))
  | .xor, .w8 a => some (.w8 (~~~a)) | .xor, .w16 a => some (.w16 (~~~a)) | .xor, .w32 a => some (.w32 (~~~a)) | .xor, .w64 a => some (.w64 (~~~a))
  | .not, .b a => some (.b (!a))
  | _, _ => none

def ix : AV → Option Int
  | .i n => some n
  | .w8 x => some (x.toNat : Int)
  | .w16 x => some (x.toNat : Int)
  | .w32 x => some (x.toNat : Int)
  | .w64 x => some (x.toNat : Int)
  | _ => none

/-- A number turned into another kind. -/
def toK (k : IntKind) (x : AV) : Option AV :=
  match k with
  | .u8 => match x with
    | .i n => some (.w8 (BitVec.ofInt 8 n)) | .w8 a => some (.w8 a) | .w16 a => some (.w8 (a.setWidth 8)) | .w32 a => some (.w8 (a.setWidth 8)) | .w64 a => some (.w8 (a.setWidth 8)) | _ => none
  | .u16 => match x with
    | .i n => some (.w16 (BitVec.ofInt 16 n)) | .w8 a => some (.w16 (a.setWidth 16)) | .w16 a => some (.w16 a) | .w32 a => some (.w16 (a.setWidth 16)) | .w64 a => some (.w16 (a.setWidth 16)) | _ => none
  | .u32 => match x with
    | .i n => some (.w32 (BitVec.ofInt 32 n)) | .w8 a => some (.w32 (a.setWidth 32)) | .w16 a => some (.w32 (a.setWidth 32)) | .w32 a => some (.w32 a) | .w64 a => some (.w32 (a.setWidth 32)) | _ => none
  | .u64 => match x with
    | .i n => some (.w64 (BitVec.ofInt 64 n)) | .w8 a => some (.w64 (a.setWidth 64)) | .w16 a => some (.w64 (a.setWidth 64)) | .w32 a => some (.w64 (a.setWidth 64)) | .w64 a => some (.w64 a) | _ => none
  | .i64 => match x with
    | .i n => some (.i (W n)) | .w8 a => some (.i (a.toNat : Int)) | .w16 a => some (.i (a.toNat : Int)) | .w32 a => some (.i (a.toNat : Int)) | .w64 a => some (.i (W (a.toNat : Int))) | _ => none
  | _ => none

theorem wrap_u {k : IntKind} (hk : k.signed = false) (m : Int) : k.wrap m = ((BitVec.ofInt k.bits m).toNat : Int) := by
  simp only [IntKind.wrap, hk, Bool.false_and, Bool.false_eq_true, if_false, BitVec.toNat_ofInt]
  rw [Int.toNat_of_nonneg (Int.emod_nonneg _ (by have := Nat.two_pow_pos k.bits; omega))]
  simp

theorem ofInt_toNat {n : Nat} (x : BitVec n) : BitVec.ofInt n (x.toNat : Int) = x := by
  apply BitVec.eq_of_toNat_eq
  simp []

theorem ofInt_toNat' {n m : Nat} (x : BitVec n) : BitVec.ofInt m (x.toNat : Int) = x.setWidth m := by
  apply BitVec.eq_of_toNat_eq
  simp []

theorem ofInt_add' {n : Nat} (x y : Int) : BitVec.ofInt n (x + y) = BitVec.ofInt n x + BitVec.ofInt n y := by
  apply BitVec.eq_of_toInt_eq
  simp [BitVec.toInt_ofInt, BitVec.toInt_add]
theorem ofInt_mul' {n : Nat} (x y : Int) : BitVec.ofInt n (x * y) = BitVec.ofInt n x * BitVec.ofInt n y := by
  apply BitVec.eq_of_toInt_eq
  simp [BitVec.toInt_ofInt, BitVec.toInt_mul]
theorem ofInt_sub' {n : Nat} (x y : Int) : BitVec.ofInt n (x - y) = BitVec.ofInt n x - BitVec.ofInt n y := by
  apply BitVec.eq_of_toInt_eq
  simp [BitVec.toInt_ofInt, BitVec.toInt_sub]

section
variable {σ : Nat → Loc} {I : Nat → Prop} {w : World}

theorem rel_ofV1 (x : Value) : Rel σ I w (ofV1 x) x := by
  unfold ofV1
  split
  · split
    · rename_i n h
      have e : ((BitVec.ofInt 8 n).toNat : Int) = n := by simp [BitVec.toNat_ofInt]; omega
      have := Rel.w8 (σ := σ) (I := I) (w := w) (BitVec.ofInt 8 n); rwa [e] at this
    · exact .v _
  · split
    · rename_i n h
      have e : ((BitVec.ofInt 16 n).toNat : Int) = n := by simp [BitVec.toNat_ofInt]; omega
      have := Rel.w16 (σ := σ) (I := I) (w := w) (BitVec.ofInt 16 n); rwa [e] at this
    · exact .v _
  · split
    · rename_i n h
      have e : ((BitVec.ofInt 32 n).toNat : Int) = n := by simp [BitVec.toNat_ofInt]; omega
      have := Rel.w32 (σ := σ) (I := I) (w := w) (BitVec.ofInt 32 n); rwa [e] at this
    · exact .v _
  · split
    · rename_i n h
      have e : ((BitVec.ofInt 64 n).toNat : Int) = n := by simp [BitVec.toNat_ofInt]; omega
      have := Rel.w64 (σ := σ) (I := I) (w := w) (BitVec.ofInt 64 n); rwa [e] at this
    · exact .v _
  · exact .i _
  · exact .b _
  · rename_i s
    have e : encS (s.data.toList.map UInt8.toBitVec) = s := by
      simp [encS, List.map_map, Function.comp_def]
    have := Rel.s (σ := σ) (I := I) (w := w) (s.data.toList.map UInt8.toBitVec); rwa [e] at this
  · exact .v _

theorem isCell_ofV1 {x : Value} (h : x.oneCell' = true) : (ofV1 x).isCell = true := by
  unfold ofV1
  split <;> first | rfl | (split <;> first | rfl | exact h) | exact h

theorem rel_ofV (x : Value) : Rel σ I w (ofV x) x := by
  unfold ofV
  split
  · rename_i cs
    split
    · rename_i h
      refine .agg _ _ (by simp) (fun i hi => ?_) (fun i hi => ?_)
      · simp only [List.getElem_map]
        exact isCell_ofV1 (List.all_eq_true.1 h _ (List.getElem_mem _))
      · simp only [List.length_map, Array.length_toList] at hi
        simp only [List.getElem_map, Array.getElem_toList]
        rw [Array.getD_eq_getD_getElem?, Array.getElem?_eq_getElem hi]
        exact rel_ofV1 _
    · exact .v _
  · exact rel_ofV1 _

end
end Go.AX
