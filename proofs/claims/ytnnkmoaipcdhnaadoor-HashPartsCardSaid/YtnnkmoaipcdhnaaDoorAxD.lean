/-
  AX, part D: what operations do with abstract values and own objects.
-/
import Derived.Test.YtnnkmoaipcdhnaaDoorAxC
namespace Go.AX
open Go

def szOf (P : Program) (t : TypeId) : Option Nat := (P.info? t).map (·.size)
def byOf (P : Program) (t : TypeId) : Option Nat := (P.info? t).map (·.bytes)
def zcells (P : Program) (t : TypeId) : Option (List AV) :=
  match (P.info? t).bind (·.zero) with
  | some z => if z.cells.toList.all Value.oneCell' then some (z.cells.toList.map ofV1) else none
  | none => none
def isAggT (P : Program) (t : TypeId) : Option Bool :=
  (P.underlying t).map fun | .struct _ => true | .array _ _ => true | _ => false

def obind {α β : Type} (a : Option α) (f : α → Option β) : Option β := match a with | some x => f x | none => none
theorem obind_some {α β : Type} (x : α) (f : α → Option β) : obind (some x) f = f x := rfl
theorem obind_none {α β : Type} (f : α → Option β) : obind none f = none := rfl
theorem obind_inv {α β : Type} {a : Option α} {f : α → Option β} {y : β} (h : obind a f = some y) : ∃ x, a = some x ∧ f x = some y := by
  cases a with
  | none => cases h
  | some x => exact ⟨x, rfl, h⟩
def guardO {α : Type} (p : Prop) [Decidable p] (x : Option α) : Option α := if p then x else none
theorem guardO_inv {α : Type} {p : Prop} [Decidable p] {x : Option α} {y : α} (h : guardO p x = some y) : p ∧ x = some y := by
  unfold guardO at h
  split at h
  · exact ⟨‹_›, h⟩
  · cases h
theorem guardO_true {α : Type} {p : Prop} [Decidable p] (x : Option α) (h : p) : guardO p x = x := if_pos h

/-- The cells of a value that is stored. -/
def cellsV : AV → Option (List AV)
  | .agg xs => some xs
  | .tup _ | .junk => none
  | .v x => if x.oneCell' then some [.v x] else none
  | x => some [x]

def splice (xs : List AV) (off : Nat) (ys : List AV) : List AV := xs.take off ++ ys ++ xs.drop (off + ys.length)

/-- A variable of a type, read out of cells. -/
def ldV (P : Program) (t : TypeId) (ys : List AV) : Option AV :=
  obind (isAggT P t) fun g => if g then obind (szOf P t) fun n => guardO (n ≤ ys.length) (some (.agg (ys.take n))) else ys.head?

def fillA (place : Nat → Option (Nat × Nat)) : List AV → List (Nat × AV) → Option (List AV)
  | cells, [] => some cells
  | cells, (i, v) :: rest => obind (place i) fun os => obind (cellsV v) fun vc => guardO (vc.length = os.2 ∧ os.1 + os.2 ≤ cells.length) (fillA place (splice cells os.1 vc) rest)

/-- Parts that stand one behind the other, a cell each. -/
def seqA : Nat → List (Nat × AV) → Option (List AV)
  | _, [] => some []
  | k, (i, v) :: rest => guardO (i = k) (obind (match cellsV v with | some [c] => some c | _ => none) fun c => obind (seqA (k + 1) rest) fun r => some (c :: r))

def isBoolT (P : Program) (t : TypeId) : Bool := match P.underlying t with | some .bool => true | _ => false

def scal : AV → Bool
  | .w8 _ | .w16 _ | .w32 _ | .w64 _ | .i _ | .b _ | .s _ => true
  | _ => false

/-- Equality, along a type. -/
def eqItemsA (f : AV → AV → Option Bool) (g : Nat → List AV → Option AV) (xs ys : List AV) : List Nat → Option Bool
  | [] => some true
  | i :: r => obind (g i xs) fun a => obind (g i ys) fun b => obind (f a b) fun q => if q = true then eqItemsA f g xs ys r else some false
def eqFieldsA (P : Program) (f : TypeId → AV → AV → Option Bool) (xs ys : List AV) : List Field → Option Bool
  | [] => some true
  | fd :: r => if fd.name ≠ "_" then obind (ldV P fd.type (xs.drop fd.offset)) fun a => obind (ldV P fd.type (ys.drop fd.offset)) fun b => obind (f fd.type a b) fun q => if q = true then eqFieldsA P f xs ys r else some false
    else eqFieldsA P f xs ys r
def eqS (x y : AV) : Option Bool :=
  match x, y with
  | .w8 a, .w8 b => some (decide (a = b))
  | .w16 a, .w16 b => some (decide (a = b))
  | .w32 a, .w32 b => some (decide (a = b))
  | .w64 a, .w64 b => some (decide (a = b))
  | .i a, .i b => some (decide (a = b))
  | _, _ => none
def eqT (P : Program) : Nat → TypeId → AV → AV → Option Bool
  | 0, _, _, _ => none
  | d + 1, t, x, y => match P.underlying t with
    | some .bool => match x, y with | .b a, .b b => some (a == b) | _, _ => none
    | some (.int _) => eqS x y
    | some .string => match x, y with | .s a, .s b => some (decide (a = b)) | _, _ => none
    | some (.array n e) => obind (szOf P e) fun z => match x, y with
      | .agg xs, .agg ys => eqItemsA (eqT P d e) (fun i cs => ldV P e (cs.drop (i * z))) xs ys (List.range n)
      | _, _ => none
    | some (.struct fs) => match x, y with
      | .agg xs, .agg ys => guardO (P.stoodInHeld t = false) (eqFieldsA P (eqT P d) xs ys fs.toList)
      | _, _ => none
    | _ => none
def isPtrT (P : Program) (t : TypeId) : Bool := match P.underlying t with | some (.pointer _) => true | _ => false

def binT (P : Program) (op : BinOp) (t : TypeId) (x y : AV) : Option AV :=
  match x, y with
  | .b a, .b b => match op with
    | .eql => guardO (isBoolT P t = true) (some (.b (a == b)))
    | .neq => guardO (isBoolT P t = true) (some (.b (!(a == b))))
    | _ => none
  | .agg xs, .agg ys => match op with
    | .eql => guardO (P.eqGuardType P.depth t = false) (obind (eqT P 6 t (.agg xs) (.agg ys)) fun r => some (.b r))
    | .neq => guardO (P.eqGuardType P.depth t = false) (obind (eqT P 6 t (.agg xs) (.agg ys)) fun r => some (.b (!r)))
    | _ => none
  | .v (.pointer none), y => match op with
    | .eql => guardO (isPtrT P t = true) (obind (nilEq (.v (.pointer none)) y) fun r => some (.b r))
    | .neq => guardO (isPtrT P t = true) (obind (nilEq (.v (.pointer none)) y) fun r => some (.b (!r)))
    | _ => none
  | x, .v (.pointer none) => match op with
    | .eql => guardO (isPtrT P t = true) (obind (nilEq x (.v (.pointer none))) fun r => some (.b r))
    | .neq => guardO (isPtrT P t = true) (obind (nilEq x (.v (.pointer none))) fun r => some (.b (!r)))
    | _ => none
  | x, y => bin op x y

def loIx (v : Option AV) : Option Int := match v with | none => some 0 | some v => ix v
def hiIx (v : Option AV) (n : Nat) : Option Int := match v with | none => some n | some v => ix v

def sliceA (P : Program) (t : TypeId) (x : AV) (lo hi : Option AV) : Option AV :=
  match P.underlying t with
  | some (.slice e) => obind (szOf P e) fun z => match x with
    | .sl n xs => obind (loIx lo) fun l => obind (hiIx hi n) fun h => guardO (0 ≤ l ∧ l ≤ h ∧ h ≤ n) (some (.sl (h.toNat - l.toNat) ((xs.drop (l.toNat * z)).take ((h.toNat - l.toNat) * z))))
    | .os id off n e' g => obind (loIx lo) fun l => obind (hiIx hi n) fun h => guardO (e' = z ∧ 0 ≤ l ∧ l ≤ h ∧ h ≤ n) (some (.os id (off + l.toNat * z) (h.toNat - l.toNat) z g))
    | _ => none
  | some (.array n e) => obind (szOf P e) fun z => obind (loIx lo) fun l => obind (hiIx hi n) fun h => guardO (0 ≤ l ∧ l ≤ h ∧ h ≤ n) (match x with
    | .rp xs => some (.sl (h.toNat - l.toNat) ((xs.drop (l.toNat * z)).take ((h.toNat - l.toNat) * z)))
    | .op id off => some (.os id (off + l.toNat * z) (h.toNat - l.toNat) z false)
    | _ => none)
  | some .string => match x with
    | .s c => obind (loIx lo) fun l => obind (hiIx hi c.length) fun h => guardO (0 ≤ l ∧ l ≤ h ∧ h ≤ c.length) (some (.s ((c.drop l.toNat).take (h.toNat - l.toNat))))
    | _ => none
  | _ => none

def lenA (P : Program) (t : TypeId) (x : AV) : Option AV :=
  match P.underlying t with
  | some (.slice _) => match x with
    | .sl n _ => some (.i n)
    | .os _ _ n _ _ => some (.i n)
    | .v (.slice none 0 0) => some (.i 0)
    | _ => none
  | some .string => match x with | .s l => some (.i l.length) | _ => none
  | some (.array n _) => some (.i n)
  | _ => none

def min2A (x y : AV) : Option AV :=
  match x, y with
  | .i a, .i b => some (.i (if b < a then b else a))
  | .w8 a, .w8 b => some (.w8 (if b < a then b else a))
  | .w16 a, .w16 b => some (.w16 (if b < a then b else a))
  | .w32 a, .w32 b => some (.w32 (if b < a then b else a))
  | .w64 a, .w64 b => some (.w64 (if b < a then b else a))
  | _, _ => none
def max2A (x y : AV) : Option AV :=
  match x, y with
  | .i a, .i b => some (.i (if a < b then b else a))
  | .w8 a, .w8 b => some (.w8 (if a < b then b else a))
  | .w16 a, .w16 b => some (.w16 (if a < b then b else a))
  | .w32 a, .w32 b => some (.w32 (if a < b then b else a))
  | .w64 a, .w64 b => some (.w64 (if a < b then b else a))
  | _, _ => none

def callLen (P : Program) (c : Call) (ρ : Operand → AV) : Option AV :=
  match c.callee, c.args.toList, c.argTypes.toList with
  | .builtin .len, [x], t :: _ => lenA P t (ρ x)
  | .builtin .min, [x, y], _ => min2A (ρ x) (ρ y)
  | .builtin .max, [x, y], _ => max2A (ρ x) (ρ y)
  | _, _, _ => none

def pureOp (P : Program) (op : Op) (ρ : Operand → AV) : Option AV :=
  match op with
  | .move x => some (ρ x)
  | .assign x => some (ρ x)
  | .pick c a b => match ρ c with | .b t => some (if t then ρ a else ρ b) | _ => none
  | .nilCheck x => match ρ x with | .op id off => some (.op id off) | .rp xs => some (.rp xs) | _ => none
  | .binOp o t x y _ => binT P o t (ρ x) (ρ y)
  | .unOp o _ x => un o (ρ x)
  | .convert src dst x => obind (P.underlying src) fun _ => match P.underlying dst with
    | some (.int k) => toK k (ρ x)
    | some .string => match ρ x with | .s l => some (.s l) | _ => none
    | _ => none
  | .sliceToArrayPointer t x => match P.underlying t with
    | some (.array n _) => guardO (0 < n) (match ρ x with
      | .sl m xs => guardO (n ≤ m) (some (.rp xs))
      | .os id off m _ _ => guardO (n ≤ m) (some (.op id off))
      | _ => none)
    | _ => none
  | .fieldAddr s x f => match P.underlying s with
    | some (.struct fs) => obind fs[f]? fun fd => obind (szOf P fd.type) fun n => guardO (0 < n) (match ρ x with
      | .op id off => some (.op id (off + fd.offset))
      | .rp xs => some (.rp (xs.drop fd.offset))
      | _ => none)
    | _ => none
  | .field s x f => match P.underlying s with
    | some (.struct fs) => obind fs[f]? fun fd => match ρ x with
      | .agg cs => ldV P fd.type (cs.drop fd.offset)
      | _ => none
    | _ => none
  | .indexAddr t x j => obind (ix (ρ j)) fun j => match P.underlying t with
    | some (.slice e) => obind (szOf P e) fun z => match ρ x with
      | .sl n xs => guardO (0 ≤ j ∧ j < n) (some (.rp (xs.drop (j.toNat * z))))
      | .os id off n e' _ => guardO (e' = z ∧ 0 ≤ j ∧ j < n) (some (.op id (off + j.toNat * z)))
      | _ => none
    | some (.array n e) => obind (szOf P e) fun z => guardO (0 ≤ j ∧ j < n) (match ρ x with
      | .rp xs => some (.rp (xs.drop (j.toNat * z)))
      | .op id off => some (.op id (off + j.toNat * z))
      | _ => none)
    | _ => none
  | .index t x j => obind (ix (ρ j)) fun j => match P.underlying t with
    | some (.array n e) => obind (szOf P e) fun z => guardO (0 ≤ j ∧ j < n) (match ρ x with
      | .agg cs => ldV P e (cs.drop (j.toNat * z))
      | _ => none)
    | some .string => match ρ x with
      | .s l => guardO (0 ≤ j) (obind l[j.toNat]? fun c => some (.w8 c))
      | _ => none
    | _ => none
  | .build t parts => obind (zcells P t) fun zs => match P.underlying t with
    | some (.struct fs) => obind (fillA (fun k => obind fs[k]? fun fd => obind (szOf P fd.type) fun n => some (fd.offset, n)) zs (parts.toList.map fun p => (p.1, ρ p.2))) fun cs =>
        guardO (fs.toList.all (fun fd => (szOf P fd.type).isSome) = true) (some (.agg cs))
    | some (.array n e) => obind (szOf P e) fun z => match (if z = 1 ∧ zs.length = parts.size then seqA 0 (parts.toList.map fun p => (p.1, ρ p.2)) else none) with
      | some cs => some (.agg cs)
      | none => obind (fillA (fun k => some (k * z, z)) zs (parts.toList.map fun p => (p.1, ρ p.2))) fun cs => guardO (0 < n) (some (.agg cs))
    | _ => none
  | .makeFunc (.func f) first captured => guardO (first.size = 0) (some (.fn f (captured.toList.map ρ)))
  | .extract t k => match ρ t with | .tup xs => xs[k]? | _ => none
  | .slice t x lo hi none => sliceA P t (ρ x) (lo.map ρ) (hi.map ρ)
  | .call c => callLen P c ρ
  | _ => none

/-- A slice's cells, as they are now: how many elements, and the cells. -/
def slCells (hp : H) (z : Nat) (x : AV) : Option (Nat × List AV) :=
  match x with
  | .sl n xs => guardO (xs.length = n * z) (some (n, xs))
  | .os id off n e _ => obind (hp id) fun o => match o with
    | .cells xs _ => guardO (e = z ∧ off + n * z ≤ xs.length) (some (n, (xs.drop off).take (n * z)))
  | .v (.slice none 0 0) => some (0, [])
  | _ => none

def unW8 : List AV → Option (List (BitVec 8))
  | [] => some []
  | .w8 x :: r => obind (unW8 r) fun l => some (x :: l)
  | _ :: _ => none

def readOp (P : Program) (op : Op) (ρ : Operand → AV) (hp : H) : Option AV :=
  match op with
  | .load t x => match ρ x with
    | .rp ys => ldV P t ys
    | .op id off => obind (hp id) fun o => match o with | .cells xs _ => ldV P t (xs.drop off)
    | _ => none
  | .convert src dst x => match P.underlying src, P.underlying dst with
    | some (.slice e), some .string => match P.underlying e with
      | some (.int .u8) => obind (slCells hp 1 (ρ x)) fun nl => obind (unW8 nl.2) fun l => some (.s l)
      | _ => none
    | _, _ => none
  | _ => none

def rep (n : Nat) (zs : List AV) : List AV := (List.replicate n zs).flatten

def newOp (P : Program) (op : Op) (ρ : Operand → AV) (id : Nat) : Option (AV × List AV) :=
  match op with
  | .alloc t => obind (zcells P t) fun zs => some (.op id 0, zs)
  | .box _ x => obind (cellsV (ρ x)) fun cs => some (.op id 0, cs)
  | .buildSlice t len parts => match P.underlying t with
    | some (.slice e) => obind (szOf P e) fun z => guardO (0 < z ∧ len * z ≤ 16777216) (obind (zcells P e) fun zs => guardO (zs.length = z)
      (obind (fillA (fun k => some (k * z, z)) (rep len zs) (parts.toList.map fun p => (p.1, ρ p.2))) fun cs => some (.os id 0 len z true, cs)))
    | _ => none
  | .makeSlice t l c => match P.underlying t with
    | some (.slice e) => obind (szOf P e) fun z => obind (byOf P e) fun by_ => obind (zcells P e) fun zs => obind (ix (ρ l)) fun l => obind (ix (ρ c)) fun c =>
      guardO (0 < z ∧ zs.length = z ∧ 0 ≤ l ∧ l ≤ c ∧ c ≤ 140737488355328 ∧ c * by_ ≤ 140737488355328) (some (.os id 0 l.toNat z true, rep l.toNat zs))
    | _ => none
  | .convert src dst x => match P.underlying src, P.underlying dst with
    | some .string, some (.slice e) => match P.underlying e, ρ x with
      | some (.int .u8), .s l => guardO (l.length ≤ 140737488355328) (some (.os id 0 l.length 1 true, l.map .w8))
      | _, _ => none
    | _, _ => none
  | _ => none

def isOs : AV → Bool | .os _ _ _ _ _ => true | _ => false
def noOs (xs : List AV) : Bool := !(xs.any isOs)

/-- Own slices that are laid into another object are not written any more. -/
def frzRec (hp : H) : List AV → Option (List AV × H)
  | [] => some ([], hp)
  | x :: r => match x with
    | .os i off n e _ => obind (hp i) fun o => match o with
      | .cells xs _ => guardO (off + n * e ≤ xs.length) (obind (frzRec (upd hp i (.cells xs false)) r) fun p => some (.sl n ((xs.drop off).take (n * e)) :: p.1, p.2))
    | x => obind (frzRec hp r) fun p => some (x :: p.1, p.2)
def frzL (hp : H) (xs : List AV) : Option (List AV × H) := if noOs xs = true then some (xs, hp) else frzRec hp xs

def storeL (xs : List AV) (off : Nat) (cs : List AV) : List AV := match cs with | [c] => xs.set off c | cs => splice xs off cs

def srcA (hp : H) (z : Nat) (y : AV) : Option (Nat × List AV) :=
  match y with
  | .s l => guardO (z = 1) (some (l.length, l.map .w8))
  | y => slCells hp z y

/-- What an append comes to, its cells being known. -/
def apTail (z by_ : Nat) (x : AV) (m : Nat) (ys : List AV) (hp : H) (id : Nat) : Option (AV × H) :=
  match x with
    | .v (.slice none 0 0) => guardO (m ≤ 140737488355328 ∧ m * by_ ≤ 140737488355328) (some (.os id 0 m z true, upd hp id (.cells ys true)))
    | .os i off n e' g => obind (hp i) fun o => match o with
      | .cells xs mt => guardO (mt = true ∧ g = true ∧ e' = z ∧ off + n * z = xs.length ∧ n + m ≤ 140737488355328 ∧ (n + m) * by_ ≤ 140737488355328)
          (some (.os id 0 (n + m) z true, upd (del hp i) id (.cells (xs.drop off ++ ys) true)))
    | _ => none
def appendA (P : Program) (t : TypeId) (x y : AV) (hp : H) (id : Nat) : Option (AV × H) :=
  match P.underlying t with
  | some (.slice e) => obind (szOf P e) fun z => obind (byOf P e) fun by_ => obind (zcells P e) fun zs => guardO (0 < z ∧ zs.length = z) (obind (srcA hp z y) fun my => obind (frzL hp my.2) fun fy => apTail z by_ x my.1 fy.1 fy.2 id)
  | _ => none
def cntA : AV → Option Nat
  | .i n => guardO (0 ≤ n) (some n.toNat)
  | _ => none
/-- 'append(x, make([]T, n)...)'. -/
def appendZ (P : Program) (t : TypeId) (x y : AV) (hp : H) (id : Nat) : Option (AV × H) :=
  match P.underlying t with
  | some (.slice e) => obind (szOf P e) fun z => obind (byOf P e) fun by_ => obind (zcells P e) fun zs => guardO (0 < z ∧ zs.length = z) (obind (cntA y) fun m => guardO (m ≤ 140737488355328 ∧ m * by_ ≤ 140737488355328) (apTail z by_ x m (rep m zs) hp id))
  | _ => none
def isIntT (P : Program) (t : TypeId) : Bool := match P.underlying t with | some (.int _) => true | _ => false

def copyA (P : Program) (t : TypeId) (x y : AV) (hp : H) : Option (AV × H) :=
  match P.underlying t with
  | some (.slice e) => obind (szOf P e) fun z => obind (srcA hp z y) fun my => match x with
    | .os i off n e' _ => obind (hp i) fun o => match o with
      | .cells xs mt => guardO (mt = true ∧ e' = z ∧ off + n * z ≤ xs.length) (some (.i (min my.1 n : Nat), upd hp i (.cells (splice xs off (my.2.take (min my.1 n * z))) true)))
    | _ => none
  | _ => none

def noIntT (P : Program) (t : TypeId) : Bool := match P.underlying t with | some (.int _) => false | some _ => true | none => false

/-- '[]byte("..")' of a literal: the slice goes on as it is. -/
def markA (P : Program) (e : TypeId) (x : AV) (hp : H) : Option (AV × H) :=
  match P.underlying e with
  | some (.int .u8) => match x with
    | .os i off n e' g => obind (hp i) fun o => match o with
      | .cells xs mt => guardO (mt = true ∧ 0 < n) (some (.os i off n e' g, upd hp i (.cells xs true)))
    | _ => none
  | _ => none
def writeOp (P : Program) (op : Op) (ρ : Operand → AV) (hp : H) (id : Nat) : Option (AV × H) :=
  match op with
  | .store t a x => match ρ a with
    | .op i off => obind (cellsV (ρ x)) fun cs => obind (szOf P t) fun z => obind (hp i) fun o => match o with
      | .cells xs mt => guardO (mt = true ∧ cs.length = z ∧ off + z ≤ xs.length) (some (.junk, upd hp i (.cells (storeL xs off cs) true)))
    | _ => none
  | .convert src dst x => guardO (src = dst) (match P.underlying dst with
    | some (.slice e) => markA P e (ρ x) hp
    | _ => none)
  | .call c => match c.callee, c.args.toList, c.argTypes.toList with
    | .builtin .append, [x, y], [t, t'] => if noIntT P t' = true then appendA P t (ρ x) (ρ y) hp id else guardO (isIntT P t' = true) (appendZ P t (ρ x) (ρ y) hp id)
    | .builtin .copy, [x, y], [t, _] => copyA P t (ρ x) (ρ y) hp
    | _, _, _ => none
  | _ => none

inductive Cls where | pure | read | new | write | call
  deriving DecidableEq

def cls (P : Program) : Op → Cls
  | .convert src dst _ => match P.underlying src, P.underlying dst with
    | some (.slice _), some .string => .read
    | some .string, some (.slice _) => .new
    | some (.slice _), some (.slice _) => .write
    | _, _ => .pure
  | .load .. => .read
  | .alloc .. | .box .. | .buildSlice .. | .makeSlice .. => .new
  | .store .. => .write
  | .call c => match c.callee with
    | .builtin .append | .builtin .copy => .write
    | .builtin _ => .pure
    | _ => .call
  | _ => .pure

end Go.AX
