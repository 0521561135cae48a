/-
  AX, part A: abstract values, what they say of a world, and how that is kept. AX, part B: what plain operations do with abstract values. AX, part C: plain operations on abstract values say what the model's do. AX, part D: what operations do with abstract values and own objects. AX, part E: operations on abstract values say what the model's do: those that write nothing. AX, part F: parts laid into cells; the plain operations.
-/
import Derived.WalkKit
import Derived.MapKept
import Derived.ChangeKeysEq
namespace Go.AX
open Go

/-- Abstract values. 'sl', 'rp': a slice, a pointer whose cells nobody writes any more. 'os', 'op': a slice of, a pointer into an object of the run's own. -/
inductive AV where
  | w8 (x : BitVec 8) | w16 (x : BitVec 16) | w32 (x : BitVec 32) | w64 (x : BitVec 64)
  | i (n : Int) | b (x : Bool) | s (l : List (BitVec 8)) | v (x : Value)
  | agg (xs : List AV) | tup (xs : List AV)
  | sl (n : Nat) (xs : List AV) | rp (xs : List AV)
  | os (id off n e : Nat) (g : Bool) | op (id off : Nat) | mp (id : Nat)
  | fn (f : FuncId) (cap : List AV) | junk
  deriving Inhabited

inductive Loc where
  | unset | nil | at_ (blk base sz : Nat)

def encS (l : List (BitVec 8)) : ByteArray := ⟨(l.map UInt8.ofBitVec).toArray⟩

def AV.isCell : AV → Bool
  | .agg _ | .tup _ | .junk => false
  | .v x => x.oneCell'
  | _ => true

inductive Rel (σ : Nat → Loc) (I : Nat → Prop) (w : World) : AV → Value → Prop
  | w8 (x) : Rel σ I w (.w8 x) (.int .u8 x.toNat)
  | w16 (x) : Rel σ I w (.w16 x) (.int .u16 x.toNat)
  | w32 (x) : Rel σ I w (.w32 x) (.int .u32 x.toNat)
  | w64 (x) : Rel σ I w (.w64 x) (.int .u64 x.toNat)
  | i (n) : Rel σ I w (.i n) (.int .i64 n)
  | b (x) : Rel σ I w (.b x) (.bool x)
  | s (l) : Rel σ I w (.s l) (.string (encS l))
  | v (x) : Rel σ I w (.v x) x
  | agg (xs : List AV) (vs : Array Value) : vs.size = xs.length → (∀ i (_h : i < xs.length), xs[i].isCell = true) →
      (∀ i (h : i < xs.length), Rel σ I w xs[i] (vs.getD i undef)) → Rel σ I w (.agg xs) (.agg vs)
  | tup (xs : List AV) (vs : Array Value) : vs.size = xs.length →
      (∀ i (h : i < xs.length), Rel σ I w xs[i] (vs.getD i undef)) → Rel σ I w (.tup xs) (.tuple vs)
  | sl (n xs blk o cap) (f : Nat → Value) : I blk → n ≤ cap → (∀ i (_ : i < xs.length), w.cell? ⟨blk, o + i, none⟩ = some (f i)) →
      (∀ i (_h : i < xs.length), xs[i].isCell = true) → (∀ i (h : i < xs.length), Rel σ I w xs[i] (f i)) → Rel σ I w (.sl n xs) (.slice (some ⟨blk, o, none⟩) n cap)
  | slnil : Rel σ I w (.sl 0 []) (.slice none 0 0)
  | slzero (a : Addr) : Rel σ I w (.sl 0 []) (.slice (some a) 0 0)
  | rp (xs blk o) (f : Nat → Value) : I blk → (∀ i (_ : i < xs.length), w.cell? ⟨blk, o + i, none⟩ = some (f i)) →
      (∀ i (_h : i < xs.length), xs[i].isCell = true) → (∀ i (h : i < xs.length), Rel σ I w xs[i] (f i)) → Rel σ I w (.rp xs) (.pointer (some ⟨blk, o, none⟩))
  | os (id off n e g blk base sz cap) : σ id = .at_ blk base sz → n ≤ cap → (g = true → base + off + cap * e ≤ sz) → Rel σ I w (.os id off n e g) (.slice (some ⟨blk, base + off, none⟩) n cap)
  | osnil (id e g) : σ id = .nil → Rel σ I w (.os id 0 0 e g) (.slice none 0 0)
  | oszero (id off e g) (a : Addr) : σ id ≠ .unset → Rel σ I w (.os id off 0 e g) (.slice (some a) 0 0)
  | op (id off blk base sz) : σ id = .at_ blk base sz → Rel σ I w (.op id off) (.pointer (some ⟨blk, base + off, none⟩))
  | mp (id blk) : σ id = .at_ blk 0 0 → Rel σ I w (.mp id) (.map (some blk))
  | fn (f) (xs : List AV) (vs : Array Value) : vs.size = xs.length → (∀ i (h : i < xs.length), Rel σ I w xs[i] (vs.getD i undef)) → Rel σ I w (.fn f xs) (.func (.func f) #[] vs)
  | junk (x) : Rel σ I w .junk x

theorem Rel.mono {σ σ' : Nat → Loc} {I I' : Nat → Prop} {w w' : World} {x : AV} {y : Value} (h : Rel σ I w x y)
    (hσ : ∀ id, σ id ≠ .unset → σ' id = σ id) (hI : ∀ k, I k → I' k) (hw : ∀ k, I k → w'.heap[k]? = w.heap[k]?) : Rel σ' I' w' x y := by
  induction h with
  | w8 => exact .w8 _
  | w16 => exact .w16 _
  | w32 => exact .w32 _
  | w64 => exact .w64 _
  | i => exact .i _
  | b => exact .b _
  | s => exact .s _
  | v => exact .v _
  | agg xs vs h1 h2 _ ih => exact .agg xs vs h1 h2 ih
  | tup xs vs h1 _ ih => exact .tup xs vs h1 ih
  | sl n xs blk o cap f hb hn hc h2 _ ih =>
    exact .sl n xs blk o cap f (hI _ hb) hn (fun i h => by rw [World.cell?_of_block (w := w) (hw _ hb)]; exact hc i h) h2 ih
  | slnil => exact .slnil
  | slzero a => exact .slzero a
  | rp xs blk o f hb hc h2 _ ih =>
    exact .rp xs blk o f (hI _ hb) (fun i h => by rw [World.cell?_of_block (w := w) (hw _ hb)]; exact hc i h) h2 ih
  | os id off n e g blk base sz cap h1 h2 h3 => exact .os id off n e g blk base sz cap (by rw [hσ _ (by simp [h1]), h1]) h2 h3
  | osnil id e g h1 => exact .osnil id e g (by rw [hσ _ (by simp [h1]), h1])
  | oszero id off e g a h1 => exact .oszero id off e g a (by rw [hσ _ h1]; exact h1)
  | op id off blk base sz h1 => exact .op id off blk base sz (by rw [hσ _ (by simp [h1]), h1])
  | mp id blk h1 => exact .mp id blk (by rw [hσ _ (by simp [h1]), h1])
  | fn f xs vs h1 _ ih => exact .fn f xs vs h1 ih
  | junk x => exact .junk x

/-- The greatest name of an own object that a value speaks of, and one. -/
def AV.ids : AV → Nat
  | .agg xs | .tup xs | .sl _ xs | .rp xs | .fn _ xs => idsL xs
  | .os id _ _ _ _ | .op id _ | .mp id => id + 1
  | _ => 0
where idsL : List AV → Nat
  | [] => 0
  | x :: r => max (AV.ids x) (idsL r)

theorem AV.ids_get (xs : List AV) : ∀ i (h : i < xs.length), AV.ids xs[i] ≤ AV.ids.idsL xs := by
  induction xs with
  | nil => intro i h; simp at h
  | cons x r ih =>
    intro i h
    cases i with
    | zero => simp only [List.getElem_cons_zero, AV.ids.idsL]; omega
    | succ k => simp only [List.getElem_cons_succ, AV.ids.idsL]; have := ih k (by simpa using h); omega

theorem Rel.congr_ids {σ σ' : Nat → Loc} {I : Nat → Prop} {w : World} {x : AV} {y : Value} (h : Rel σ I w x y)
    (hσ : ∀ id, id < x.ids → σ' id = σ id) : Rel σ' I w x y := by
  induction h with
  | w8 => exact .w8 _
  | w16 => exact .w16 _
  | w32 => exact .w32 _
  | w64 => exact .w64 _
  | i => exact .i _
  | b => exact .b _
  | s => exact .s _
  | v => exact .v _
  | agg xs vs h1 h2 _ ih => exact .agg xs vs h1 h2 fun i h => ih i h fun id hid => hσ id (Nat.lt_of_lt_of_le hid (AV.ids_get xs i h))
  | tup xs vs h1 _ ih => exact .tup xs vs h1 fun i h => ih i h fun id hid => hσ id (Nat.lt_of_lt_of_le hid (AV.ids_get xs i h))
  | sl n xs blk o cap f hb hn hc h2 _ ih =>
    exact .sl n xs blk o cap f hb hn hc h2 fun i h => ih i h fun id hid => hσ id (Nat.lt_of_lt_of_le hid (AV.ids_get xs i h))
  | slnil => exact .slnil
  | slzero a => exact .slzero a
  | rp xs blk o f hb hc h2 _ ih =>
    exact .rp xs blk o f hb hc h2 fun i h => ih i h fun id hid => hσ id (Nat.lt_of_lt_of_le hid (AV.ids_get xs i h))
  | os id off n e g blk base sz cap h1 h2 h3 => exact .os id off n e g blk base sz cap (by rw [hσ _ (by simp [AV.ids]), h1]) h2 h3
  | osnil id e g h1 => exact .osnil id e g (by rw [hσ _ (by simp [AV.ids]), h1])
  | oszero id off e g a h1 => exact .oszero id off e g a (by rw [hσ _ (by simp [AV.ids])]; exact h1)
  | op id off blk base sz h1 => exact .op id off blk base sz (by rw [hσ _ (by simp [AV.ids]), h1])
  | mp id blk h1 => exact .mp id blk (by rw [hσ _ (by simp [AV.ids]), h1])
  | fn f xs vs h1 _ ih => exact .fn f xs vs h1 fun i h => ih i h fun id hid => hσ id (Nat.lt_of_lt_of_le hid (AV.ids_get xs i h))
  | junk x => exact .junk x

theorem Rel.oneCell {σ : Nat → Loc} {I : Nat → Prop} {w : World} {x : AV} {y : Value} (h : Rel σ I w x y) (hc : x.isCell = true) : y.oneCell' = true := by
  cases h <;> simp_all [AV.isCell, Value.oneCell']

/-- Values that speak of no memory. -/
def AV.noMem : AV → Bool
  | .w8 _ | .w16 _ | .w32 _ | .w64 _ | .i _ | .b _ | .s _ | .v _ => true
  | .agg xs | .tup xs => noMemL xs
  | _ => false
where noMemL : List AV → Bool
  | [] => true
  | x :: r => AV.noMem x && noMemL r

theorem AV.noMem_get (xs : List AV) : AV.noMem.noMemL xs = true → ∀ i (h : i < xs.length), AV.noMem xs[i] = true := by
  induction xs with
  | nil => intro _ i h; simp at h
  | cons x r ih =>
    intro hn i h
    simp only [AV.noMem.noMemL, Bool.and_eq_true] at hn
    cases i with
    | zero => exact hn.1
    | succ k => exact ih hn.2 k (by simpa using h)

theorem Rel.noMem {σ σ' : Nat → Loc} {I I' : Nat → Prop} {w w' : World} {x : AV} {y : Value} (h : Rel σ I w x y) (hn : x.noMem = true) : Rel σ' I' w' x y := by
  induction h with
  | w8 => exact .w8 _
  | w16 => exact .w16 _
  | w32 => exact .w32 _
  | w64 => exact .w64 _
  | i => exact .i _
  | b => exact .b _
  | s => exact .s _
  | v => exact .v _
  | agg xs vs h1 h2 _ ih => exact .agg xs vs h1 h2 fun i h => ih i h (AV.noMem_get xs hn i h)
  | tup xs vs h1 _ ih => exact .tup xs vs h1 fun i h => ih i h (AV.noMem_get xs hn i h)
  | _ => simp [AV.noMem] at hn

/-- Own objects: a row of cells, that may still be written (mt) or not. -/
inductive AO where
  | cells (xs : List AV) (mt : Bool)
  | mapo (es : List (AV × AV)) (mt : Bool)
  deriving Inhabited
def AO.mt : AO → Bool | .cells _ mt => mt | .mapo _ mt => mt

abbrev H := Nat → Option AO
def upd (h : H) (id : Nat) (o : AO) : H := fun k => if k = id then some o else h k
def del (h : H) (id : Nat) : H := fun k => if k = id then none else h k

theorem upd_apply (h : H) (id : Nat) (o : AO) (k : Nat) : upd h id o k = if k = id then some o else h k := rfl
theorem del_apply (h : H) (id : Nat) (k : Nat) : del h id k = if k = id then none else h k := rfl

/-- None of a block's cells is frozen (what is frozen lies behind them). -/
structure Unfz (lo hi sz : Nat) : Prop where
  le : lo ≤ hi
  out : ∀ o, o < sz → ¬ (lo ≤ o ∧ o < hi)

/-- The block's cells, as an own object's row has them. -/
structure RowAt (σ : Nat → Loc) (I : Nat → Prop) (w : World) (xs : List AV) (blk base sz : Nat) : Prop where
  ex : ∃ c T lo hi, w.heap[blk]? = some (.cells c T (lo, hi)) ∧ c.size = sz ∧ base + xs.length ≤ sz ∧ Unfz lo hi sz ∧
    (∀ i (h : i < xs.length), Rel σ I w xs[i] (c.getD (base + i) undef))
  cell : ∀ i (h : i < xs.length), xs[i].isCell = true

/-- The block's map, as an own object's row of entries has it. -/
structure MapRow (σ : Nat → Loc) (I : Nat → Prop) (w : World) (es : List (AV × AV)) (blk : Nat) : Prop where
  ex : ∃ (ents : Array MapEntry) (clock : Nat), w.heap[blk]? = some (.map ents clock) ∧ ents.size = es.length ∧ Go.MapKept.Stamped ents clock ∧
    ∀ i (h : i < es.length), es[i].1.noMem = true ∧ Rel σ I w es[i].1 (ents.getD i default).key ∧ Rel σ I w es[i].2 (ents.getD i default).val
theorem MapRow.mono {σ σ' : Nat → Loc} {I I' : Nat → Prop} {w w' : World} {es : List (AV × AV)} {blk : Nat} (h : MapRow σ I w es blk)
    (hσ : ∀ id, σ id ≠ .unset → σ' id = σ id) (hI : ∀ k, I k → I' k) (hw : ∀ k, I k → w'.heap[k]? = w.heap[k]?) (hb : w'.heap[blk]? = w.heap[blk]?) : MapRow σ' I' w' es blk := by
  obtain ⟨⟨ents, cl, h1, h2, h3, h5⟩⟩ := h
  exact ⟨⟨ents, cl, by rw [hb]; exact h1, h2, h3, fun i hi => ⟨(h5 i hi).1, (h5 i hi).2.1.mono hσ hI hw, (h5 i hi).2.2.mono hσ hI hw⟩⟩⟩

def OwnRel (σ : Nat → Loc) (I : Nat → Prop) (w : World) (id : Nat) : AO → Prop
  | .mapo es mt => ∃ blk, σ id = .at_ blk 0 0 ∧ MapRow σ I w es blk ∧ (mt = true → ¬ I blk) ∧ (mt = false → I blk)
  | .cells xs mt => match σ id with
    | .unset => False
    | .nil => xs = []
    | .at_ blk base sz => RowAt σ I w xs blk base sz ∧ (mt = true → ¬ I blk) ∧ (mt = false → I blk)

structure Ctx where
  w0 : World
  σ0 : Nat → Loc
  I0 : Nat → Prop
  O : Nat → Prop
  GL : Nat → Option (List AV)
  nt : Nat
  u0 : Nat → Prop
  df : List Deferred := []

structure Inv (c : Ctx) (σ : Nat → Loc) (I : Nat → Prop) (w : World) (hp : H) (un : Nat → Prop) : Prop where
  ext : ∀ id, c.σ0 id ≠ .unset → σ id = c.σ0 id
  imm : ∀ k, c.I0 k → I k
  iw : ∀ k, c.I0 k → w.heap[k]? = c.w0.heap[k]?
  os : w.os = c.w0.os
  tape : w.tape = c.w0.tape
  output : w.output = c.w0.output
  size : c.w0.heap.size ≤ w.heap.size
  old : ∀ k, k < c.w0.heap.size → ¬ c.O k → w.heap[k]? = c.w0.heap[k]?
  ilt : ∀ k, I k → k < w.heap.size
  own : ∀ id o, hp id = some o → OwnRel σ I w id o
  inj : ∀ id id' o o' blk base sz base' sz', hp id = some o → o.mt = true → hp id' = some o' → id ≠ id' → σ id = .at_ blk base sz → σ id' ≠ .at_ blk base' sz'
  lim : ∀ id o blk base sz, hp id = some o → o.mt = true → σ id = .at_ blk base sz → c.w0.heap.size ≤ blk ∨ c.O blk
  un : ∀ id, un id → σ id = .unset
  glob : ∀ g xs, c.GL g = some xs → Rel σ I w (.rp xs) (.pointer (some ⟨g, 0, none⟩))
  inew : ∀ k, I k → c.I0 k ∨ c.w0.heap.size ≤ k ∨ c.O k

theorem Inv.none_un {c : Ctx} {σ : Nat → Loc} {I : Nat → Prop} {w : World} {hp : H} {un : Nat → Prop} (h : Inv c σ I w hp un) {id : Nat} (hu : un id) : hp id = none := by
  cases ho : hp id with
  | none => rfl
  | some o => have := h.own id o ho; cases o <;> simp [OwnRel, h.un id hu] at this

theorem Inv.mono_un {c : Ctx} {σ : Nat → Loc} {I : Nat → Prop} {w : World} {hp : H} {un un' : Nat → Prop} (h : Inv c σ I w hp un) (hu : ∀ id, un' id → un id) : Inv c σ I w hp un' :=
  { h with un := fun id hi => h.un id (hu id hi) }

theorem RowAt.mono {σ σ' : Nat → Loc} {I I' : Nat → Prop} {w w' : World} {xs : List AV} {blk base sz : Nat} (h : RowAt σ I w xs blk base sz)
    (hσ : ∀ id, σ id ≠ .unset → σ' id = σ id) (hI : ∀ k, I k → I' k) (hw : ∀ k, I k → w'.heap[k]? = w.heap[k]?) (hb : w'.heap[blk]? = w.heap[blk]?) : RowAt σ' I' w' xs blk base sz := by
  obtain ⟨⟨c, T, lo, hi, h1, h2, h3, h4, h5⟩, h6⟩ := h
  exact ⟨⟨c, T, lo, hi, by rw [hb]; exact h1, h2, h3, h4, fun i hi => (h5 i hi).mono hσ hI hw⟩, h6⟩

/-- The world goes on in a way that concerns no heap (a draw). -/
theorem Inv.world {c : Ctx} {σ : Nat → Loc} {I : Nat → Prop} {w w' : World} {hp : H} {un : Nat → Prop} (h : Inv c σ I w hp un)
    (h1 : w'.heap = w.heap) (h2 : w'.os = w.os) (h3 : w'.tape = w.tape) (h4 : w'.output = w.output) : Inv c σ I w' hp un where
  ext := h.ext
  imm := h.imm
  iw := fun k hk => by rw [h1]; exact h.iw k hk
  os := by rw [h2]; exact h.os
  tape := by rw [h3]; exact h.tape
  output := by rw [h4]; exact h.output
  size := by rw [h1]; exact h.size
  old := fun k a b => by rw [h1]; exact h.old k a b
  ilt := fun k hk => by rw [h1]; exact h.ilt k hk
  own := fun id o ho => by
    have := h.own id o ho
    cases o with
    | cells xs mt =>
      simp only [OwnRel] at this ⊢
      split
      · rename_i e; simp [e] at this
      · rename_i e; simpa [e] using this
      · rename_i blk base sz e
        simp only [e] at this
        exact ⟨this.1.mono (fun _ _ => rfl) (fun _ h => h) (fun k _ => by rw [h1]) (by rw [h1]), this.2⟩
    | mapo es mt =>
      obtain ⟨blk, b1, b2, b3⟩ := this
      exact ⟨blk, b1, b2.mono (fun _ _ => rfl) (fun _ h => h) (fun k _ => by rw [h1]) (by rw [h1]), b3⟩
  inj := h.inj
  lim := h.lim
  un := h.un
  glob := fun g xs hg => (h.glob g xs hg).mono (fun _ _ => rfl) (fun _ h => h) (fun k _ => by rw [h1])
  inew := h.inew

theorem Rel.world {σ : Nat → Loc} {I : Nat → Prop} {w w' : World} {x : AV} {y : Value} (h : Rel σ I w x y) (h1 : w'.heap = w.heap) : Rel σ I w' x y :=
  h.mono (fun _ _ => rfl) (fun _ h => h) (fun k _ => by rw [h1])

/-- Where own objects are forgotten, what is known of the others stays. -/
theorem Inv.sub {c : Ctx} {σ : Nat → Loc} {I : Nat → Prop} {w : World} {hp hp' : H} {un : Nat → Prop} (h : Inv c σ I w hp un) (hs : ∀ id o, hp' id = some o → hp id = some o) : Inv c σ I w hp' un :=
  { h with
    own := fun id o ho => h.own id o (hs id o ho)
    inj := fun id id' o o' blk base sz base' sz' a m b => h.inj id id' o o' blk base sz base' sz' (hs _ _ a) m (hs _ _ b)
    lim := fun id o blk base sz a => h.lim id o blk base sz (hs _ _ a) }

def setLoc (σ : Nat → Loc) (id : Nat) (l : Loc) : Nat → Loc := fun k => if k = id then l else σ k

theorem setLoc_ext {σ : Nat → Loc} {id : Nat} {l : Loc} (h : σ id = .unset) : ∀ k, σ k ≠ .unset → setLoc σ id l k = σ k := by
  intro k hk
  unfold setLoc
  split
  · rename_i e; subst e; exact absurd h hk
  · rfl

theorem heap_push_old (w : World) (o : Obj) (k : Nat) (h : k < w.heap.size) : (w.alloc o).heap[k]? = w.heap[k]? := Go.RowKit.Below.heap_alloc w o k h
theorem heap_push_new (w : World) (o : Obj) : (w.alloc o).heap[w.heap.size]? = some o := by show (w.heap.push o)[w.heap.size]? = _; rw [Array.getElem?_push, if_pos rfl]

theorem OwnRel.mono {σ σ' : Nat → Loc} {I I' : Nat → Prop} {w w' : World} {id : Nat} {o : AO} (h : OwnRel σ I w id o)
    (hσ : ∀ id, σ id ≠ .unset → σ' id = σ id) (hI : ∀ k, I k → I' k) (hw : ∀ k, I k → w'.heap[k]? = w.heap[k]?)
    (hb : ∀ blk base sz, σ id = .at_ blk base sz → w'.heap[blk]? = w.heap[blk]? ∧ (o.mt = true → ¬ I blk → ¬ I' blk)) : OwnRel σ' I' w' id o := by
  cases o with
  | cells xs mt =>
    simp only [OwnRel] at h ⊢
    cases e : σ id with
    | unset => simp [e] at h
    | nil => rw [hσ id (by simp [e]), e]; simpa [e] using h
    | at_ blk base sz =>
      rw [hσ id (by simp [e]), e]
      simp only [e] at h
      obtain ⟨b1, b2⟩ := hb blk base sz e
      exact ⟨h.1.mono hσ hI hw b1, fun hm => b2 hm (h.2.1 hm), fun hm => hI _ (h.2.2 hm)⟩
  | mapo es mt =>
    obtain ⟨blk, a1, a2, a3, a4⟩ := h
    obtain ⟨b1, b2⟩ := hb blk 0 0 a1
    exact ⟨blk, by rw [hσ id (by simp [a1]), a1], a2.mono hσ hI hw b1, fun hm => b2 hm (a3 hm), fun hm => hI _ (a4 hm)⟩

theorem OwnRel.lt {σ : Nat → Loc} {I : Nat → Prop} {w : World} {id : Nat} {o : AO} (h : OwnRel σ I w id o) {blk base sz : Nat} (e : σ id = .at_ blk base sz) : blk < w.heap.size := by
  cases o with
  | cells xs mt =>
    simp only [OwnRel, e] at h
    obtain ⟨⟨⟨c, T, lo, hi, h1, _⟩, _⟩, _⟩ := h
    exact (Array.getElem?_eq_some_iff.1 h1).1
  | mapo es mt =>
    obtain ⟨blk', a1, ⟨⟨ents, cl, h1, _⟩⟩, _⟩ := h
    rw [a1] at e; cases e
    exact (Array.getElem?_eq_some_iff.1 h1).1
theorem OwnRel.fz {σ : Nat → Loc} {I : Nat → Prop} {w : World} {id : Nat} {o : AO} (h : OwnRel σ I w id o) (hm : o.mt = false) {blk base sz : Nat} (e : σ id = .at_ blk base sz) : I blk := by
  cases o with
  | cells xs mt => simp only [OwnRel, e] at h; exact h.2.2 hm
  | mapo es mt =>
    obtain ⟨blk', a1, _, _, a4⟩ := h
    rw [a1] at e; cases e
    exact a4 hm

/-- An own object's row is another one: it stays apart from the others. -/
theorem Inv.updIL {c : Ctx} {σ : Nat → Loc} {I : Nat → Prop} {w : World} {hp : H} {un : Nat → Prop} (h : Inv c σ I w hp un) {id : Nat} {o : AO} (ho : hp id = some o) (o' : AO) (hm : o'.mt = true → o.mt = true) :
    (∀ k k' o1 o2 blk base sz base' sz', upd hp id o' k = some o1 → o1.mt = true → upd hp id o' k' = some o2 → k ≠ k' → σ k = .at_ blk base sz → σ k' ≠ .at_ blk base' sz') ∧
    (∀ k o1 blk base sz, upd hp id o' k = some o1 → o1.mt = true → σ k = .at_ blk base sz → c.w0.heap.size ≤ blk ∨ c.O blk) := by
  have f : ∀ k o1, upd hp id o' k = some o1 → ∃ o2, hp k = some o2 ∧ (o1.mt = true → o2.mt = true) := by
    intro k o1 hk
    rw [upd_apply] at hk
    split at hk
    · rename_i e; subst e
      obtain rfl := Option.some.inj hk
      exact ⟨o, ho, hm⟩
    · exact ⟨o1, hk, fun h => h⟩
  refine ⟨fun k k' o1 o2 blk base sz base' sz' a m b hne e => ?_, fun k o1 blk base sz a m e => ?_⟩
  · obtain ⟨p, p1, p2⟩ := f k o1 a
    obtain ⟨q, q1, _⟩ := f k' o2 b
    exact h.inj k k' p q blk base sz base' sz' p1 (p2 m) q1 hne e
  · obtain ⟨p, p1, p2⟩ := f k o1 a
    exact h.lim k p blk base sz p1 (p2 m) e

theorem Inv.blkNew {c : Ctx} {σ : Nat → Loc} {I : Nat → Prop} {w : World} {hp : H} {un : Nat → Prop} (h : Inv c σ I w hp un) {id : Nat} {o : AO} {k base sz : Nat} (ho : hp id = some o) (e : σ id = .at_ k base sz) : c.I0 k ∨ c.w0.heap.size ≤ k ∨ c.O k := by
  cases hm : o.mt with
  | true => exact .inr (h.lim id o k base sz ho hm e)
  | false => exact h.inew k ((h.own id o ho).fz hm e)
/-- A new block of cells becomes an own object. -/
theorem Inv.alloc {c : Ctx} {σ : Nat → Loc} {I : Nat → Prop} {w : World} {hp : H} {un : Nat → Prop} (h : Inv c σ I w hp un) {id : Nat} (hu : un id)
    (cs : Array Value) (T : TypeId) (fr : Nat × Nat) (hfr : Unfz fr.1 fr.2 cs.size) (xs : List AV) (hl : xs.length ≤ cs.size) (hc : ∀ i (h : i < xs.length), xs[i].isCell = true) (hr : ∀ i (h : i < xs.length), Rel σ I w xs[i] (cs.getD i undef)) :
    Inv c (setLoc σ id (.at_ w.heap.size 0 cs.size)) I (w.alloc (.cells cs T fr)) (upd hp id (.cells xs true)) (fun k => un k ∧ k ≠ id) := by
  have hσ := setLoc_ext (l := .at_ w.heap.size 0 cs.size) (h.un id hu)
  have hw : ∀ k, I k → (w.alloc (.cells cs T fr)).heap[k]? = w.heap[k]? := fun k hk => heap_push_old w _ k (h.ilt k hk)
  have hnI : ¬ I w.heap.size := fun hk => Nat.lt_irrefl _ (h.ilt _ hk)
  refine ⟨fun k hk => ?_, h.imm, fun k hk => ?_, h.os, h.tape, h.output, by simp only [World.size_alloc]; have := h.size; omega, fun k hk ho => ?_, fun k hk => by simp only [World.size_alloc]; have := h.ilt k hk; omega, ?_, ?_, ?_, ?_, fun g ys hg => (h.glob g ys hg).mono hσ (fun _ h => h) hw, h.inew⟩
  · have := h.ext k hk
    rw [hσ k (by rw [this]; exact hk), this]
  · rw [hw k (h.imm k hk)]; exact h.iw k hk
  · rw [heap_push_old w _ k (by have := h.size; omega)]; exact h.old k hk ho
  · intro k o ho
    rw [upd_apply] at ho
    split at ho
    · rename_i e; subst e
      obtain rfl := Option.some.inj ho
      simp only [OwnRel, setLoc, if_true]
      refine ⟨⟨⟨cs, T, fr.1, fr.2, heap_push_new w _, rfl, by omega, hfr, fun i hi => ?_⟩, hc⟩, fun _ => hnI, fun hm => by simp at hm⟩
      rw [Nat.zero_add]
      exact (hr i hi).mono hσ (fun _ h => h) hw
    · exact (h.own k o ho).mono hσ (fun _ h => h) hw fun blk base sz e => ⟨heap_push_old w _ blk ((h.own k o ho).lt e), fun _ h => h⟩
  · intro k k' o1 o' blk base sz base' sz' ho hm ho' hne e e'
    have lt : ∀ k o blk base sz, k ≠ id → hp k = some o → setLoc σ id (.at_ w.heap.size 0 cs.size) k = .at_ blk base sz → σ k = .at_ blk base sz ∧ blk < w.heap.size := by
      intro k o blk base sz hk hp e
      simp only [setLoc, if_neg hk] at e
      exact ⟨e, (h.own k o hp).lt e⟩
    rw [upd_apply] at ho ho'
    by_cases ek : k = id
    · have ek' : k' ≠ id := fun e2 => hne (by rw [ek, e2])
      rw [if_neg ek'] at ho'
      have := (lt k' o' blk base' sz' ek' ho' e').2
      subst ek
      simp only [setLoc, if_true, Loc.at_.injEq] at e
      omega
    · rw [if_neg ek] at ho
      have h1 := lt k _ blk base sz ek ho e
      by_cases ek' : k' = id
      · subst ek'
        simp only [setLoc, if_true, Loc.at_.injEq] at e'
        omega
      · rw [if_neg ek'] at ho'
        have h2 := lt k' _ blk base' sz' ek' ho' e'
        exact h.inj k k' o1 o' blk base sz base' sz' ho hm ho' hne h1.1 h2.1
  · intro k o1 blk base sz ho hm e
    rw [upd_apply] at ho
    split at ho
    · rename_i ek; subst ek
      simp only [setLoc, if_true, Loc.at_.injEq] at e
      left; have := h.size; omega
    · rename_i ek
      simp only [setLoc, if_neg ek] at e
      exact h.lim k o1 blk base sz ho hm e
  · intro k ⟨hk, hne⟩
    simp only [setLoc, if_neg hne]
    exact h.un k hk

/-- An own object that is nil. -/
theorem Inv.newNil {c : Ctx} {σ : Nat → Loc} {I : Nat → Prop} {w : World} {hp : H} {un : Nat → Prop} (h : Inv c σ I w hp un) {id : Nat} (hu : un id) :
    Inv c (setLoc σ id .nil) I w (upd hp id (.cells [] true)) (fun k => un k ∧ k ≠ id) := by
  have hσ := setLoc_ext (l := .nil) (h.un id hu)
  have hne : ∀ k o, hp k = some o → k ≠ id := fun k o ho e => by subst e; rw [h.none_un hu] at ho; cases ho
  refine { h with ext := fun k hk => ?_, own := fun k o ho => ?_, inj := ?_, lim := ?_, un := ?_, glob := fun g ys hg => (h.glob g ys hg).mono hσ (fun _ h => h) fun _ _ => rfl }
  · have := h.ext k hk
    rw [hσ k (by rw [this]; exact hk), this]
  · rw [upd_apply] at ho
    split at ho
    · rename_i e; subst e
      obtain rfl := Option.some.inj ho
      simp [OwnRel, setLoc]
    · exact (h.own k o ho).mono hσ (fun _ h => h) (fun _ _ => rfl) fun _ _ _ _ => ⟨rfl, fun _ h => h⟩
  · intro k k' o1 o' blk base sz base' sz' ho hm ho' hn e e'
    by_cases ek : k = id
    · subst ek; simp [setLoc] at e
    · by_cases ek' : k' = id
      · subst ek'; simp [setLoc] at e'
      · simp only [setLoc, if_neg ek, if_neg ek'] at e e'
        rw [upd_apply, if_neg ek] at ho
        rw [upd_apply, if_neg ek'] at ho'
        exact h.inj k k' o1 o' blk base sz base' sz' ho hm ho' hn e e'
  · intro k o1 blk base sz ho hm e
    by_cases ek : k = id
    · subst ek; simp [setLoc] at e
    · simp only [setLoc, if_neg ek] at e
      rw [upd_apply, if_neg ek] at ho
      exact h.lim k o1 blk base sz ho hm e
  · intro k ⟨hk, hn⟩
    simp only [setLoc, if_neg hn]
    exact h.un k hk

/-- An own object's cells are written: the block's row is another, of the same size. -/
theorem Inv.setRowG {c : Ctx} {σ : Nat → Loc} {I : Nat → Prop} {w w' : World} {hp : H} {un : Nat → Prop} (h : Inv c σ I w hp un) {id : Nat} {xs ys : List AV} {blk base sz : Nat}
    (ho : hp id = some (.cells xs true)) (hl : σ id = .at_ blk base sz)
    (hos : w'.os = w.os) (htp : w'.tape = w.tape) (hout : w'.output = w.output) (hsz : w'.heap.size = w.heap.size) (hother : ∀ k, k ≠ blk → w'.heap[k]? = w.heap[k]?)
    (hc : ∀ i (h : i < ys.length), ys[i].isCell = true)
    (hnew : ∀ cs T lo hi, w.heap[blk]? = some (.cells cs T (lo, hi)) → cs.size = sz → Unfz lo hi sz → ∃ cs' lo' hi', w'.heap[blk]? = some (.cells cs' T (lo', hi')) ∧ cs'.size = sz ∧ Unfz lo' hi' sz ∧ base + ys.length ≤ sz ∧ ∀ i (h : i < ys.length), Rel σ I w ys[i] (cs'.getD (base + i) undef)) :
    Inv c σ I w' (upd hp id (.cells ys true)) un := by
  have hown := h.own id _ ho
  simp only [OwnRel, hl] at hown
  obtain ⟨⟨⟨cs, T, lo, hi, g1, g2, g3, g4, g5⟩, g6⟩, g7, _⟩ := hown
  have hnI := g7 trivial
  obtain ⟨cs', lo', hi', n1, n2, nu, n3, n4⟩ := hnew cs T lo hi g1 g2 g4
  have hw : ∀ k, I k → w'.heap[k]? = w.heap[k]? := fun k hk => hother k (fun e => hnI (e ▸ hk))
  refine ⟨h.ext, h.imm, fun k hk => ?_, by rw [hos]; exact h.os, by rw [htp]; exact h.tape, by rw [hout]; exact h.output, by rw [hsz]; exact h.size, fun k hk hO => ?_, fun k hk => by rw [hsz]; exact h.ilt k hk, ?_, ?_, ?_, h.un, fun g zs hg => (h.glob g zs hg).mono (fun _ _ => rfl) (fun _ h => h) hw, h.inew⟩
  · rw [hw k (h.imm k hk)]; exact h.iw k hk
  · by_cases e : k = blk
    · subst e
      rcases h.lim id _ k base sz ho rfl hl with hlim | hlim
      · omega
      · exact absurd hlim hO
    · rw [hother k e]; exact h.old k hk hO
  · intro k o hk
    rw [upd_apply] at hk
    split at hk
    · rename_i e; subst e
      obtain rfl := Option.some.inj hk
      simp only [OwnRel, hl]
      exact ⟨⟨⟨cs', T, lo', hi', n1, n2, n3, nu, fun i hi => (n4 i hi).mono (fun _ _ => rfl) (fun _ h => h) hw⟩, hc⟩, fun _ => hnI, fun hm => by simp at hm⟩
    · rename_i e
      exact (h.own k o hk).mono (fun _ _ => rfl) (fun _ h => h) hw fun blk' base' sz' e' => ⟨hother blk' (fun eb => by subst eb; exact h.inj id k _ o blk' base sz base' sz' ho rfl hk (Ne.symm e) hl e'), fun _ h => h⟩
  · exact (h.updIL ho (.cells ys true) fun _ => rfl).1
  · exact (h.updIL ho (.cells ys true) fun _ => rfl).2

/-- An own object's cells are written: the block's row is another, of the same size. -/
theorem Inv.setRow {c : Ctx} {σ : Nat → Loc} {I : Nat → Prop} {w w' : World} {hp : H} {un : Nat → Prop} (h : Inv c σ I w hp un) {id : Nat} {xs ys : List AV} {blk base sz : Nat}
    (ho : hp id = some (.cells xs true)) (hl : σ id = .at_ blk base sz)
    (hos : w'.os = w.os) (htp : w'.tape = w.tape) (hout : w'.output = w.output) (hsz : w'.heap.size = w.heap.size) (hother : ∀ k, k ≠ blk → w'.heap[k]? = w.heap[k]?)
    (hc : ∀ i (h : i < ys.length), ys[i].isCell = true)
    (hnew : ∀ cs T lo hi, w.heap[blk]? = some (.cells cs T (lo, hi)) → cs.size = sz → ∃ cs', w'.heap[blk]? = some (.cells cs' T (lo, hi)) ∧ cs'.size = sz ∧ base + ys.length ≤ sz ∧ ∀ i (h : i < ys.length), Rel σ I w ys[i] (cs'.getD (base + i) undef)) :
    Inv c σ I w' (upd hp id (.cells ys true)) un := by
  refine h.setRowG ho hl hos htp hout hsz hother hc fun cs T lo hi h1 h2 h3 => ?_
  obtain ⟨cs', n1, n2, n3, n4⟩ := hnew cs T lo hi h1 h2
  exact ⟨cs', lo, hi, n1, n2, h3, n3, n4⟩

theorem OwnRel.nI {σ : Nat → Loc} {I : Nat → Prop} {w : World} {id : Nat} {o : AO} (h : OwnRel σ I w id o) (hm : o.mt = true) {blk base sz : Nat} (e : σ id = .at_ blk base sz) : ¬ I blk := by
  cases o with
  | cells xs mt => simp only [OwnRel, e] at h; exact h.2.1 hm
  | mapo es mt =>
    obtain ⟨blk', a1, _, a3, _⟩ := h
    rw [a1] at e; cases e
    exact a3 hm
/-- An own object's block is another one. -/
theorem Inv.setO {c : Ctx} {σ : Nat → Loc} {I : Nat → Prop} {w w' : World} {hp : H} {un : Nat → Prop} (h : Inv c σ I w hp un) {id : Nat} {o : AO} {blk base sz : Nat}
    (ho : hp id = some o) (hm : o.mt = true) (hl : σ id = .at_ blk base sz)
    (hos : w'.os = w.os) (htp : w'.tape = w.tape) (hout : w'.output = w.output) (hsz : w'.heap.size = w.heap.size) (hother : ∀ k, k ≠ blk → w'.heap[k]? = w.heap[k]?)
    (o' : AO) (_ : o'.mt = true) (hown : OwnRel σ I w' id o') : Inv c σ I w' (upd hp id o') un := by
  have hnI := (h.own id o ho).nI hm hl
  have hw : ∀ k, I k → w'.heap[k]? = w.heap[k]? := fun k hk => hother k (fun e => hnI (e ▸ hk))
  have hil := h.updIL ho o' fun _ => hm
  refine ⟨h.ext, h.imm, fun k hk => ?_, by rw [hos]; exact h.os, by rw [htp]; exact h.tape, by rw [hout]; exact h.output, by rw [hsz]; exact h.size, fun k hk hO => ?_, fun k hk => by rw [hsz]; exact h.ilt k hk, fun k o1 hk => ?_, hil.1, hil.2, h.un, fun g zs hg => (h.glob g zs hg).mono (fun _ _ => rfl) (fun _ h => h) hw, h.inew⟩
  · rw [hw k (h.imm k hk)]; exact h.iw k hk
  · by_cases e : k = blk
    · subst e
      rcases h.lim id _ k base sz ho hm hl with hlim | hlim
      · omega
      · exact absurd hlim hO
    · rw [hother k e]; exact h.old k hk hO
  · rw [upd_apply] at hk
    split at hk
    · rename_i e; subst e
      obtain rfl := Option.some.inj hk
      exact hown
    · rename_i e
      exact (h.own k o1 hk).mono (fun _ _ => rfl) (fun _ h => h) hw fun blk' base' sz' e' => ⟨hother blk' (fun eb => by subst eb; exact h.inj id k _ o1 blk' base sz base' sz' ho hm hk (Ne.symm e) hl e'), fun _ h => h⟩
/-- A new map becomes an own object. -/
theorem Inv.allocMap {c : Ctx} {σ : Nat → Loc} {I : Nat → Prop} {w : World} {hp : H} {un : Nat → Prop} (h : Inv c σ I w hp un) {id : Nat} (hu : un id) :
    Inv c (setLoc σ id (.at_ w.heap.size 0 0)) I (w.alloc (.map #[] 0)) (upd hp id (.mapo [] true)) (fun k => un k ∧ k ≠ id) := by
  have hσ := setLoc_ext (l := .at_ w.heap.size 0 0) (h.un id hu)
  have hw : ∀ k, I k → (w.alloc (.map #[] 0)).heap[k]? = w.heap[k]? := fun k hk => heap_push_old w _ k (h.ilt k hk)
  have hnI : ¬ I w.heap.size := fun hk => Nat.lt_irrefl _ (h.ilt _ hk)
  refine ⟨fun k hk => ?_, h.imm, fun k hk => ?_, h.os, h.tape, h.output, by simp only [World.size_alloc]; have := h.size; omega, fun k hk ho => ?_, fun k hk => by simp only [World.size_alloc]; have := h.ilt k hk; omega, ?_, ?_, ?_, ?_, fun g ys hg => (h.glob g ys hg).mono hσ (fun _ h => h) hw, h.inew⟩
  · have := h.ext k hk
    rw [hσ k (by rw [this]; exact hk), this]
  · rw [hw k (h.imm k hk)]; exact h.iw k hk
  · rw [heap_push_old w _ k (by have := h.size; omega)]; exact h.old k hk ho
  · intro k o ho
    rw [upd_apply] at ho
    split at ho
    · rename_i e; subst e
      obtain rfl := Option.some.inj ho
      exact ⟨w.heap.size, by simp [setLoc], ⟨⟨#[], 0, heap_push_new w _, rfl, Go.MapKept.stamped_empty 0, fun i hi => by simp at hi⟩⟩, fun _ => hnI, fun hm => by simp at hm⟩
    · exact (h.own k o ho).mono hσ (fun _ h => h) hw fun blk base sz e => ⟨heap_push_old w _ blk ((h.own k o ho).lt e), fun _ h => h⟩
  · intro k k' o1 o' blk base sz base' sz' ho hm ho' hne e e'
    have lt : ∀ k o blk base sz, k ≠ id → hp k = some o → setLoc σ id (.at_ w.heap.size 0 0) k = .at_ blk base sz → σ k = .at_ blk base sz ∧ blk < w.heap.size := by
      intro k o blk base sz hk hp e
      simp only [setLoc, if_neg hk] at e
      exact ⟨e, (h.own k o hp).lt e⟩
    rw [upd_apply] at ho ho'
    by_cases ek : k = id
    · have ek' : k' ≠ id := fun e2 => hne (by rw [ek, e2])
      rw [if_neg ek'] at ho'
      have := (lt k' o' blk base' sz' ek' ho' e').2
      subst ek
      simp only [setLoc, if_true, Loc.at_.injEq] at e
      omega
    · rw [if_neg ek] at ho
      have h1 := lt k _ blk base sz ek ho e
      by_cases ek' : k' = id
      · subst ek'
        simp only [setLoc, if_true, Loc.at_.injEq] at e'
        omega
      · rw [if_neg ek'] at ho'
        have h2 := lt k' _ blk base' sz' ek' ho' e'
        exact h.inj k k' o1 o' blk base sz base' sz' ho hm ho' hne h1.1 h2.1
  · intro k o1 blk base sz ho hm e
    rw [upd_apply] at ho
    split at ho
    · rename_i ek; subst ek
      simp only [setLoc, if_true, Loc.at_.injEq] at e
      left; have := h.size; omega
    · rename_i ek
      simp only [setLoc, if_neg ek] at e
      exact h.lim k o1 blk base sz ho hm e
  · intro k ⟨hk, hne⟩
    simp only [setLoc, if_neg hne]
    exact h.un k hk

/-- An own object is not written any more. -/
def AO.fz : AO → AO | .cells xs _ => .cells xs false | .mapo es _ => .mapo es false
theorem AO.fz_mt (o : AO) : o.fz.mt = false := by cases o <;> rfl
theorem Inv.freezeO {c : Ctx} {σ : Nat → Loc} {I : Nat → Prop} {w : World} {hp : H} {un : Nat → Prop} (h : Inv c σ I w hp un) {id : Nat} {o : AO} (ho : hp id = some o) (hm : o.mt = true) :
    ∃ I', (∀ k, I k → I' k) ∧ (∀ k, I' k → I k ∨ ∃ base sz, σ id = .at_ k base sz) ∧ Inv c σ I' w (upd hp id o.fz) un := by
  have hil := h.updIL ho o.fz (fun h => absurd (o.fz_mt.symm.trans h) (by decide))
  cases hl : σ id with
  | unset => have := h.own id _ ho; cases o <;> simp [OwnRel, hl] at this
  | nil =>
    refine ⟨I, fun _ h => h, fun k hk => .inl hk, ?_⟩
    refine { h with own := fun k o1 hk => ?_, inj := hil.1, lim := hil.2 }
    rw [upd_apply] at hk
    split at hk
    · rename_i e; subst e
      obtain rfl := Option.some.inj hk
      have := h.own k _ ho
      cases o with
      | cells xs mt => simpa [OwnRel, AO.fz, hl] using this
      | mapo es mt => obtain ⟨blk, e, _⟩ := this; rw [hl] at e; cases e
    · exact h.own k o1 hk
  | at_ blk base sz =>
    have hblt : blk < w.heap.size := (h.own id _ ho).lt hl
    have hI : ∀ k, I k → (I k ∨ k = blk) := fun k hk => .inl hk
    refine ⟨fun k => I k ∨ k = blk, hI, fun k hk => hk.imp (fun h => h) (fun e => ⟨base, sz, by rw [e]⟩), ?_⟩
    refine { h with inew := fun k hk => hk.elim (h.inew k) (fun e => by subst e; exact .inr (h.lim id o k base sz ho hm hl)), imm := fun k hk => .inl (h.imm k hk), ilt := fun k hk => hk.elim (h.ilt k) (fun e => e ▸ hblt), own := fun k o1 hk => ?_, inj := hil.1, lim := hil.2, glob := fun g ys hg => (h.glob g ys hg).mono (fun _ _ => rfl) hI fun _ _ => rfl }
    rw [upd_apply] at hk
    split at hk
    · rename_i e; subst e
      obtain rfl := Option.some.inj hk
      have := h.own k _ ho
      cases o with
      | cells xs mt =>
        simp only [OwnRel, AO.fz, hl] at this ⊢
        exact ⟨this.1.mono (fun _ _ => rfl) hI (fun _ _ => rfl) rfl, fun hm => by simp at hm, by simp⟩
      | mapo es mt =>
        obtain ⟨b, e1, e2, _⟩ := this
        have : b = blk := by rw [hl] at e1; cases e1; rfl
        subst this
        exact ⟨b, e1, e2.mono (fun _ _ => rfl) hI (fun _ _ => rfl) rfl, fun hm => by simp at hm, by simp⟩
    · rename_i e
      refine (h.own k o1 hk).mono (fun _ _ => rfl) hI (fun _ _ => rfl) fun blk' base' sz' e' => ⟨rfl, fun hm' hn hk' => ?_⟩
      rcases hk' with hk' | hk'
      · exact hn hk'
      · subst hk'
        exact h.inj id k o o1 blk' base sz base' sz' ho hm hk (Ne.symm e) hl e'
theorem Inv.freeze {c : Ctx} {σ : Nat → Loc} {I : Nat → Prop} {w : World} {hp : H} {un : Nat → Prop} (h : Inv c σ I w hp un) {id : Nat} {xs : List AV} (ho : hp id = some (.cells xs true)) :
    ∃ I', (∀ k, I k → I' k) ∧ (∀ k, I' k → I k ∨ ∃ base sz, σ id = .at_ k base sz) ∧ Inv c σ I' w (upd hp id (.cells xs false)) un := h.freezeO ho rfl

end Go.AX

namespace Go.AX
open Go

def W (n : Int) : Int := IntKind.i64.wrap n
theorem W_eq {n : Int} (h0 : -9223372036854775808 ≤ n) (h1 : n ≤ 9223372036854775807) : W n = n := by
  have e : (2 : Int) ^ (64 - 1) = 9223372036854775808 := by decide
  have e' : (2 : Int) ^ 64 = 18446744073709551616 := by decide
  simp only [W, IntKind.wrap, IntKind.bits, IntKind.signed, Bool.true_and, decide_eq_true_eq, e, e']
  split <;> omega
def iand (x y : Int) : Int := W (BitVec.ofInt 64 x &&& BitVec.ofInt 64 y).toNat
def ior (x y : Int) : Int := W (BitVec.ofInt 64 x ||| BitVec.ofInt 64 y).toNat
def ixor (x y : Int) : Int := W (BitVec.ofInt 64 x ^^^ BitVec.ofInt 64 y).toNat

def ofV1 : Value → AV
  | .int .u8 n => if 0 ≤ n ∧ n < 256 then .w8 (BitVec.ofInt 8 n) else .v (.int .u8 n)
  | .int .u16 n => if 0 ≤ n ∧ n < 65536 then .w16 (BitVec.ofInt 16 n) else .v (.int .u16 n)
  | .int .u32 n => if 0 ≤ n ∧ n < 4294967296 then .w32 (BitVec.ofInt 32 n) else .v (.int .u32 n)
  | .int .u64 n => if 0 ≤ n ∧ n < 18446744073709551616 then .w64 (BitVec.ofInt 64 n) else .v (.int .u64 n)
  | .int .i64 n => .i n
  | .bool x => .b x
  | .string s => .s (s.data.toList.map UInt8.toBitVec)
  | x => .v x
def ofV : Value → AV
  | .agg cs => if cs.toList.all Value.oneCell' then .agg (cs.toList.map ofV1) else .v (.agg cs)
  | x => ofV1 x

def bless : List (BitVec 8) → List (BitVec 8) → Bool
  | _, [] => false
  | [], _ :: _ => true
  | a :: x, b :: y => decide (a < b) || (decide (a = b) && bless x y)

def shAmt : AV → Option Nat
  | .i n => if 0 ≤ n then some n.toNat else none
  | .w8 x => some x.toNat
  | .w16 x => some x.toNat
  | .w32 x => some x.toNat
  | .w64 x => some x.toNat
  | _ => none

def arith8 (op : BinOp) (a b : BitVec 8) : Option AV :=
  match op with
  | .add => some (.w8 (a + b)) | .sub => some (.w8 (a - b)) | .mul => some (.w8 (a * b))
  | .quo => if b = 0#8 then none else some (.w8 (a / b)) | .rem => if b = 0#8 then none else some (.w8 (a % b))
  | .and => some (.w8 (a &&& b)) | .or => some (.w8 (a ||| b)) | .xor => some (.w8 (a ^^^ b)) | .andNot => some (.w8 (a &&& ~~~b))
  | .eql => some (.b (decide (a = b))) | .neq => some (.b (!decide (a = b)))
  | .lss => some (.b (decide (a < b))) | .leq => some (.b (decide (a ≤ b))) | .gtr => some (.b (decide (b < a))) | .geq => some (.b (decide (b ≤ a)))
  | _ => none
def arith16 (op : BinOp) (a b : BitVec 16) : Option AV :=
  match op with
  | .add => some (.w16 (a + b)) | .sub => some (.w16 (a - b)) | .mul => some (.w16 (a * b))
  | .quo => if b = 0#16 then none else some (.w16 (a / b)) | .rem => if b = 0#16 then none else some (.w16 (a % b))
  | .and => some (.w16 (a &&& b)) | .or => some (.w16 (a ||| b)) | .xor => some (.w16 (a ^^^ b)) | .andNot => some (.w16 (a &&& ~~~b))
  | .eql => some (.b (decide (a = b))) | .neq => some (.b (!decide (a = b)))
  | .lss => some (.b (decide (a < b))) | .leq => some (.b (decide (a ≤ b))) | .gtr => some (.b (decide (b < a))) | .geq => some (.b (decide (b ≤ a)))
  | _ => none
def arith32 (op : BinOp) (a b : BitVec 32) : Option AV :=
  match op with
  | .add => some (.w32 (a + b)) | .sub => some (.w32 (a - b)) | .mul => some (.w32 (a * b))
  | .quo => if b = 0#32 then none else some (.w32 (a / b)) | .rem => if b = 0#32 then none else some (.w32 (a % b))
  | .and => some (.w32 (a &&& b)) | .or => some (.w32 (a ||| b)) | .xor => some (.w32 (a ^^^ b)) | .andNot => some (.w32 (a &&& ~~~b))
  | .eql => some (.b (decide (a = b))) | .neq => some (.b (!decide (a = b)))
  | .lss => some (.b (decide (a < b))) | .leq => some (.b (decide (a ≤ b))) | .gtr => some (.b (decide (b < a))) | .geq => some (.b (decide (b ≤ a)))
  | _ => none
def arith64 (op : BinOp) (a b : BitVec 64) : Option AV :=
  match op with
  | .add => some (.w64 (a + b)) | .sub => some (.w64 (a - b)) | .mul => some (.w64 (a * b))
  | .quo => if b = 0#64 then none else some (.w64 (a / b)) | .rem => if b = 0#64 then none else some (.w64 (a % b))
  | .and => some (.w64 (a &&& b)) | .or => some (.w64 (a ||| b)) | .xor => some (.w64 (a ^^^ b)) | .andNot => some (.w64 (a &&& ~~~b))
  | .eql => some (.b (decide (a = b))) | .neq => some (.b (!decide (a = b)))
  | .lss => some (.b (decide (a < b))) | .leq => some (.b (decide (a ≤ b))) | .gtr => some (.b (decide (b < a))) | .geq => some (.b (decide (b ≤ a)))
  | _ => none
def arithI (op : BinOp) (a b : Int) : Option AV :=
  match op with
  | .add => some (.i (W (a + b))) | .sub => some (.i (W (a - b))) | .mul => some (.i (W (a * b)))
  | .quo => if b = 0 then none else some (.i (W (a.tdiv b))) | .rem => if b = 0 then none else some (.i (a.tmod b))
  | .and => some (.i (iand a b)) | .or => some (.i (ior a b)) | .xor => some (.i (ixor a b))
  | .eql => some (.b (decide (a = b))) | .neq => some (.b (!decide (a = b)))
  | .lss => some (.b (decide (a < b))) | .leq => some (.b (decide (a ≤ b))) | .gtr => some (.b (decide (b < a))) | .geq => some (.b (decide (b ≤ a)))
  | _ => none
def arithS (op : BinOp) (a b : List (BitVec 8)) : Option AV :=
  match op with
  | .add => if a.length + b.length ≤ 9223372036854775807 then some (.s (a ++ b)) else none
  | .eql => some (.b (decide (a = b))) | .neq => some (.b (!decide (a = b)))
  | .lss => some (.b (bless a b)) | .leq => some (.b (bless a b || decide (a = b))) | .gtr => some (.b (!(bless a b || decide (a = b)))) | .geq => some (.b (!bless a b))
  | _ => none
def shl (x y : AV) : Option AV :=
  match shAmt y with
  | none => none
  | some n => match x with
    | .w8 a => some (.w8 (a <<< n)) | .w16 a => some (.w16 (a <<< n)) | .w32 a => some (.w32 (a <<< n)) | .w64 a => some (.w64 (a <<< n))
    | .i a => some (.i (W (a * 2 ^ (min n 64))))
    | _ => none
def shr (x y : AV) : Option AV :=
  match shAmt y with
  | none => none
  | some n => match x with
    | .w8 a => some (.w8 (a >>> n)) | .w16 a => some (.w16 (a >>> n)) | .w32 a => some (.w32 (a >>> n)) | .w64 a => some (.w64 (a >>> n))
    | .i a => some (.i (a.fdiv (2 ^ (min n 64))))
    | _ => none

/-- nil against a pointer. -/
def nilEq (x y : AV) : Option Bool :=
  match x, y with
  | .v (.pointer none), .v (.pointer none) => some true
  | .v (.pointer none), .op _ _ | .op _ _, .v (.pointer none) => some false
  | .v (.pointer none), .rp _ | .rp _, .v (.pointer none) => some false
  | _, _ => none

def bin (op : BinOp) (x y : AV) : Option AV :=
  match op with
  | .shl => shl x y
  | .shr => shr x y
  | op => match x, y with
    | .w8 a, .w8 b => arith8 op a b
    | .w16 a, .w16 b => arith16 op a b
    | .w32 a, .w32 b => arith32 op a b
    | .w64 a, .w64 b => arith64 op a b
    | .i a, .i b => arithI op a b
    | .s a, .s b => arithS op a b
    | _, _ => none

def un (op : UnOp) (x : AV) : Option AV :=
  match op, x with
  | .neg, .i a => some (.i (W (0 - a)))
  | .neg, .w8 a => some (.w8 (0#8 - a)) | .neg, .w16 a => some (.w16 (0#16 - a)) | .neg, .w32 a => some (.w32 (0#32 - a)) | .neg, .w64 a => some (.w64 (0#64 - a))
  | .xor, .w8 a => some (.w8 (~~~a)) | .xor, .w16 a => some (.w16 (~~~a)) | .xor, .w32 a => some (.w32 (~~~a)) | .xor, .w64 a => some (.w64 (~~~a))
  | .not, .b a => some (.b (!a))
  | _, _ => none

def ix : AV → Option Int
  | .i n => some n
  | .w8 x => some (x.toNat : Int)
  | .w16 x => some (x.toNat : Int)
  | .w32 x => some (x.toNat : Int)
  | .w64 x => some (x.toNat : Int)
  | _ => none

/-- A number turned into another kind. -/
def toK (k : IntKind) (x : AV) : Option AV :=
  match k with
  | .u8 => match x with
    | .i n => some (.w8 (BitVec.ofInt 8 n)) | .w8 a => some (.w8 a) | .w16 a => some (.w8 (a.setWidth 8)) | .w32 a => some (.w8 (a.setWidth 8)) | .w64 a => some (.w8 (a.setWidth 8)) | _ => none
  | .u16 => match x with
    | .i n => some (.w16 (BitVec.ofInt 16 n)) | .w8 a => some (.w16 (a.setWidth 16)) | .w16 a => some (.w16 a) | .w32 a => some (.w16 (a.setWidth 16)) | .w64 a => some (.w16 (a.setWidth 16)) | _ => none
  | .u32 => match x with
    | .i n => some (.w32 (BitVec.ofInt 32 n)) | .w8 a => some (.w32 (a.setWidth 32)) | .w16 a => some (.w32 (a.setWidth 32)) | .w32 a => some (.w32 a) | .w64 a => some (.w32 (a.setWidth 32)) | _ => none
  | .u64 => match x with
    | .i n => some (.w64 (BitVec.ofInt 64 n)) | .w8 a => some (.w64 (a.setWidth 64)) | .w16 a => some (.w64 (a.setWidth 64)) | .w32 a => some (.w64 (a.setWidth 64)) | .w64 a => some (.w64 a) | _ => none
  | .i64 => match x with
    | .i n => some (.i (W n)) | .w8 a => some (.i (a.toNat : Int)) | .w16 a => some (.i (a.toNat : Int)) | .w32 a => some (.i (a.toNat : Int)) | .w64 a => some (.i (W (a.toNat : Int))) | _ => none
  | _ => none

theorem wrap_u {k : IntKind} (hk : k.signed = false) (m : Int) : k.wrap m = ((BitVec.ofInt k.bits m).toNat : Int) := by
  simp only [IntKind.wrap, hk, Bool.false_and, Bool.false_eq_true, if_false, BitVec.toNat_ofInt]
  rw [Int.toNat_of_nonneg (Int.emod_nonneg _ (by have := Nat.two_pow_pos k.bits; omega))]
  simp

theorem ofInt_toNat {n : Nat} (x : BitVec n) : BitVec.ofInt n (x.toNat : Int) = x := by
  apply BitVec.eq_of_toNat_eq
  simp []

theorem ofInt_toNat' {n m : Nat} (x : BitVec n) : BitVec.ofInt m (x.toNat : Int) = x.setWidth m := by
  apply BitVec.eq_of_toNat_eq
  simp []

theorem ofInt_add' {n : Nat} (x y : Int) : BitVec.ofInt n (x + y) = BitVec.ofInt n x + BitVec.ofInt n y := by
  apply BitVec.eq_of_toInt_eq
  simp [BitVec.toInt_ofInt, BitVec.toInt_add]
theorem ofInt_mul' {n : Nat} (x y : Int) : BitVec.ofInt n (x * y) = BitVec.ofInt n x * BitVec.ofInt n y := by
  apply BitVec.eq_of_toInt_eq
  simp [BitVec.toInt_ofInt, BitVec.toInt_mul]
theorem ofInt_sub' {n : Nat} (x y : Int) : BitVec.ofInt n (x - y) = BitVec.ofInt n x - BitVec.ofInt n y := by
  apply BitVec.eq_of_toInt_eq
  simp [BitVec.toInt_ofInt, BitVec.toInt_sub]

section
variable {σ : Nat → Loc} {I : Nat → Prop} {w : World}

theorem rel_ofV1 (x : Value) : Rel σ I w (ofV1 x) x := by
  unfold ofV1
  split
  · split
    · rename_i n h
      have e : ((BitVec.ofInt 8 n).toNat : Int) = n := by simp [BitVec.toNat_ofInt]; omega
      have := Rel.w8 (σ := σ) (I := I) (w := w) (BitVec.ofInt 8 n); rwa [e] at this
    · exact .v _
  · split
    · rename_i n h
      have e : ((BitVec.ofInt 16 n).toNat : Int) = n := by simp [BitVec.toNat_ofInt]; omega
      have := Rel.w16 (σ := σ) (I := I) (w := w) (BitVec.ofInt 16 n); rwa [e] at this
    · exact .v _
  · split
    · rename_i n h
      have e : ((BitVec.ofInt 32 n).toNat : Int) = n := by simp [BitVec.toNat_ofInt]; omega
      have := Rel.w32 (σ := σ) (I := I) (w := w) (BitVec.ofInt 32 n); rwa [e] at this
    · exact .v _
  · split
    · rename_i n h
      have e : ((BitVec.ofInt 64 n).toNat : Int) = n := by simp [BitVec.toNat_ofInt]; omega
      have := Rel.w64 (σ := σ) (I := I) (w := w) (BitVec.ofInt 64 n); rwa [e] at this
    · exact .v _
  · exact .i _
  · exact .b _
  · rename_i s
    have e : encS (s.data.toList.map UInt8.toBitVec) = s := by
      simp [encS, List.map_map, Function.comp_def]
    have := Rel.s (σ := σ) (I := I) (w := w) (s.data.toList.map UInt8.toBitVec); rwa [e] at this
  · exact .v _

theorem isCell_ofV1 {x : Value} (h : x.oneCell' = true) : (ofV1 x).isCell = true := by
  unfold ofV1
  split <;> first | rfl | (split <;> first | rfl | exact h) | exact h

theorem rel_ofV (x : Value) : Rel σ I w (ofV x) x := by
  unfold ofV
  split
  · rename_i cs
    split
    · rename_i h
      refine .agg _ _ (by simp) (fun i hi => ?_) (fun i hi => ?_)
      · simp only [List.getElem_map]
        exact isCell_ofV1 (List.all_eq_true.1 h _ (List.getElem_mem _))
      · simp only [List.length_map, Array.length_toList] at hi
        simp only [List.getElem_map, Array.getElem_toList]
        rw [Array.getD_eq_getD_getElem?, Array.getElem?_eq_getElem hi]
        exact rel_ofV1 _
    · exact .v _
  · exact rel_ofV1 _

end
end Go.AX

namespace Go.AX
open Go
section
variable {P : Program} {σ : Nat → Loc} {I : Nat → Prop} {w : World}

theorem b_eq {p : Prop} [Decidable p] {q : Bool} (h : q = true ↔ p) : Value.bool q = Value.bool (decide p) := by
  congr 1; rw [Bool.eq_iff_iff, h]; simp
theorem b_ne {p : Prop} [Decidable p] {q : Bool} (h : q = true ↔ ¬ p) : Value.bool q = Value.bool (!decide p) := by
  congr 1; rw [Bool.eq_iff_iff, h]; simp

theorem wrap_of_nat {k : IntKind} (hk : k.signed = false) (m : Nat) (h : m < 2 ^ k.bits) : k.wrap (m : Int) = (m : Int) := by
  rw [wrap_u hk, BitVec.toNat_ofInt]
  rw [← Int.natCast_emod, Int.toNat_natCast, Nat.mod_eq_of_lt h]


theorem arith8_sound {op : BinOp} {a b : BitVec 8} {z : AV} {t : TypeId} (h : arith8 op a b = some z) :
    ∃ v, (binOp op t (.int .u8 a.toNat) (.int .u8 b.toNat)).run P w = .ok v w ∧ Rel σ I w z v := by
  have hs : IntKind.signed .u8 = false := rfl
  cases op with
  | add =>
    obtain rfl := Option.some.inj h
    refine ⟨_, by simp only [binOp, Op.intArith, if_neg (show ¬ (IntKind.u8 ≠ IntKind.u8) from fun h => h rfl), Sem.run_pure]; rfl, ?_⟩
    rw [show (a.toNat : Int) + b.toNat = ((a.toNat + b.toNat : Nat) : Int) from by simp, wrap_u hs, show BitVec.ofInt (IntKind.bits .u8) ((a.toNat + b.toNat : Nat) : Int) = a + b from by
      rw [Int.natCast_add, ofInt_add']; show BitVec.ofInt 8 _ + BitVec.ofInt 8 _ = _; rw [ofInt_toNat, ofInt_toNat]]
    exact .w8 _
  | sub =>
    obtain rfl := Option.some.inj h
    refine ⟨_, by simp only [binOp, Op.intArith, if_neg (show ¬ (IntKind.u8 ≠ IntKind.u8) from fun h => h rfl), Sem.run_pure]; rfl, ?_⟩
    rw [wrap_u hs, show BitVec.ofInt (IntKind.bits .u8) ((a.toNat : Int) - (b.toNat : Int)) = a - b from by
      rw [ofInt_sub']; show BitVec.ofInt 8 _ - BitVec.ofInt 8 _ = _; rw [ofInt_toNat, ofInt_toNat]]
    exact .w8 _
  | mul =>
    obtain rfl := Option.some.inj h
    refine ⟨_, by simp only [binOp, Op.intArith, if_neg (show ¬ (IntKind.u8 ≠ IntKind.u8) from fun h => h rfl), Sem.run_pure]; rfl, ?_⟩
    rw [wrap_u hs, show BitVec.ofInt (IntKind.bits .u8) ((a.toNat : Int) * (b.toNat : Int)) = a * b from by
      rw [ofInt_mul']; show BitVec.ofInt 8 _ * BitVec.ofInt 8 _ = _; rw [ofInt_toNat, ofInt_toNat]]
    exact .w8 _
  | quo =>
    simp only [arith8] at h
    split at h
    · cases h
    · rename_i hb
      obtain rfl := Option.some.inj h
      have hb' : ¬ (b.toNat : Int) = 0 := by
        intro e; apply hb; apply BitVec.eq_of_toNat_eq; simpa using e
      refine ⟨_, by simp only [binOp, Op.intDiv, if_neg (show ¬ (IntKind.u8 ≠ IntKind.u8) from fun h => h rfl), if_neg hb', Sem.run_pure]; rfl, ?_⟩
      rw [show (a.toNat : Int).tdiv b.toNat = ((a.toNat / b.toNat : Nat) : Int) from by simp [Int.tdiv], wrap_of_nat hs _ (Nat.lt_of_le_of_lt (Nat.div_le_self _ _) a.isLt), ← BitVec.toNat_udiv]
      exact .w8 _
  | rem =>
    simp only [arith8] at h
    split at h
    · cases h
    · rename_i hb
      obtain rfl := Option.some.inj h
      have hb' : ¬ (b.toNat : Int) = 0 := by
        intro e; apply hb; apply BitVec.eq_of_toNat_eq; simpa using e
      refine ⟨_, by simp only [binOp, Op.intDiv, if_neg (show ¬ (IntKind.u8 ≠ IntKind.u8) from fun h => h rfl), if_neg hb', Sem.run_pure]; rfl, ?_⟩
      rw [show (a.toNat : Int).tmod b.toNat = ((a.toNat % b.toNat : Nat) : Int) from by simp [Int.tmod], ← BitVec.toNat_umod]
      exact .w8 _
  | and =>
    obtain rfl := Option.some.inj h
    refine ⟨_, by simp only [binOp, Op.intBits, if_neg (show ¬ (IntKind.u8 ≠ IntKind.u8) from fun h => h rfl), Sem.run_pure]; rfl, ?_⟩
    rw [show (BitVec.ofInt (IntKind.bits .u8) (a.toNat : Int)) = a from ofInt_toNat a, show (BitVec.ofInt (IntKind.bits .u8) (b.toNat : Int)) = b from ofInt_toNat b]
    first | (rw [← BitVec.toNat_and, wrap_of_nat hs _ (BitVec.isLt _)]; exact .w8 _) | (rw [wrap_of_nat hs _ (BitVec.isLt _)]; exact .w8 _)
  | or =>
    obtain rfl := Option.some.inj h
    refine ⟨_, by simp only [binOp, Op.intBits, if_neg (show ¬ (IntKind.u8 ≠ IntKind.u8) from fun h => h rfl), Sem.run_pure]; rfl, ?_⟩
    rw [show (BitVec.ofInt (IntKind.bits .u8) (a.toNat : Int)) = a from ofInt_toNat a, show (BitVec.ofInt (IntKind.bits .u8) (b.toNat : Int)) = b from ofInt_toNat b]
    first | (rw [← BitVec.toNat_or, wrap_of_nat hs _ (BitVec.isLt _)]; exact .w8 _) | (rw [wrap_of_nat hs _ (BitVec.isLt _)]; exact .w8 _)
  | xor =>
    obtain rfl := Option.some.inj h
    refine ⟨_, by simp only [binOp, Op.intBits, if_neg (show ¬ (IntKind.u8 ≠ IntKind.u8) from fun h => h rfl), Sem.run_pure]; rfl, ?_⟩
    rw [show (BitVec.ofInt (IntKind.bits .u8) (a.toNat : Int)) = a from ofInt_toNat a, show (BitVec.ofInt (IntKind.bits .u8) (b.toNat : Int)) = b from ofInt_toNat b]
    first | (rw [← BitVec.toNat_xor, wrap_of_nat hs _ (BitVec.isLt _)]; exact .w8 _) | (rw [wrap_of_nat hs _ (BitVec.isLt _)]; exact .w8 _)
  | andNot =>
    obtain rfl := Option.some.inj h
    refine ⟨_, by simp only [binOp, Op.intBits, Sem.run_pure, if_neg (show ¬ (IntKind.u8 ≠ IntKind.u8) from fun h => h rfl)]; rfl, ?_⟩
    rw [show (BitVec.ofInt (IntKind.bits .u8) (a.toNat : Int)) = a from ofInt_toNat a, show (BitVec.ofInt (IntKind.bits .u8) (b.toNat : Int)) = b from ofInt_toNat b, wrap_of_nat hs _ (BitVec.isLt _)]
    exact .w8 _
  | eql =>
    obtain rfl := Option.some.inj h
    refine ⟨_, by simp only [binOp, Op.intCmp, Sem.run_pure, if_neg (show ¬ (IntKind.u8 ≠ IntKind.u8) from fun h => h rfl)]; rfl, ?_⟩
    rw [b_eq (p := a = b) (by rw [beq_iff_eq, Int.ofNat_inj, BitVec.toNat_inj])]
    exact .b _
  | neq =>
    obtain rfl := Option.some.inj h
    refine ⟨_, by simp only [binOp, Op.intCmp, Sem.run_pure, if_neg (show ¬ (IntKind.u8 ≠ IntKind.u8) from fun h => h rfl)]; rfl, ?_⟩
    rw [b_ne (p := a = b) (by rw [bne_iff_ne, ne_eq, Int.ofNat_inj, BitVec.toNat_inj])]
    exact .b _
  | lss =>
    obtain rfl := Option.some.inj h
    refine ⟨_, by simp only [binOp, Op.intCmp, Sem.run_pure, if_neg (show ¬ (IntKind.u8 ≠ IntKind.u8) from fun h => h rfl)]; rfl, ?_⟩
    rw [b_eq (p := a < b) (by rw [decide_eq_true_eq, Int.ofNat_lt, BitVec.lt_def])]
    exact .b _
  | leq =>
    obtain rfl := Option.some.inj h
    refine ⟨_, by simp only [binOp, Op.intCmp, Sem.run_pure, if_neg (show ¬ (IntKind.u8 ≠ IntKind.u8) from fun h => h rfl)]; rfl, ?_⟩
    rw [b_eq (p := a ≤ b) (by rw [decide_eq_true_eq, Int.ofNat_le, BitVec.le_def])]
    exact .b _
  | gtr =>
    obtain rfl := Option.some.inj h
    refine ⟨_, by simp only [binOp, Op.intCmp, Sem.run_pure, if_neg (show ¬ (IntKind.u8 ≠ IntKind.u8) from fun h => h rfl)]; rfl, ?_⟩
    rw [b_eq (p := b < a) (by rw [decide_eq_true_eq, gt_iff_lt, Int.ofNat_lt, BitVec.lt_def])]
    exact .b _
  | geq =>
    obtain rfl := Option.some.inj h
    refine ⟨_, by simp only [binOp, Op.intCmp, Sem.run_pure, if_neg (show ¬ (IntKind.u8 ≠ IntKind.u8) from fun h => h rfl)]; rfl, ?_⟩
    rw [b_eq (p := b ≤ a) (by rw [decide_eq_true_eq, ge_iff_le, Int.ofNat_le, BitVec.le_def])]
    exact .b _
  | shl => cases h
  | shr => cases h

theorem arith16_sound {op : BinOp} {a b : BitVec 16} {z : AV} {t : TypeId} (h : arith16 op a b = some z) :
    ∃ v, (binOp op t (.int .u16 a.toNat) (.int .u16 b.toNat)).run P w = .ok v w ∧ Rel σ I w z v := by
  have hs : IntKind.signed .u16 = false := rfl
  cases op with
  | add =>
    obtain rfl := Option.some.inj h
    refine ⟨_, by simp only [binOp, Op.intArith, if_neg (show ¬ (IntKind.u16 ≠ IntKind.u16) from fun h => h rfl), Sem.run_pure]; rfl, ?_⟩
    rw [show (a.toNat : Int) + b.toNat = ((a.toNat + b.toNat : Nat) : Int) from by simp, wrap_u hs, show BitVec.ofInt (IntKind.bits .u16) ((a.toNat + b.toNat : Nat) : Int) = a + b from by
      rw [Int.natCast_add, ofInt_add']; show BitVec.ofInt 16 _ + BitVec.ofInt 16 _ = _; rw [ofInt_toNat, ofInt_toNat]]
    exact .w16 _
  | sub =>
    obtain rfl := Option.some.inj h
    refine ⟨_, by simp only [binOp, Op.intArith, if_neg (show ¬ (IntKind.u16 ≠ IntKind.u16) from fun h => h rfl), Sem.run_pure]; rfl, ?_⟩
    rw [wrap_u hs, show BitVec.ofInt (IntKind.bits .u16) ((a.toNat : Int) - (b.toNat : Int)) = a - b from by
      rw [ofInt_sub']; show BitVec.ofInt 16 _ - BitVec.ofInt 16 _ = _; rw [ofInt_toNat, ofInt_toNat]]
    exact .w16 _
  | mul =>
    obtain rfl := Option.some.inj h
    refine ⟨_, by simp only [binOp, Op.intArith, if_neg (show ¬ (IntKind.u16 ≠ IntKind.u16) from fun h => h rfl), Sem.run_pure]; rfl, ?_⟩
    rw [wrap_u hs, show BitVec.ofInt (IntKind.bits .u16) ((a.toNat : Int) * (b.toNat : Int)) = a * b from by
      rw [ofInt_mul']; show BitVec.ofInt 16 _ * BitVec.ofInt 16 _ = _; rw [ofInt_toNat, ofInt_toNat]]
    exact .w16 _
  | quo =>
    simp only [arith16] at h
    split at h
    · cases h
    · rename_i hb
      obtain rfl := Option.some.inj h
      have hb' : ¬ (b.toNat : Int) = 0 := by
        intro e; apply hb; apply BitVec.eq_of_toNat_eq; simpa using e
      refine ⟨_, by simp only [binOp, Op.intDiv, if_neg (show ¬ (IntKind.u16 ≠ IntKind.u16) from fun h => h rfl), if_neg hb', Sem.run_pure]; rfl, ?_⟩
      rw [show (a.toNat : Int).tdiv b.toNat = ((a.toNat / b.toNat : Nat) : Int) from by simp [Int.tdiv], wrap_of_nat hs _ (Nat.lt_of_le_of_lt (Nat.div_le_self _ _) a.isLt), ← BitVec.toNat_udiv]
      exact .w16 _
  | rem =>
    simp only [arith16] at h
    split at h
    · cases h
    · rename_i hb
      obtain rfl := Option.some.inj h
      have hb' : ¬ (b.toNat : Int) = 0 := by
        intro e; apply hb; apply BitVec.eq_of_toNat_eq; simpa using e
      refine ⟨_, by simp only [binOp, Op.intDiv, if_neg (show ¬ (IntKind.u16 ≠ IntKind.u16) from fun h => h rfl), if_neg hb', Sem.run_pure]; rfl, ?_⟩
      rw [show (a.toNat : Int).tmod b.toNat = ((a.toNat % b.toNat : Nat) : Int) from by simp [Int.tmod], ← BitVec.toNat_umod]
      exact .w16 _
  | and =>
    obtain rfl := Option.some.inj h
    refine ⟨_, by simp only [binOp, Op.intBits, if_neg (show ¬ (IntKind.u16 ≠ IntKind.u16) from fun h => h rfl), Sem.run_pure]; rfl, ?_⟩
    rw [show (BitVec.ofInt (IntKind.bits .u16) (a.toNat : Int)) = a from ofInt_toNat a, show (BitVec.ofInt (IntKind.bits .u16) (b.toNat : Int)) = b from ofInt_toNat b]
    first | (rw [← BitVec.toNat_and, wrap_of_nat hs _ (BitVec.isLt _)]; exact .w16 _) | (rw [wrap_of_nat hs _ (BitVec.isLt _)]; exact .w16 _)
  | or =>
    obtain rfl := Option.some.inj h
    refine ⟨_, by simp only [binOp, Op.intBits, if_neg (show ¬ (IntKind.u16 ≠ IntKind.u16) from fun h => h rfl), Sem.run_pure]; rfl, ?_⟩
    rw [show (BitVec.ofInt (IntKind.bits .u16) (a.toNat : Int)) = a from ofInt_toNat a, show (BitVec.ofInt (IntKind.bits .u16) (b.toNat : Int)) = b from ofInt_toNat b]
    first | (rw [← BitVec.toNat_or, wrap_of_nat hs _ (BitVec.isLt _)]; exact .w16 _) | (rw [wrap_of_nat hs _ (BitVec.isLt _)]; exact .w16 _)
  | xor =>
    obtain rfl := Option.some.inj h
    refine ⟨_, by simp only [binOp, Op.intBits, if_neg (show ¬ (IntKind.u16 ≠ IntKind.u16) from fun h => h rfl), Sem.run_pure]; rfl, ?_⟩
    rw [show (BitVec.ofInt (IntKind.bits .u16) (a.toNat : Int)) = a from ofInt_toNat a, show (BitVec.ofInt (IntKind.bits .u16) (b.toNat : Int)) = b from ofInt_toNat b]
    first | (rw [← BitVec.toNat_xor, wrap_of_nat hs _ (BitVec.isLt _)]; exact .w16 _) | (rw [wrap_of_nat hs _ (BitVec.isLt _)]; exact .w16 _)
  | andNot =>
    obtain rfl := Option.some.inj h
    refine ⟨_, by simp only [binOp, Op.intBits, Sem.run_pure, if_neg (show ¬ (IntKind.u16 ≠ IntKind.u16) from fun h => h rfl)]; rfl, ?_⟩
    rw [show (BitVec.ofInt (IntKind.bits .u16) (a.toNat : Int)) = a from ofInt_toNat a, show (BitVec.ofInt (IntKind.bits .u16) (b.toNat : Int)) = b from ofInt_toNat b, wrap_of_nat hs _ (BitVec.isLt _)]
    exact .w16 _
  | eql =>
    obtain rfl := Option.some.inj h
    refine ⟨_, by simp only [binOp, Op.intCmp, Sem.run_pure, if_neg (show ¬ (IntKind.u16 ≠ IntKind.u16) from fun h => h rfl)]; rfl, ?_⟩
    rw [b_eq (p := a = b) (by rw [beq_iff_eq, Int.ofNat_inj, BitVec.toNat_inj])]
    exact .b _
  | neq =>
    obtain rfl := Option.some.inj h
    refine ⟨_, by simp only [binOp, Op.intCmp, Sem.run_pure, if_neg (show ¬ (IntKind.u16 ≠ IntKind.u16) from fun h => h rfl)]; rfl, ?_⟩
    rw [b_ne (p := a = b) (by rw [bne_iff_ne, ne_eq, Int.ofNat_inj, BitVec.toNat_inj])]
    exact .b _
  | lss =>
    obtain rfl := Option.some.inj h
    refine ⟨_, by simp only [binOp, Op.intCmp, Sem.run_pure, if_neg (show ¬ (IntKind.u16 ≠ IntKind.u16) from fun h => h rfl)]; rfl, ?_⟩
    rw [b_eq (p := a < b) (by rw [decide_eq_true_eq, Int.ofNat_lt, BitVec.lt_def])]
    exact .b _
  | leq =>
    obtain rfl := Option.some.inj h
    refine ⟨_, by simp only [binOp, Op.intCmp, Sem.run_pure, if_neg (show ¬ (IntKind.u16 ≠ IntKind.u16) from fun h => h rfl)]; rfl, ?_⟩
    rw [b_eq (p := a ≤ b) (by rw [decide_eq_true_eq, Int.ofNat_le, BitVec.le_def])]
    exact .b _
  | gtr =>
    obtain rfl := Option.some.inj h
    refine ⟨_, by simp only [binOp, Op.intCmp, Sem.run_pure, if_neg (show ¬ (IntKind.u16 ≠ IntKind.u16) from fun h => h rfl)]; rfl, ?_⟩
    rw [b_eq (p := b < a) (by rw [decide_eq_true_eq, gt_iff_lt, Int.ofNat_lt, BitVec.lt_def])]
    exact .b _
  | geq =>
    obtain rfl := Option.some.inj h
    refine ⟨_, by simp only [binOp, Op.intCmp, Sem.run_pure, if_neg (show ¬ (IntKind.u16 ≠ IntKind.u16) from fun h => h rfl)]; rfl, ?_⟩
    rw [b_eq (p := b ≤ a) (by rw [decide_eq_true_eq, ge_iff_le, Int.ofNat_le, BitVec.le_def])]
    exact .b _
  | shl => cases h
  | shr => cases h

theorem arith32_sound {op : BinOp} {a b : BitVec 32} {z : AV} {t : TypeId} (h : arith32 op a b = some z) :
    ∃ v, (binOp op t (.int .u32 a.toNat) (.int .u32 b.toNat)).run P w = .ok v w ∧ Rel σ I w z v := by
  have hs : IntKind.signed .u32 = false := rfl
  cases op with
  | add =>
    obtain rfl := Option.some.inj h
    refine ⟨_, by simp only [binOp, Op.intArith, if_neg (show ¬ (IntKind.u32 ≠ IntKind.u32) from fun h => h rfl), Sem.run_pure]; rfl, ?_⟩
    rw [show (a.toNat : Int) + b.toNat = ((a.toNat + b.toNat : Nat) : Int) from by simp, wrap_u hs, show BitVec.ofInt (IntKind.bits .u32) ((a.toNat + b.toNat : Nat) : Int) = a + b from by
      rw [Int.natCast_add, ofInt_add']; show BitVec.ofInt 32 _ + BitVec.ofInt 32 _ = _; rw [ofInt_toNat, ofInt_toNat]]
    exact .w32 _
  | sub =>
    obtain rfl := Option.some.inj h
    refine ⟨_, by simp only [binOp, Op.intArith, if_neg (show ¬ (IntKind.u32 ≠ IntKind.u32) from fun h => h rfl), Sem.run_pure]; rfl, ?_⟩
    rw [wrap_u hs, show BitVec.ofInt (IntKind.bits .u32) ((a.toNat : Int) - (b.toNat : Int)) = a - b from by
      rw [ofInt_sub']; show BitVec.ofInt 32 _ - BitVec.ofInt 32 _ = _; rw [ofInt_toNat, ofInt_toNat]]
    exact .w32 _
  | mul =>
    obtain rfl := Option.some.inj h
    refine ⟨_, by simp only [binOp, Op.intArith, if_neg (show ¬ (IntKind.u32 ≠ IntKind.u32) from fun h => h rfl), Sem.run_pure]; rfl, ?_⟩
    rw [wrap_u hs, show BitVec.ofInt (IntKind.bits .u32) ((a.toNat : Int) * (b.toNat : Int)) = a * b from by
      rw [ofInt_mul']; show BitVec.ofInt 32 _ * BitVec.ofInt 32 _ = _; rw [ofInt_toNat, ofInt_toNat]]
    exact .w32 _
  | quo =>
    simp only [arith32] at h
    split at h
    · cases h
    · rename_i hb
      obtain rfl := Option.some.inj h
      have hb' : ¬ (b.toNat : Int) = 0 := by
        intro e; apply hb; apply BitVec.eq_of_toNat_eq; simpa using e
      refine ⟨_, by simp only [binOp, Op.intDiv, if_neg (show ¬ (IntKind.u32 ≠ IntKind.u32) from fun h => h rfl), if_neg hb', Sem.run_pure]; rfl, ?_⟩
      rw [show (a.toNat : Int).tdiv b.toNat = ((a.toNat / b.toNat : Nat) : Int) from by simp [Int.tdiv], wrap_of_nat hs _ (Nat.lt_of_le_of_lt (Nat.div_le_self _ _) a.isLt), ← BitVec.toNat_udiv]
      exact .w32 _
  | rem =>
    simp only [arith32] at h
    split at h
    · cases h
    · rename_i hb
      obtain rfl := Option.some.inj h
      have hb' : ¬ (b.toNat : Int) = 0 := by
        intro e; apply hb; apply BitVec.eq_of_toNat_eq; simpa using e
      refine ⟨_, by simp only [binOp, Op.intDiv, if_neg (show ¬ (IntKind.u32 ≠ IntKind.u32) from fun h => h rfl), if_neg hb', Sem.run_pure]; rfl, ?_⟩
      rw [show (a.toNat : Int).tmod b.toNat = ((a.toNat % b.toNat : Nat) : Int) from by simp [Int.tmod], ← BitVec.toNat_umod]
      exact .w32 _
  | and =>
    obtain rfl := Option.some.inj h
    refine ⟨_, by simp only [binOp, Op.intBits, if_neg (show ¬ (IntKind.u32 ≠ IntKind.u32) from fun h => h rfl), Sem.run_pure]; rfl, ?_⟩
    rw [show (BitVec.ofInt (IntKind.bits .u32) (a.toNat : Int)) = a from ofInt_toNat a, show (BitVec.ofInt (IntKind.bits .u32) (b.toNat : Int)) = b from ofInt_toNat b]
    first | (rw [← BitVec.toNat_and, wrap_of_nat hs _ (BitVec.isLt _)]; exact .w32 _) | (rw [wrap_of_nat hs _ (BitVec.isLt _)]; exact .w32 _)
  | or =>
    obtain rfl := Option.some.inj h
    refine ⟨_, by simp only [binOp, Op.intBits, if_neg (show ¬ (IntKind.u32 ≠ IntKind.u32) from fun h => h rfl), Sem.run_pure]; rfl, ?_⟩
    rw [show (BitVec.ofInt (IntKind.bits .u32) (a.toNat : Int)) = a from ofInt_toNat a, show (BitVec.ofInt (IntKind.bits .u32) (b.toNat : Int)) = b from ofInt_toNat b]
    first | (rw [← BitVec.toNat_or, wrap_of_nat hs _ (BitVec.isLt _)]; exact .w32 _) | (rw [wrap_of_nat hs _ (BitVec.isLt _)]; exact .w32 _)
  | xor =>
    obtain rfl := Option.some.inj h
    refine ⟨_, by simp only [binOp, Op.intBits, if_neg (show ¬ (IntKind.u32 ≠ IntKind.u32) from fun h => h rfl), Sem.run_pure]; rfl, ?_⟩
    rw [show (BitVec.ofInt (IntKind.bits .u32) (a.toNat : Int)) = a from ofInt_toNat a, show (BitVec.ofInt (IntKind.bits .u32) (b.toNat : Int)) = b from ofInt_toNat b]
    first | (rw [← BitVec.toNat_xor, wrap_of_nat hs _ (BitVec.isLt _)]; exact .w32 _) | (rw [wrap_of_nat hs _ (BitVec.isLt _)]; exact .w32 _)
  | andNot =>
    obtain rfl := Option.some.inj h
    refine ⟨_, by simp only [binOp, Op.intBits, Sem.run_pure, if_neg (show ¬ (IntKind.u32 ≠ IntKind.u32) from fun h => h rfl)]; rfl, ?_⟩
    rw [show (BitVec.ofInt (IntKind.bits .u32) (a.toNat : Int)) = a from ofInt_toNat a, show (BitVec.ofInt (IntKind.bits .u32) (b.toNat : Int)) = b from ofInt_toNat b, wrap_of_nat hs _ (BitVec.isLt _)]
    exact .w32 _
  | eql =>
    obtain rfl := Option.some.inj h
    refine ⟨_, by simp only [binOp, Op.intCmp, Sem.run_pure, if_neg (show ¬ (IntKind.u32 ≠ IntKind.u32) from fun h => h rfl)]; rfl, ?_⟩
    rw [b_eq (p := a = b) (by rw [beq_iff_eq, Int.ofNat_inj, BitVec.toNat_inj])]
    exact .b _
  | neq =>
    obtain rfl := Option.some.inj h
    refine ⟨_, by simp only [binOp, Op.intCmp, Sem.run_pure, if_neg (show ¬ (IntKind.u32 ≠ IntKind.u32) from fun h => h rfl)]; rfl, ?_⟩
    rw [b_ne (p := a = b) (by rw [bne_iff_ne, ne_eq, Int.ofNat_inj, BitVec.toNat_inj])]
    exact .b _
  | lss =>
    obtain rfl := Option.some.inj h
    refine ⟨_, by simp only [binOp, Op.intCmp, Sem.run_pure, if_neg (show ¬ (IntKind.u32 ≠ IntKind.u32) from fun h => h rfl)]; rfl, ?_⟩
    rw [b_eq (p := a < b) (by rw [decide_eq_true_eq, Int.ofNat_lt, BitVec.lt_def])]
    exact .b _
  | leq =>
    obtain rfl := Option.some.inj h
    refine ⟨_, by simp only [binOp, Op.intCmp, Sem.run_pure, if_neg (show ¬ (IntKind.u32 ≠ IntKind.u32) from fun h => h rfl)]; rfl, ?_⟩
    rw [b_eq (p := a ≤ b) (by rw [decide_eq_true_eq, Int.ofNat_le, BitVec.le_def])]
    exact .b _
  | gtr =>
    obtain rfl := Option.some.inj h
    refine ⟨_, by simp only [binOp, Op.intCmp, Sem.run_pure, if_neg (show ¬ (IntKind.u32 ≠ IntKind.u32) from fun h => h rfl)]; rfl, ?_⟩
    rw [b_eq (p := b < a) (by rw [decide_eq_true_eq, gt_iff_lt, Int.ofNat_lt, BitVec.lt_def])]
    exact .b _
  | geq =>
    obtain rfl := Option.some.inj h
    refine ⟨_, by simp only [binOp, Op.intCmp, Sem.run_pure, if_neg (show ¬ (IntKind.u32 ≠ IntKind.u32) from fun h => h rfl)]; rfl, ?_⟩
    rw [b_eq (p := b ≤ a) (by rw [decide_eq_true_eq, ge_iff_le, Int.ofNat_le, BitVec.le_def])]
    exact .b _
  | shl => cases h
  | shr => cases h

theorem arith64_sound {op : BinOp} {a b : BitVec 64} {z : AV} {t : TypeId} (h : arith64 op a b = some z) :
    ∃ v, (binOp op t (.int .u64 a.toNat) (.int .u64 b.toNat)).run P w = .ok v w ∧ Rel σ I w z v := by
  have hs : IntKind.signed .u64 = false := rfl
  cases op with
  | add =>
    obtain rfl := Option.some.inj h
    refine ⟨_, by simp only [binOp, Op.intArith, if_neg (show ¬ (IntKind.u64 ≠ IntKind.u64) from fun h => h rfl), Sem.run_pure]; rfl, ?_⟩
    rw [show (a.toNat : Int) + b.toNat = ((a.toNat + b.toNat : Nat) : Int) from by simp, wrap_u hs, show BitVec.ofInt (IntKind.bits .u64) ((a.toNat + b.toNat : Nat) : Int) = a + b from by
      rw [Int.natCast_add, ofInt_add']; show BitVec.ofInt 64 _ + BitVec.ofInt 64 _ = _; rw [ofInt_toNat, ofInt_toNat]]
    exact .w64 _
  | sub =>
    obtain rfl := Option.some.inj h
    refine ⟨_, by simp only [binOp, Op.intArith, if_neg (show ¬ (IntKind.u64 ≠ IntKind.u64) from fun h => h rfl), Sem.run_pure]; rfl, ?_⟩
    rw [wrap_u hs, show BitVec.ofInt (IntKind.bits .u64) ((a.toNat : Int) - (b.toNat : Int)) = a - b from by
      rw [ofInt_sub']; show BitVec.ofInt 64 _ - BitVec.ofInt 64 _ = _; rw [ofInt_toNat, ofInt_toNat]]
    exact .w64 _
  | mul =>
    obtain rfl := Option.some.inj h
    refine ⟨_, by simp only [binOp, Op.intArith, if_neg (show ¬ (IntKind.u64 ≠ IntKind.u64) from fun h => h rfl), Sem.run_pure]; rfl, ?_⟩
    rw [wrap_u hs, show BitVec.ofInt (IntKind.bits .u64) ((a.toNat : Int) * (b.toNat : Int)) = a * b from by
      rw [ofInt_mul']; show BitVec.ofInt 64 _ * BitVec.ofInt 64 _ = _; rw [ofInt_toNat, ofInt_toNat]]
    exact .w64 _
  | quo =>
    simp only [arith64] at h
    split at h
    · cases h
    · rename_i hb
      obtain rfl := Option.some.inj h
      have hb' : ¬ (b.toNat : Int) = 0 := by
        intro e; apply hb; apply BitVec.eq_of_toNat_eq; simpa using e
      refine ⟨_, by simp only [binOp, Op.intDiv, if_neg (show ¬ (IntKind.u64 ≠ IntKind.u64) from fun h => h rfl), if_neg hb', Sem.run_pure]; rfl, ?_⟩
      rw [show (a.toNat : Int).tdiv b.toNat = ((a.toNat / b.toNat : Nat) : Int) from by simp [Int.tdiv], wrap_of_nat hs _ (Nat.lt_of_le_of_lt (Nat.div_le_self _ _) a.isLt), ← BitVec.toNat_udiv]
      exact .w64 _
  | rem =>
    simp only [arith64] at h
    split at h
    · cases h
    · rename_i hb
      obtain rfl := Option.some.inj h
      have hb' : ¬ (b.toNat : Int) = 0 := by
        intro e; apply hb; apply BitVec.eq_of_toNat_eq; simpa using e
      refine ⟨_, by simp only [binOp, Op.intDiv, if_neg (show ¬ (IntKind.u64 ≠ IntKind.u64) from fun h => h rfl), if_neg hb', Sem.run_pure]; rfl, ?_⟩
      rw [show (a.toNat : Int).tmod b.toNat = ((a.toNat % b.toNat : Nat) : Int) from by simp [Int.tmod], ← BitVec.toNat_umod]
      exact .w64 _
  | and =>
    obtain rfl := Option.some.inj h
    refine ⟨_, by simp only [binOp, Op.intBits, if_neg (show ¬ (IntKind.u64 ≠ IntKind.u64) from fun h => h rfl), Sem.run_pure]; rfl, ?_⟩
    rw [show (BitVec.ofInt (IntKind.bits .u64) (a.toNat : Int)) = a from ofInt_toNat a, show (BitVec.ofInt (IntKind.bits .u64) (b.toNat : Int)) = b from ofInt_toNat b]
    first | (rw [← BitVec.toNat_and, wrap_of_nat hs _ (BitVec.isLt _)]; exact .w64 _) | (rw [wrap_of_nat hs _ (BitVec.isLt _)]; exact .w64 _)
  | or =>
    obtain rfl := Option.some.inj h
    refine ⟨_, by simp only [binOp, Op.intBits, if_neg (show ¬ (IntKind.u64 ≠ IntKind.u64) from fun h => h rfl), Sem.run_pure]; rfl, ?_⟩
    rw [show (BitVec.ofInt (IntKind.bits .u64) (a.toNat : Int)) = a from ofInt_toNat a, show (BitVec.ofInt (IntKind.bits .u64) (b.toNat : Int)) = b from ofInt_toNat b]
    first | (rw [← BitVec.toNat_or, wrap_of_nat hs _ (BitVec.isLt _)]; exact .w64 _) | (rw [wrap_of_nat hs _ (BitVec.isLt _)]; exact .w64 _)
  | xor =>
    obtain rfl := Option.some.inj h
    refine ⟨_, by simp only [binOp, Op.intBits, if_neg (show ¬ (IntKind.u64 ≠ IntKind.u64) from fun h => h rfl), Sem.run_pure]; rfl, ?_⟩
    rw [show (BitVec.ofInt (IntKind.bits .u64) (a.toNat : Int)) = a from ofInt_toNat a, show (BitVec.ofInt (IntKind.bits .u64) (b.toNat : Int)) = b from ofInt_toNat b]
    first | (rw [← BitVec.toNat_xor, wrap_of_nat hs _ (BitVec.isLt _)]; exact .w64 _) | (rw [wrap_of_nat hs _ (BitVec.isLt _)]; exact .w64 _)
  | andNot =>
    obtain rfl := Option.some.inj h
    refine ⟨_, by simp only [binOp, Op.intBits, Sem.run_pure, if_neg (show ¬ (IntKind.u64 ≠ IntKind.u64) from fun h => h rfl)]; rfl, ?_⟩
    rw [show (BitVec.ofInt (IntKind.bits .u64) (a.toNat : Int)) = a from ofInt_toNat a, show (BitVec.ofInt (IntKind.bits .u64) (b.toNat : Int)) = b from ofInt_toNat b, wrap_of_nat hs _ (BitVec.isLt _)]
    exact .w64 _
  | eql =>
    obtain rfl := Option.some.inj h
    refine ⟨_, by simp only [binOp, Op.intCmp, Sem.run_pure, if_neg (show ¬ (IntKind.u64 ≠ IntKind.u64) from fun h => h rfl)]; rfl, ?_⟩
    rw [b_eq (p := a = b) (by rw [beq_iff_eq, Int.ofNat_inj, BitVec.toNat_inj])]
    exact .b _
  | neq =>
    obtain rfl := Option.some.inj h
    refine ⟨_, by simp only [binOp, Op.intCmp, Sem.run_pure, if_neg (show ¬ (IntKind.u64 ≠ IntKind.u64) from fun h => h rfl)]; rfl, ?_⟩
    rw [b_ne (p := a = b) (by rw [bne_iff_ne, ne_eq, Int.ofNat_inj, BitVec.toNat_inj])]
    exact .b _
  | lss =>
    obtain rfl := Option.some.inj h
    refine ⟨_, by simp only [binOp, Op.intCmp, Sem.run_pure, if_neg (show ¬ (IntKind.u64 ≠ IntKind.u64) from fun h => h rfl)]; rfl, ?_⟩
    rw [b_eq (p := a < b) (by rw [decide_eq_true_eq, Int.ofNat_lt, BitVec.lt_def])]
    exact .b _
  | leq =>
    obtain rfl := Option.some.inj h
    refine ⟨_, by simp only [binOp, Op.intCmp, Sem.run_pure, if_neg (show ¬ (IntKind.u64 ≠ IntKind.u64) from fun h => h rfl)]; rfl, ?_⟩
    rw [b_eq (p := a ≤ b) (by rw [decide_eq_true_eq, Int.ofNat_le, BitVec.le_def])]
    exact .b _
  | gtr =>
    obtain rfl := Option.some.inj h
    refine ⟨_, by simp only [binOp, Op.intCmp, Sem.run_pure, if_neg (show ¬ (IntKind.u64 ≠ IntKind.u64) from fun h => h rfl)]; rfl, ?_⟩
    rw [b_eq (p := b < a) (by rw [decide_eq_true_eq, gt_iff_lt, Int.ofNat_lt, BitVec.lt_def])]
    exact .b _
  | geq =>
    obtain rfl := Option.some.inj h
    refine ⟨_, by simp only [binOp, Op.intCmp, Sem.run_pure, if_neg (show ¬ (IntKind.u64 ≠ IntKind.u64) from fun h => h rfl)]; rfl, ?_⟩
    rw [b_eq (p := b ≤ a) (by rw [decide_eq_true_eq, ge_iff_le, Int.ofNat_le, BitVec.le_def])]
    exact .b _
  | shl => cases h
  | shr => cases h

theorem arithI_sound {op : BinOp} {a b : Int} {z : AV} {t : TypeId} (h : arithI op a b = some z) :
    ∃ v, (binOp op t (.int .i64 a) (.int .i64 b)).run P w = .ok v w ∧ Rel σ I w z v := by
  cases op with
  | add => obtain rfl := Option.some.inj h; exact ⟨_, by simp only [binOp, Op.intArith, Sem.run_pure, if_neg (show ¬ (IntKind.i64 ≠ IntKind.i64) from fun h => h rfl)]; rfl, .i _⟩
  | sub => obtain rfl := Option.some.inj h; exact ⟨_, by simp only [binOp, Op.intArith, Sem.run_pure, if_neg (show ¬ (IntKind.i64 ≠ IntKind.i64) from fun h => h rfl)]; rfl, .i _⟩
  | mul => obtain rfl := Option.some.inj h; exact ⟨_, by simp only [binOp, Op.intArith, Sem.run_pure, if_neg (show ¬ (IntKind.i64 ≠ IntKind.i64) from fun h => h rfl)]; rfl, .i _⟩
  | quo =>
    simp only [arithI] at h
    split at h
    · cases h
    · rename_i hb
      obtain rfl := Option.some.inj h
      exact ⟨_, by simp only [binOp, Op.intDiv, Sem.run_pure, if_neg (show ¬ (IntKind.i64 ≠ IntKind.i64) from fun h => h rfl), if_neg hb]; rfl, .i _⟩
  | rem =>
    simp only [arithI] at h
    split at h
    · cases h
    · rename_i hb
      obtain rfl := Option.some.inj h
      exact ⟨_, by simp only [binOp, Op.intDiv, Sem.run_pure, if_neg (show ¬ (IntKind.i64 ≠ IntKind.i64) from fun h => h rfl), if_neg hb], .i _⟩
  | and => obtain rfl := Option.some.inj h; exact ⟨_, by simp only [binOp, Op.intBits, Sem.run_pure, if_neg (show ¬ (IntKind.i64 ≠ IntKind.i64) from fun h => h rfl)]; rfl, .i _⟩
  | or => obtain rfl := Option.some.inj h; exact ⟨_, by simp only [binOp, Op.intBits, Sem.run_pure, if_neg (show ¬ (IntKind.i64 ≠ IntKind.i64) from fun h => h rfl)]; rfl, .i _⟩
  | xor => obtain rfl := Option.some.inj h; exact ⟨_, by simp only [binOp, Op.intBits, Sem.run_pure, if_neg (show ¬ (IntKind.i64 ≠ IntKind.i64) from fun h => h rfl)]; rfl, .i _⟩
  | andNot => cases h
  | shl => cases h
  | shr => cases h
  | eql => obtain rfl := Option.some.inj h; exact ⟨_, by simp only [binOp, Op.intCmp, Sem.run_pure, if_neg (show ¬ (IntKind.i64 ≠ IntKind.i64) from fun h => h rfl)]; rfl, .b _⟩
  | neq => obtain rfl := Option.some.inj h; exact ⟨_, by simp only [binOp, Op.intCmp, Sem.run_pure, if_neg (show ¬ (IntKind.i64 ≠ IntKind.i64) from fun h => h rfl)]; rfl, .b _⟩
  | lss => obtain rfl := Option.some.inj h; exact ⟨_, by simp only [binOp, Op.intCmp, Sem.run_pure, if_neg (show ¬ (IntKind.i64 ≠ IntKind.i64) from fun h => h rfl)], .b _⟩
  | leq => obtain rfl := Option.some.inj h; exact ⟨_, by simp only [binOp, Op.intCmp, Sem.run_pure, if_neg (show ¬ (IntKind.i64 ≠ IntKind.i64) from fun h => h rfl)], .b _⟩
  | gtr => obtain rfl := Option.some.inj h; exact ⟨_, by simp only [binOp, Op.intCmp, Sem.run_pure, if_neg (show ¬ (IntKind.i64 ≠ IntKind.i64) from fun h => h rfl)], .b _⟩
  | geq => obtain rfl := Option.some.inj h; exact ⟨_, by simp only [binOp, Op.intCmp, Sem.run_pure, if_neg (show ¬ (IntKind.i64 ≠ IntKind.i64) from fun h => h rfl)], .b _⟩

theorem W_toNat {n : Nat} (x : BitVec n) (hn : n ≤ 32) : W (x.toNat : Int) = x.toNat := by
  have h := x.isLt
  have h2 : 2 ^ n ≤ 2 ^ 32 := Nat.pow_le_pow_right (by omega) hn
  exact W_eq (by omega) (by omega)

theorem encS_toList (l : List (BitVec 8)) : (encS l).toList = l.map UInt8.ofBitVec := by
  rw [encS, ByteArray.toList_mk]
theorem encS_size (l : List (BitVec 8)) : (encS l).size = l.length := by simp [encS, ByteArray.size]
theorem encS_inj {a b : List (BitVec 8)} (h : a.map UInt8.ofBitVec = b.map UInt8.ofBitVec) : a = b := by
  have := congrArg (List.map UInt8.toBitVec) h
  simpa [List.map_map, Function.comp_def] using this
theorem bless_eq : ∀ a b : List (BitVec 8), Op.bytesLess (a.map UInt8.ofBitVec) (b.map UInt8.ofBitVec) = bless a b
  | a, [] => by cases a <;> simp [Op.bytesLess, bless]
  | [], _ :: _ => by simp [Op.bytesLess, bless]
  | a :: x, b :: y => by
    simp only [List.map_cons, Op.bytesLess, bless, bless_eq x y]
    have h1 : decide (UInt8.ofBitVec a < UInt8.ofBitVec b) = decide (a < b) := by
      congr 1
    have h2 : (UInt8.ofBitVec a == UInt8.ofBitVec b) = decide (a = b) := by
      rw [Bool.eq_iff_iff, beq_iff_eq, decide_eq_true_eq]
      exact ⟨fun h => by simpa using congrArg UInt8.toBitVec h, fun h => by rw [h]⟩
    rw [h1, h2]

theorem arithS_sound {op : BinOp} {a b : List (BitVec 8)} {z : AV} {t : TypeId} (h : arithS op a b = some z) :
    ∃ v, (binOp op t (.string (encS a)) (.string (encS b))).run P w = .ok v w ∧ Rel σ I w z v := by
  have heq : ((encS a).toList == (encS b).toList) = decide (a = b) := by
    rw [Bool.eq_iff_iff, beq_iff_eq, decide_eq_true_eq, encS_toList, encS_toList]
    exact ⟨encS_inj, fun h => by rw [h]⟩
  have hlt : Op.bytesLess (encS a).toList (encS b).toList = bless a b := by rw [encS_toList, encS_toList, bless_eq]
  cases op with
  | add =>
    simp only [arithS] at h
    split at h
    · rename_i hl
      obtain rfl := Option.some.inj h
      have hl' : ¬ ((((encS a).size + (encS b).size : Nat) : Int) > IntKind.i64.max) := by
        rw [encS_size, encS_size]; simp only [IntKind.max, IntKind.signed, IntKind.bits, if_true]; omega
      refine ⟨.string (encS a ++ encS b), by simp only [binOp, Op.stringOp, if_neg hl', Sem.run_pure], ?_⟩
      have : encS (a ++ b) = encS a ++ encS b := by
        apply ByteArray.ext
        simp [encS, ByteArray.data_append]
      rw [← this]; exact .s _
    · cases h
  | eql => obtain rfl := Option.some.inj h; exact ⟨_, by simp only [binOp, Op.stringOp, Sem.run_pure, heq], .b _⟩
  | neq => obtain rfl := Option.some.inj h; exact ⟨_, by simp only [binOp, Op.stringOp, Sem.run_pure, heq], .b _⟩
  | lss => obtain rfl := Option.some.inj h; exact ⟨_, by simp only [binOp, Op.stringOp, Sem.run_pure, hlt], .b _⟩
  | leq => obtain rfl := Option.some.inj h; exact ⟨_, by simp only [binOp, Op.stringOp, Sem.run_pure, hlt, heq], .b _⟩
  | gtr => obtain rfl := Option.some.inj h; exact ⟨_, by simp only [binOp, Op.stringOp, Sem.run_pure, hlt, heq], .b _⟩
  | geq => obtain rfl := Option.some.inj h; exact ⟨_, by simp only [binOp, Op.stringOp, Sem.run_pure, hlt], .b _⟩
  | _ => cases h

theorem run_eqGuard_int (op : BinOp) (t : TypeId) (X Y : Operand) (k k' : IntKind) (a b : Int) : (eqGuard op t X Y (.int k a) (.int k' b)).run P w = .ok () w := by
  simp only [eqGuard, Sem.run_ite]; split <;> rfl
theorem run_eqGuard_str (op : BinOp) (t : TypeId) (X Y : Operand) (a b : ByteArray) : (eqGuard op t X Y (.string a) (.string b)).run P w = .ok () w := by
  simp only [eqGuard, Sem.run_ite]; split <;> rfl
theorem run_eqGuard_bool (op : BinOp) (t : TypeId) (X Y : Operand) (a b : Bool) : (eqGuard op t X Y (.bool a) (.bool b)).run P w = .ok () w := by
  simp only [eqGuard, Sem.run_ite]; split <;> rfl

theorem shAmt_inv {y : AV} {v : Value} {n : Nat} (h : shAmt y = some n) (hr : Rel σ I w y v) : ∃ k m, v = .int k m ∧ 0 ≤ m ∧ m.toNat = n := by
  cases y <;> simp only [shAmt] at h <;> first | (cases h; done) | skip
  case i m =>
    split at h
    · rename_i h0; cases hr; exact ⟨_, _, rfl, h0, Option.some.inj h⟩
    · cases h
  all_goals (cases hr; refine ⟨_, _, rfl, by omega, ?_⟩; simpa using Option.some.inj h)

theorem shl_min {m n b : Nat} (_h : b < 2 ^ m) : b * 2 ^ (min n m) % 2 ^ m = b * 2 ^ n % 2 ^ m := by
  rcases Nat.le_total n m with hn | hn
  · rw [Nat.min_eq_left hn]
  · rw [Nat.min_eq_right hn]
    have : 2 ^ n = 2 ^ m * 2 ^ (n - m) := by rw [← Nat.pow_add]; congr 1; omega
    rw [this, Nat.mul_left_comm, Nat.mul_mod_right, Nat.mul_mod_left]

theorem shr_min {m n b : Nat} (h : b < 2 ^ m) : b / 2 ^ (min n m) = b / 2 ^ n := by
  rcases Nat.le_total n m with hn | hn
  · rw [Nat.min_eq_left hn]
  · rw [Nat.min_eq_right hn, Nat.div_eq_of_lt h, Nat.div_eq_of_lt (Nat.lt_of_lt_of_le h (Nat.pow_le_pow_right (by omega) hn))]

theorem shl_u {k : IntKind} (hk : k.signed = false) (a : BitVec k.bits) (n : Nat) : k.wrap ((a.toNat : Int) * 2 ^ (min n k.bits)) = ((a <<< n).toNat : Int) := by
  rw [wrap_u hk, show (a.toNat : Int) * 2 ^ (min n k.bits) = ((a.toNat * 2 ^ (min n k.bits) : Nat) : Int) from by simp]
  rw [BitVec.toNat_ofInt, ← Int.natCast_emod, Int.toNat_natCast, shl_min a.isLt, BitVec.toNat_shiftLeft, Nat.shiftLeft_eq]

theorem shr_u {k : IntKind} (a : BitVec k.bits) (n : Nat) : ((a.toNat : Int)).fdiv (2 ^ (min n k.bits)) = ((a >>> n).toNat : Int) := by
  rw [show (2 : Int) ^ (min n k.bits) = ((2 ^ (min n k.bits) : Nat) : Int) from by simp, Int.fdiv_eq_ediv_of_nonneg _ (Int.natCast_nonneg _), ← Int.natCast_ediv, shr_min a.isLt, BitVec.toNat_ushiftRight, Nat.shiftRight_eq_div_pow]

theorem shl_sound {x y z : AV} {a b : Value} {t : TypeId} (h : shl x y = some z) (hx : Rel σ I w x a) (hy : Rel σ I w y b) :
    ∃ v, (binOp .shl t a b).run P w = .ok v w ∧ Rel σ I w z v := by
  unfold shl at h
  split at h
  · cases h
  · rename_i n hn
    obtain ⟨k, m, rfl, h0, hm⟩ := shAmt_inv hn hy
    have h0' : ¬ m < 0 := by omega
    cases x <;> simp only at h <;> first | (cases h; done) | skip
    case w8 => cases hx; obtain rfl := Option.some.inj h; exact ⟨_, by simp only [binOp, Op.shift, if_neg h0', Sem.run_pure, hm]; exact congrArg (fun z => Result.ok (Value.int .u8 z) w) (shl_u (k := .u8) rfl _ n), .w8 _⟩
    case w16 => cases hx; obtain rfl := Option.some.inj h; exact ⟨_, by simp only [binOp, Op.shift, if_neg h0', Sem.run_pure, hm]; exact congrArg (fun z => Result.ok (Value.int .u16 z) w) (shl_u (k := .u16) rfl _ n), .w16 _⟩
    case w32 => cases hx; obtain rfl := Option.some.inj h; exact ⟨_, by simp only [binOp, Op.shift, if_neg h0', Sem.run_pure, hm]; exact congrArg (fun z => Result.ok (Value.int .u32 z) w) (shl_u (k := .u32) rfl _ n), .w32 _⟩
    case w64 => cases hx; obtain rfl := Option.some.inj h; exact ⟨_, by simp only [binOp, Op.shift, if_neg h0', Sem.run_pure, hm]; exact congrArg (fun z => Result.ok (Value.int .u64 z) w) (shl_u (k := .u64) rfl _ n), .w64 _⟩
    case i => cases hx; obtain rfl := Option.some.inj h; exact ⟨_, by simp only [binOp, Op.shift, if_neg h0', Sem.run_pure, hm]; rfl, .i _⟩

theorem shr_sound {x y z : AV} {a b : Value} {t : TypeId} (h : shr x y = some z) (hx : Rel σ I w x a) (hy : Rel σ I w y b) :
    ∃ v, (binOp .shr t a b).run P w = .ok v w ∧ Rel σ I w z v := by
  unfold shr at h
  split at h
  · cases h
  · rename_i n hn
    obtain ⟨k, m, rfl, h0, hm⟩ := shAmt_inv hn hy
    have h0' : ¬ m < 0 := by omega
    cases x <;> simp only at h <;> first | (cases h; done) | skip
    case w8 => cases hx; obtain rfl := Option.some.inj h; exact ⟨_, by simp only [binOp, Op.shift, if_neg h0', Sem.run_pure, hm]; exact congrArg (fun z => Result.ok (Value.int .u8 z) w) (shr_u (k := .u8) _ n), .w8 _⟩
    case w16 => cases hx; obtain rfl := Option.some.inj h; exact ⟨_, by simp only [binOp, Op.shift, if_neg h0', Sem.run_pure, hm]; exact congrArg (fun z => Result.ok (Value.int .u16 z) w) (shr_u (k := .u16) _ n), .w16 _⟩
    case w32 => cases hx; obtain rfl := Option.some.inj h; exact ⟨_, by simp only [binOp, Op.shift, if_neg h0', Sem.run_pure, hm]; exact congrArg (fun z => Result.ok (Value.int .u32 z) w) (shr_u (k := .u32) _ n), .w32 _⟩
    case w64 => cases hx; obtain rfl := Option.some.inj h; exact ⟨_, by simp only [binOp, Op.shift, if_neg h0', Sem.run_pure, hm]; exact congrArg (fun z => Result.ok (Value.int .u64 z) w) (shr_u (k := .u64) _ n), .w64 _⟩
    case i => cases hx; obtain rfl := Option.some.inj h; exact ⟨_, by simp only [binOp, Op.shift, if_neg h0', Sem.run_pure, hm]; rfl, .i _⟩

theorem bin_sound {op : BinOp} {x y z : AV} {a b : Value} {t : TypeId} (X Y : Operand) (h : bin op x y = some z) (hx : Rel σ I w x a) (hy : Rel σ I w y b) :
    ∃ v, (do eqGuard op t X Y a b; binOp op t a b : Sem Value).run P w = .ok v w ∧ Rel σ I w z v := by
  have shift : ∀ n, shAmt y = some n → (∃ k m, b = .int k m) := fun n hn => by obtain ⟨k, m, hb, _⟩ := shAmt_inv hn hy; exact ⟨k, m, hb⟩
  unfold bin at h
  split at h
  · obtain ⟨v, hv, hr⟩ := shl_sound (P := P) (t := t) h hx hy
    exact ⟨v, by rw [Sem.run_bind]; simp only [eqGuard, Sem.run_ite]; exact hv, hr⟩
  · obtain ⟨v, hv, hr⟩ := shr_sound (P := P) (t := t) h hx hy
    exact ⟨v, by rw [Sem.run_bind]; simp only [eqGuard, Sem.run_ite]; exact hv, hr⟩
  · split at h
    · cases hx; cases hy; rw [Sem.run_bind, run_eqGuard_int]; exact arith8_sound h
    · cases hx; cases hy; rw [Sem.run_bind, run_eqGuard_int]; exact arith16_sound h
    · cases hx; cases hy; rw [Sem.run_bind, run_eqGuard_int]; exact arith32_sound h
    · cases hx; cases hy; rw [Sem.run_bind, run_eqGuard_int]; exact arith64_sound h
    · cases hx; cases hy; rw [Sem.run_bind, run_eqGuard_int]; exact arithI_sound h
    · cases hx; cases hy; rw [Sem.run_bind, run_eqGuard_str]; exact arithS_sound h
    · cases h

theorem un_sound {op : UnOp} {x z : AV} {a : Value} (h : un op x = some z) (hx : Rel σ I w x a) :
    ∃ v, (Op.unary op a).run P w = .ok v w ∧ Rel σ I w z v := by
  unfold un at h
  split at h <;> first | (cases h; done) | skip
  · cases hx; obtain rfl := Option.some.inj h; exact ⟨_, by simp only [Op.unary, Op.intArith, Sem.run_pure]; rfl, .i _⟩
  · cases hx; obtain rfl := Option.some.inj h
    refine ⟨_, by simp only [Op.unary, Op.intArith, Sem.run_pure]; rfl, ?_⟩
    rename_i a
    rw [wrap_u rfl, show BitVec.ofInt (IntKind.bits .u8) (0 - (a.toNat : Int)) = 0#8 - a from by rw [ofInt_sub']; show BitVec.ofInt 8 0 - BitVec.ofInt 8 _ = _; rw [ofInt_toNat]; rfl]
    exact .w8 _
  · cases hx; obtain rfl := Option.some.inj h
    refine ⟨_, by simp only [Op.unary, Op.intArith, Sem.run_pure]; rfl, ?_⟩
    rename_i a
    rw [wrap_u rfl, show BitVec.ofInt (IntKind.bits .u16) (0 - (a.toNat : Int)) = 0#16 - a from by rw [ofInt_sub']; show BitVec.ofInt 16 0 - BitVec.ofInt 16 _ = _; rw [ofInt_toNat]; rfl]
    exact .w16 _
  · cases hx; obtain rfl := Option.some.inj h
    refine ⟨_, by simp only [Op.unary, Op.intArith, Sem.run_pure]; rfl, ?_⟩
    rename_i a
    rw [wrap_u rfl, show BitVec.ofInt (IntKind.bits .u32) (0 - (a.toNat : Int)) = 0#32 - a from by rw [ofInt_sub']; show BitVec.ofInt 32 0 - BitVec.ofInt 32 _ = _; rw [ofInt_toNat]; rfl]
    exact .w32 _
  · cases hx; obtain rfl := Option.some.inj h
    refine ⟨_, by simp only [Op.unary, Op.intArith, Sem.run_pure]; rfl, ?_⟩
    rename_i a
    rw [wrap_u rfl, show BitVec.ofInt (IntKind.bits .u64) (0 - (a.toNat : Int)) = 0#64 - a from by rw [ofInt_sub']; show BitVec.ofInt 64 0 - BitVec.ofInt 64 _ = _; rw [ofInt_toNat]; rfl]
    exact .w64 _
  · cases hx; obtain rfl := Option.some.inj h
    refine ⟨_, by simp only [Op.unary, Op.intBits, Sem.run_pure]; rfl, ?_⟩
    rename_i a
    have e : (BitVec.ofInt 8 (if IntKind.signed .u8 = true then -1 else IntKind.max .u8) : BitVec 8) = BitVec.allOnes 8 := by decide
    rw [wrap_of_nat rfl _ (BitVec.isLt _)]
    have e2 : ((BitVec.ofInt 8 (if IntKind.signed .u8 = true then -1 else IntKind.max .u8) ^^^ BitVec.ofInt 8 (a.toNat : Int)) : BitVec 8) = ~~~a := by rw [e, ofInt_toNat, BitVec.allOnes_xor]
    exact (congrArg (fun (z : BitVec 8) => Rel σ I w (.w8 (~~~a)) (.int .u8 z.toNat)) e2).mpr (.w8 _)
  · cases hx; obtain rfl := Option.some.inj h
    refine ⟨_, by simp only [Op.unary, Op.intBits, Sem.run_pure]; rfl, ?_⟩
    rename_i a
    have e : (BitVec.ofInt 16 (if IntKind.signed .u16 = true then -1 else IntKind.max .u16) : BitVec 16) = BitVec.allOnes 16 := by decide
    rw [wrap_of_nat rfl _ (BitVec.isLt _)]
    have e2 : ((BitVec.ofInt 16 (if IntKind.signed .u16 = true then -1 else IntKind.max .u16) ^^^ BitVec.ofInt 16 (a.toNat : Int)) : BitVec 16) = ~~~a := by rw [e, ofInt_toNat, BitVec.allOnes_xor]
    exact (congrArg (fun (z : BitVec 16) => Rel σ I w (.w16 (~~~a)) (.int .u16 z.toNat)) e2).mpr (.w16 _)
  · cases hx; obtain rfl := Option.some.inj h
    refine ⟨_, by simp only [Op.unary, Op.intBits, Sem.run_pure]; rfl, ?_⟩
    rename_i a
    have e : (BitVec.ofInt 32 (if IntKind.signed .u32 = true then -1 else IntKind.max .u32) : BitVec 32) = BitVec.allOnes 32 := by decide
    rw [wrap_of_nat rfl _ (BitVec.isLt _)]
    have e2 : ((BitVec.ofInt 32 (if IntKind.signed .u32 = true then -1 else IntKind.max .u32) ^^^ BitVec.ofInt 32 (a.toNat : Int)) : BitVec 32) = ~~~a := by rw [e, ofInt_toNat, BitVec.allOnes_xor]
    exact (congrArg (fun (z : BitVec 32) => Rel σ I w (.w32 (~~~a)) (.int .u32 z.toNat)) e2).mpr (.w32 _)
  · cases hx; obtain rfl := Option.some.inj h
    refine ⟨_, by simp only [Op.unary, Op.intBits, Sem.run_pure]; rfl, ?_⟩
    rename_i a
    have e : (BitVec.ofInt 64 (if IntKind.signed .u64 = true then -1 else IntKind.max .u64) : BitVec 64) = BitVec.allOnes 64 := by decide
    rw [wrap_of_nat rfl _ (BitVec.isLt _)]
    have e2 : ((BitVec.ofInt 64 (if IntKind.signed .u64 = true then -1 else IntKind.max .u64) ^^^ BitVec.ofInt 64 (a.toNat : Int)) : BitVec 64) = ~~~a := by rw [e, ofInt_toNat, BitVec.allOnes_xor]
    exact (congrArg (fun (z : BitVec 64) => Rel σ I w (.w64 (~~~a)) (.int .u64 z.toNat)) e2).mpr (.w64 _)
  · cases hx; obtain rfl := Option.some.inj h; exact ⟨_, by simp only [Op.unary, Sem.run_pure], .b _⟩

theorem ix_inv {x : AV} {v : Value} {n : Int} (h : ix x = some n) (hr : Rel σ I w x v) : ∃ k, v = .int k n := by
  cases x <;> simp only [ix] at h <;> first | (cases h; done) | skip
  all_goals (cases hr; obtain rfl := Option.some.inj h; exact ⟨_, rfl⟩)

theorem toK_sound {k : IntKind} {x z : AV} {a : Value} (h : toK k x = some z) (hx : Rel σ I w x a) :
    ∃ k' m v, a = .int k' m ∧ (Conv.intToInt k m).run P w = .ok v w ∧ Rel σ I w z v := by
  unfold toK at h
  split at h
  · split at h <;> first | (cases h; done) | skip
    · cases hx; obtain rfl := Option.some.inj h; exact ⟨_, _, _, rfl, by simp only [Conv.intToInt, Sem.run_pure]; rw [wrap_u rfl]; rfl, .w8 _⟩
    · cases hx; obtain rfl := Option.some.inj h; exact ⟨_, _, _, rfl, by simp only [Conv.intToInt, Sem.run_pure]; rw [wrap_u rfl]; exact congrArg (fun z : BitVec 8 => Result.ok (Value.int .u8 z.toNat) w) (ofInt_toNat _), .w8 _⟩
    · cases hx; obtain rfl := Option.some.inj h; exact ⟨_, _, _, rfl, by simp only [Conv.intToInt, Sem.run_pure]; rw [wrap_u rfl]; exact congrArg (fun z : BitVec 8 => Result.ok (Value.int .u8 z.toNat) w) (ofInt_toNat' _), .w8 _⟩
    · cases hx; obtain rfl := Option.some.inj h; exact ⟨_, _, _, rfl, by simp only [Conv.intToInt, Sem.run_pure]; rw [wrap_u rfl]; exact congrArg (fun z : BitVec 8 => Result.ok (Value.int .u8 z.toNat) w) (ofInt_toNat' _), .w8 _⟩
    · cases hx; obtain rfl := Option.some.inj h; exact ⟨_, _, _, rfl, by simp only [Conv.intToInt, Sem.run_pure]; rw [wrap_u rfl]; exact congrArg (fun z : BitVec 8 => Result.ok (Value.int .u8 z.toNat) w) (ofInt_toNat' _), .w8 _⟩
  · split at h <;> first | (cases h; done) | skip
    · cases hx; obtain rfl := Option.some.inj h; exact ⟨_, _, _, rfl, by simp only [Conv.intToInt, Sem.run_pure]; rw [wrap_u rfl]; rfl, .w16 _⟩
    · cases hx; obtain rfl := Option.some.inj h; exact ⟨_, _, _, rfl, by simp only [Conv.intToInt, Sem.run_pure]; rw [wrap_u rfl]; exact congrArg (fun z : BitVec 16 => Result.ok (Value.int .u16 z.toNat) w) (ofInt_toNat' _), .w16 _⟩
    · cases hx; obtain rfl := Option.some.inj h; exact ⟨_, _, _, rfl, by simp only [Conv.intToInt, Sem.run_pure]; rw [wrap_u rfl]; exact congrArg (fun z : BitVec 16 => Result.ok (Value.int .u16 z.toNat) w) (ofInt_toNat _), .w16 _⟩
    · cases hx; obtain rfl := Option.some.inj h; exact ⟨_, _, _, rfl, by simp only [Conv.intToInt, Sem.run_pure]; rw [wrap_u rfl]; exact congrArg (fun z : BitVec 16 => Result.ok (Value.int .u16 z.toNat) w) (ofInt_toNat' _), .w16 _⟩
    · cases hx; obtain rfl := Option.some.inj h; exact ⟨_, _, _, rfl, by simp only [Conv.intToInt, Sem.run_pure]; rw [wrap_u rfl]; exact congrArg (fun z : BitVec 16 => Result.ok (Value.int .u16 z.toNat) w) (ofInt_toNat' _), .w16 _⟩
  · split at h <;> first | (cases h; done) | skip
    · cases hx; obtain rfl := Option.some.inj h; exact ⟨_, _, _, rfl, by simp only [Conv.intToInt, Sem.run_pure]; rw [wrap_u rfl]; rfl, .w32 _⟩
    · cases hx; obtain rfl := Option.some.inj h; exact ⟨_, _, _, rfl, by simp only [Conv.intToInt, Sem.run_pure]; rw [wrap_u rfl]; exact congrArg (fun z : BitVec 32 => Result.ok (Value.int .u32 z.toNat) w) (ofInt_toNat' _), .w32 _⟩
    · cases hx; obtain rfl := Option.some.inj h; exact ⟨_, _, _, rfl, by simp only [Conv.intToInt, Sem.run_pure]; rw [wrap_u rfl]; exact congrArg (fun z : BitVec 32 => Result.ok (Value.int .u32 z.toNat) w) (ofInt_toNat' _), .w32 _⟩
    · cases hx; obtain rfl := Option.some.inj h; exact ⟨_, _, _, rfl, by simp only [Conv.intToInt, Sem.run_pure]; rw [wrap_u rfl]; exact congrArg (fun z : BitVec 32 => Result.ok (Value.int .u32 z.toNat) w) (ofInt_toNat _), .w32 _⟩
    · cases hx; obtain rfl := Option.some.inj h; exact ⟨_, _, _, rfl, by simp only [Conv.intToInt, Sem.run_pure]; rw [wrap_u rfl]; exact congrArg (fun z : BitVec 32 => Result.ok (Value.int .u32 z.toNat) w) (ofInt_toNat' _), .w32 _⟩
  · split at h <;> first | (cases h; done) | skip
    · cases hx; obtain rfl := Option.some.inj h; exact ⟨_, _, _, rfl, by simp only [Conv.intToInt, Sem.run_pure]; rw [wrap_u rfl]; rfl, .w64 _⟩
    · cases hx; obtain rfl := Option.some.inj h; exact ⟨_, _, _, rfl, by simp only [Conv.intToInt, Sem.run_pure]; rw [wrap_u rfl]; exact congrArg (fun z : BitVec 64 => Result.ok (Value.int .u64 z.toNat) w) (ofInt_toNat' _), .w64 _⟩
    · cases hx; obtain rfl := Option.some.inj h; exact ⟨_, _, _, rfl, by simp only [Conv.intToInt, Sem.run_pure]; rw [wrap_u rfl]; exact congrArg (fun z : BitVec 64 => Result.ok (Value.int .u64 z.toNat) w) (ofInt_toNat' _), .w64 _⟩
    · cases hx; obtain rfl := Option.some.inj h; exact ⟨_, _, _, rfl, by simp only [Conv.intToInt, Sem.run_pure]; rw [wrap_u rfl]; exact congrArg (fun z : BitVec 64 => Result.ok (Value.int .u64 z.toNat) w) (ofInt_toNat' _), .w64 _⟩
    · cases hx; obtain rfl := Option.some.inj h; exact ⟨_, _, _, rfl, by simp only [Conv.intToInt, Sem.run_pure]; rw [wrap_u rfl]; exact congrArg (fun z : BitVec 64 => Result.ok (Value.int .u64 z.toNat) w) (ofInt_toNat _), .w64 _⟩
  · split at h <;> first | (cases h; done) | skip
    · cases hx; obtain rfl := Option.some.inj h; exact ⟨_, _, _, rfl, by simp only [Conv.intToInt, Sem.run_pure]; rfl, .i _⟩
    · cases hx; obtain rfl := Option.some.inj h; exact ⟨_, _, _, rfl, by simp only [Conv.intToInt, Sem.run_pure]; exact congrArg (fun z => Result.ok (Value.int .i64 z) w) (W_toNat _ (by decide)), .i _⟩
    · cases hx; obtain rfl := Option.some.inj h; exact ⟨_, _, _, rfl, by simp only [Conv.intToInt, Sem.run_pure]; exact congrArg (fun z => Result.ok (Value.int .i64 z) w) (W_toNat _ (by decide)), .i _⟩
    · cases hx; obtain rfl := Option.some.inj h; exact ⟨_, _, _, rfl, by simp only [Conv.intToInt, Sem.run_pure]; exact congrArg (fun z => Result.ok (Value.int .i64 z) w) (W_toNat _ (by decide)), .i _⟩
    · cases hx; obtain rfl := Option.some.inj h; exact ⟨_, _, _, rfl, by simp only [Conv.intToInt, Sem.run_pure]; rfl, .i _⟩
  · cases h
end
end Go.AX

namespace Go.AX
open Go

def szOf (P : Program) (t : TypeId) : Option Nat := (P.info? t).map (·.size)
def byOf (P : Program) (t : TypeId) : Option Nat := (P.info? t).map (·.bytes)
def zcells (P : Program) (t : TypeId) : Option (List AV) :=
  match (P.info? t).bind (·.zero) with
  | some z => if z.cells.toList.all Value.oneCell' then some (z.cells.toList.map ofV1) else none
  | none => none
def isAggT (P : Program) (t : TypeId) : Option Bool :=
  (P.underlying t).map fun | .struct _ => true | .array _ _ => true | _ => false

def obind {α β : Type} (a : Option α) (f : α → Option β) : Option β := match a with | some x => f x | none => none
theorem obind_some {α β : Type} (x : α) (f : α → Option β) : obind (some x) f = f x := rfl
theorem obind_inv {α β : Type} {a : Option α} {f : α → Option β} {y : β} (h : obind a f = some y) : ∃ x, a = some x ∧ f x = some y := by
  cases a with
  | none => cases h
  | some x => exact ⟨x, rfl, h⟩
def guardO {α : Type} (p : Prop) [Decidable p] (x : Option α) : Option α := if p then x else none
theorem guardO_inv {α : Type} {p : Prop} [Decidable p] {x : Option α} {y : α} (h : guardO p x = some y) : p ∧ x = some y := by
  unfold guardO at h
  split at h
  · exact ⟨‹_›, h⟩
  · cases h
theorem guardO_true {α : Type} {p : Prop} [Decidable p] (x : Option α) (h : p) : guardO p x = x := if_pos h

/-- The cells of a value that is stored. -/
def cellsV : AV → Option (List AV)
  | .agg xs => some xs
  | .tup _ | .junk => none
  | .v x => if x.oneCell' then some [.v x] else none
  | x => some [x]

def splice (xs : List AV) (off : Nat) (ys : List AV) : List AV := xs.take off ++ ys ++ xs.drop (off + ys.length)

/-- A variable of a type, read out of cells. -/
def ldV (P : Program) (t : TypeId) (ys : List AV) : Option AV :=
  obind (isAggT P t) fun g => if g then obind (szOf P t) fun n => guardO (n ≤ ys.length) (some (.agg (ys.take n))) else ys.head?

def fillA (place : Nat → Option (Nat × Nat)) : List AV → List (Nat × AV) → Option (List AV)
  | cells, [] => some cells
  | cells, (i, v) :: rest => obind (place i) fun os => obind (cellsV v) fun vc => guardO (vc.length = os.2 ∧ os.1 + os.2 ≤ cells.length) (fillA place (splice cells os.1 vc) rest)

/-- Parts that stand one behind the other, a cell each. -/
def seqA : Nat → List (Nat × AV) → Option (List AV)
  | _, [] => some []
  | k, (i, v) :: rest => guardO (i = k) (obind (match cellsV v with | some [c] => some c | _ => none) fun c => obind (seqA (k + 1) rest) fun r => some (c :: r))

def isBoolT (P : Program) (t : TypeId) : Bool := match P.underlying t with | some .bool => true | _ => false

/-- Equality, along a type. -/
def eqItemsA (f : AV → AV → Option Bool) (g : Nat → List AV → Option AV) (xs ys : List AV) : List Nat → Option Bool
  | [] => some true
  | i :: r => obind (g i xs) fun a => obind (g i ys) fun b => obind (f a b) fun q => if q = true then eqItemsA f g xs ys r else some false
def eqFieldsA (P : Program) (f : TypeId → AV → AV → Option Bool) (xs ys : List AV) : List Field → Option Bool
  | [] => some true
  | fd :: r => if fd.name ≠ "_" then obind (ldV P fd.type (xs.drop fd.offset)) fun a => obind (ldV P fd.type (ys.drop fd.offset)) fun b => obind (f fd.type a b) fun q => if q = true then eqFieldsA P f xs ys r else some false
    else eqFieldsA P f xs ys r
def eqS (x y : AV) : Option Bool :=
  match x, y with
  | .w8 a, .w8 b => some (decide (a = b))
  | .w16 a, .w16 b => some (decide (a = b))
  | .w32 a, .w32 b => some (decide (a = b))
  | .w64 a, .w64 b => some (decide (a = b))
  | .i a, .i b => some (decide (a = b))
  | _, _ => none
def eqT (P : Program) : Nat → TypeId → AV → AV → Option Bool
  | 0, _, _, _ => none
  | d + 1, t, x, y => match P.underlying t with
    | some .bool => match x, y with | .b a, .b b => some (a == b) | _, _ => none
    | some (.int _) => eqS x y
    | some .string => match x, y with | .s a, .s b => some (decide (a = b)) | _, _ => none
    | some (.array n e) => obind (szOf P e) fun z => match x, y with
      | .agg xs, .agg ys => eqItemsA (eqT P d e) (fun i cs => ldV P e (cs.drop (i * z))) xs ys (List.range n)
      | _, _ => none
    | some (.struct fs) => match x, y with
      | .agg xs, .agg ys => guardO (P.stoodInHeld t = false) (eqFieldsA P (eqT P d) xs ys fs.toList)
      | _, _ => none
    | _ => none
def isPtrT (P : Program) (t : TypeId) : Bool := match P.underlying t with | some (.pointer _) => true | _ => false

def isIfT (P : Program) (t : TypeId) : Bool := match P.underlying t with | some (.interface _) => true | _ => false
def isSlT (P : Program) (t : TypeId) : Bool := match P.underlying t with | some (.slice _) => true | _ => false
/-- A slice that holds something is not nil. -/
def slNilB (P : Program) (op : BinOp) (t : TypeId) (n : Nat) : Option AV :=
  match op with
  | .eql => guardO (isSlT P t = true ∧ 0 < n) (some (.b false))
  | .neq => guardO (isSlT P t = true ∧ 0 < n) (some (.b true))
  | _ => none

def binT (P : Program) (op : BinOp) (t : TypeId) (x y : AV) : Option AV :=
  match x, y with
  | .b a, .b b => match op with
    | .eql => guardO (isBoolT P t = true) (some (.b (a == b)))
    | .neq => guardO (isBoolT P t = true) (some (.b (!(a == b))))
    | _ => none
  | .agg xs, .agg ys => match op with
    | .eql => guardO (P.eqGuardType P.depth t = false) (obind (eqT P 6 t (.agg xs) (.agg ys)) fun r => some (.b r))
    | .neq => guardO (P.eqGuardType P.depth t = false) (obind (eqT P 6 t (.agg xs) (.agg ys)) fun r => some (.b (!r)))
    | _ => none
  | .v (.iface _ _), .v .nilIface => match op with
    | .eql => guardO (isIfT P t = true) (some (.b false))
    | .neq => guardO (isIfT P t = true) (some (.b true))
    | _ => none
  | .sl n _, .v (.slice none 0 0) => slNilB P op t n
  | .os _ _ n _ _, .v (.slice none 0 0) => slNilB P op t n
  | .v (.pointer none), y => match op with
    | .eql => guardO (isPtrT P t = true) (obind (nilEq (.v (.pointer none)) y) fun r => some (.b r))
    | .neq => guardO (isPtrT P t = true) (obind (nilEq (.v (.pointer none)) y) fun r => some (.b (!r)))
    | _ => none
  | x, .v (.pointer none) => match op with
    | .eql => guardO (isPtrT P t = true) (obind (nilEq x (.v (.pointer none))) fun r => some (.b r))
    | .neq => guardO (isPtrT P t = true) (obind (nilEq x (.v (.pointer none))) fun r => some (.b (!r)))
    | _ => none
  | x, y => bin op x y

def loIx (v : Option AV) : Option Int := match v with | none => some 0 | some v => ix v
def hiIx (v : Option AV) (n : Nat) : Option Int := match v with | none => some n | some v => ix v

def sliceA (P : Program) (t : TypeId) (x : AV) (lo hi : Option AV) : Option AV :=
  match P.underlying t with
  | some (.slice e) => obind (szOf P e) fun z => match x with
    | .sl n xs => obind (loIx lo) fun l => obind (hiIx hi n) fun h => guardO (0 ≤ l ∧ l ≤ h ∧ h ≤ n) (some (.sl (h.toNat - l.toNat) ((xs.drop (l.toNat * z)).take ((h.toNat - l.toNat) * z))))
    | .os id off n e' g => obind (loIx lo) fun l => obind (hiIx hi n) fun h => guardO (e' = z ∧ 0 ≤ l ∧ l ≤ h ∧ h ≤ n) (some (.os id (off + l.toNat * z) (h.toNat - l.toNat) z g))
    | .v (.slice none 0 0) => obind (loIx lo) fun l => obind (hiIx hi 0) fun h => guardO (0 ≤ l ∧ l ≤ h ∧ h ≤ 0) (some (.v (.slice none 0 0)))
    | _ => none
  | some (.array n e) => obind (szOf P e) fun z => obind (loIx lo) fun l => obind (hiIx hi n) fun h => guardO (0 ≤ l ∧ l ≤ h ∧ h ≤ n) (match x with
    | .rp xs => some (.sl (h.toNat - l.toNat) ((xs.drop (l.toNat * z)).take ((h.toNat - l.toNat) * z)))
    | .op id off => some (.os id (off + l.toNat * z) (h.toNat - l.toNat) z false)
    | _ => none)
  | some .string => match x with
    | .s c => obind (loIx lo) fun l => obind (hiIx hi c.length) fun h => guardO (0 ≤ l ∧ l ≤ h ∧ h ≤ c.length) (some (.s ((c.drop l.toNat).take (h.toNat - l.toNat))))
    | _ => none
  | _ => none

/-- A slice with its capacity told. -/
def sliceA3 (P : Program) (t : TypeId) (x : AV) (lo hi : Option AV) (mx : AV) : Option AV :=
  match P.underlying t with
  | some (.slice e) => obind (szOf P e) fun z => match x with
    | .os id off n e' g => obind (loIx lo) fun l => obind (hiIx hi n) fun h => obind (ix mx) fun m => guardO (hi.isSome = true ∧ e' = z ∧ 0 ≤ l ∧ l ≤ h ∧ h ≤ m ∧ m ≤ n) (some (.os id (off + l.toNat * z) (h.toNat - l.toNat) z g))
    | _ => none
  | _ => none

def lenA (P : Program) (t : TypeId) (x : AV) : Option AV :=
  match P.underlying t with
  | some (.slice _) => match x with
    | .sl n _ => some (.i n)
    | .os _ _ n _ _ => some (.i n)
    | .v (.slice none 0 0) => some (.i 0)
    | _ => none
  | some .string => match x with | .s l => some (.i l.length) | _ => none
  | some (.array n _) => some (.i n)
  | _ => none

def min2A (x y : AV) : Option AV :=
  match x, y with
  | .i a, .i b => some (.i (if b < a then b else a))
  | .w8 a, .w8 b => some (.w8 (if b < a then b else a))
  | .w16 a, .w16 b => some (.w16 (if b < a then b else a))
  | .w32 a, .w32 b => some (.w32 (if b < a then b else a))
  | .w64 a, .w64 b => some (.w64 (if b < a then b else a))
  | _, _ => none
def max2A (x y : AV) : Option AV :=
  match x, y with
  | .i a, .i b => some (.i (if a < b then b else a))
  | .w8 a, .w8 b => some (.w8 (if a < b then b else a))
  | .w16 a, .w16 b => some (.w16 (if a < b then b else a))
  | .w32 a, .w32 b => some (.w32 (if a < b then b else a))
  | .w64 a, .w64 b => some (.w64 (if a < b then b else a))
  | _, _ => none

/-- 'cap' of a nil slice. -/
def capA (P : Program) (t : TypeId) (x : AV) : Option AV :=
  match P.underlying t, x with
  | some (.slice _), .v (.slice none 0 0) => some (.i 0)
  | _, _ => none
def callLen (P : Program) (c : Call) (ρ : Operand → AV) : Option AV :=
  match c.callee, c.args.toList, c.argTypes.toList with
  | .builtin .len, [x], t :: _ => lenA P t (ρ x)
  | .builtin .min, [x, y], _ => min2A (ρ x) (ρ y)
  | .builtin .max, [x, y], _ => max2A (ρ x) (ρ y)
  | .builtin .cap, [x], t :: _ => capA P t (ρ x)
  | _, _, _ => none

def pureOp (P : Program) (op : Op) (ρ : Operand → AV) : Option AV :=
  match op with
  | .move x => some (ρ x)
  | .assign x => some (ρ x)
  | .pick c a b => match ρ c with | .b t => some (if t then ρ a else ρ b) | _ => none
  | .nilCheck x => match ρ x with | .op id off => some (.op id off) | .rp xs => some (.rp xs) | _ => none
  | .binOp o t x y _ => binT P o t (ρ x) (ρ y)
  | .unOp o _ x => un o (ρ x)
  | .convert src dst x => obind (P.underlying src) fun _ => match P.underlying dst with
    | some (.int k) => toK k (ρ x)
    | some .string => match ρ x with | .s l => some (.s l) | _ => none
    | _ => none
  | .sliceToArrayPointer t x => match P.underlying t with
    | some (.array n _) => guardO (0 < n) (match ρ x with
      | .sl m xs => guardO (n ≤ m) (some (.rp xs))
      | .os id off m _ _ => guardO (n ≤ m) (some (.op id off))
      | _ => none)
    | _ => none
  | .fieldAddr s x f => match P.underlying s with
    | some (.struct fs) => obind fs[f]? fun fd => obind (szOf P fd.type) fun n => guardO (0 < n) (match ρ x with
      | .op id off => some (.op id (off + fd.offset))
      | .rp xs => some (.rp (xs.drop fd.offset))
      | _ => none)
    | _ => none
  | .field s x f => match P.underlying s with
    | some (.struct fs) => obind fs[f]? fun fd => match ρ x with
      | .agg cs => ldV P fd.type (cs.drop fd.offset)
      | _ => none
    | _ => none
  | .indexAddr t x j => obind (ix (ρ j)) fun j => match P.underlying t with
    | some (.slice e) => obind (szOf P e) fun z => match ρ x with
      | .sl n xs => guardO (0 ≤ j ∧ j < n) (some (.rp (xs.drop (j.toNat * z))))
      | .os id off n e' _ => guardO (e' = z ∧ 0 ≤ j ∧ j < n) (some (.op id (off + j.toNat * z)))
      | _ => none
    | some (.array n e) => obind (szOf P e) fun z => guardO (0 ≤ j ∧ j < n) (match ρ x with
      | .rp xs => some (.rp (xs.drop (j.toNat * z)))
      | .op id off => some (.op id (off + j.toNat * z))
      | _ => none)
    | _ => none
  | .index t x j => obind (ix (ρ j)) fun j => match P.underlying t with
    | some (.array n e) => obind (szOf P e) fun z => guardO (0 ≤ j ∧ j < n) (match ρ x with
      | .agg cs => ldV P e (cs.drop (j.toNat * z))
      | _ => none)
    | some .string => match ρ x with
      | .s l => guardO (0 ≤ j) (obind l[j.toNat]? fun c => some (.w8 c))
      | _ => none
    | _ => none
  | .build t parts => obind (zcells P t) fun zs => match P.underlying t with
    | some (.struct fs) => obind (fillA (fun k => obind fs[k]? fun fd => obind (szOf P fd.type) fun n => some (fd.offset, n)) zs (parts.toList.map fun p => (p.1, ρ p.2))) fun cs =>
        guardO (fs.toList.all (fun fd => (szOf P fd.type).isSome) = true) (some (.agg cs))
    | some (.array n e) => obind (szOf P e) fun z => match (if z = 1 ∧ zs.length = parts.size then seqA 0 (parts.toList.map fun p => (p.1, ρ p.2)) else none) with
      | some cs => some (.agg cs)
      | none => obind (fillA (fun k => some (k * z, z)) zs (parts.toList.map fun p => (p.1, ρ p.2))) fun cs => guardO (0 < n) (some (.agg cs))
    | _ => none
  | .makeFunc (.func f) first captured => guardO (first.size = 0) (some (.fn f (captured.toList.map ρ)))
  | .extract t k => match ρ t with | .tup xs => xs[k]? | _ => none
  | .slice t x lo hi none => sliceA P t (ρ x) (lo.map ρ) (hi.map ρ)
  | .slice t x lo hi (some mx) => sliceA3 P t (ρ x) (lo.map ρ) (hi.map ρ) (ρ mx)
  | .call c => callLen P c ρ
  | .typeAssert x _ t true => match ρ x with
    | .v (.iface t' v) => guardO (t' = t ∧ isIfT P t = false ∧ (P.underlying t).isSome = true) (some (.tup [ofV v, .b true]))
    | _ => none
  | _ => none

/-- A slice's cells, as they are now: how many elements, and the cells. -/
def slCells (hp : H) (z : Nat) (x : AV) : Option (Nat × List AV) :=
  match x with
  | .sl n xs => guardO (xs.length = n * z) (some (n, xs))
  | .os id off n e _ => obind (hp id) fun o => match o with
    | .cells xs _ => guardO (e = z ∧ off + n * z ≤ xs.length) (some (n, (xs.drop off).take (n * z)))
    | _ => none
  | .v (.slice none 0 0) => some (0, [])
  | _ => none

def unW8 : List AV → Option (List (BitVec 8))
  | [] => some []
  | .w8 x :: r => obind (unW8 r) fun l => some (x :: l)
  | _ :: _ => none

/-- Keys held against each other; where a key stands in a map. -/
def kEq : AV → AV → Option Bool
  | .i a, .i b => some (decide (a = b)) | .w8 a, .w8 b => some (decide (a = b)) | .w16 a, .w16 b => some (decide (a = b)) | .w32 a, .w32 b => some (decide (a = b)) | .w64 a, .w64 b => some (decide (a = b)) | .s a, .s b => some (decide (a = b))
  | _, _ => none
def keyD : TypeDesc → AV → Bool
  | .int .i64, .i _ => true | .int .u8, .w8 _ => true | .int .u16, .w16 _ => true | .int .u32, .w32 _ => true | .int .u64, .w64 _ => true | .string, .s _ => true
  | _, _ => false
def midx (k : AV) : List (AV × AV) → Option (Option Nat)
  | [] => some none
  | p :: r => obind (kEq k p.1) fun b => match b with | true => some (some 0) | false => obind (midx k r) fun o => some (o.map (· + 1))
def mget (k : AV) (es : List (AV × AV)) : Option (Option AV) := obind (midx k es) fun o => some (o.bind fun j => (es[j]?).map (·.2))
def mput (k v : AV) (es : List (AV × AV)) : Option (List (AV × AV)) := obind (midx k es) fun o => some (match o with | none => es ++ [(k, v)] | some j => es.set j (k, v))
def mdel (k : AV) (es : List (AV × AV)) : Option (List (AV × AV)) := obind (midx k es) fun o => some (match o with | none => es | some j => es.eraseIdx j)
def isMapT (P : Program) (t : TypeId) : Bool := match P.underlying t with | some (.map _ _) => true | _ => false
/-- The zero value of a type. -/
def zvA (P : Program) (t : TypeId) : Option AV := ((P.info? t).bind (·.zero)).map ofV
/-- A map's entries, as they are now. -/
def mpOf (hp : H) : AV → Option (List (AV × AV))
  | .mp id => obind (hp id) fun o => match o with
    | .mapo es _ => some es
    | _ => none
  | .v (.map none) => some []
  | _ => none
def lookR (z : AV) (ok : Bool) : Option AV → AV
  | some v => if ok = true then .tup [v, .b true] else v
  | none => if ok = true then .tup [z, .b false] else z
def lookA (P : Program) (t : TypeId) (x k : AV) (ok : Bool) (hp : H) : Option AV :=
  match P.underlying t with
  | some (.map kt et) => obind (P.underlying kt) fun d => guardO (keyD d k = true) (obind (zvA P et) fun z => obind (mpOf hp x) fun es => obind (mget k es) fun r => some (lookR z ok r))
  | _ => none
def lenMA (P : Program) (t : TypeId) (x : AV) (hp : H) : Option AV :=
  match P.underlying t with
  | some (.map _ _) => obind (mpOf hp x) fun es => some (.i es.length)
  | _ => none
/-- An own slice that is laid into a map is not written any more. -/
def frz1 (hp : H) (x : AV) : Option (AV × H) :=
  match x with
  | .os i off n e _ => obind (hp i) fun o => match o with
    | .cells xs _ => guardO (off + n * e ≤ xs.length) (some (.sl n ((xs.drop off).take (n * e)), upd hp i (.cells xs false)))
    | _ => none
  | .v (.slice none 0 0) => some (.sl 0 [], hp)
  | x => some (x, hp)
def mapO (k x : AV) (id : Nat) (hp : H) : AO → Option (AV × H)
  | .mapo es mt => guardO (mt = true) (obind (mput k x es) fun es' => some (.junk, upd hp id (.mapo es' true)))
  | _ => none
def mapUp (P : Program) (t : TypeId) (m k x : AV) (hp : H) : Option (AV × H) :=
  match P.underlying t with
  | some (.map kt _) => obind (P.underlying kt) fun d => guardO (keyD d k = true) (match m with
    | .mp id => obind (frz1 hp x) fun fx => obind (fx.2 id) (mapO k fx.1 id fx.2)
    | _ => none)
  | _ => none
def delO (k : AV) (id : Nat) (hp : H) : AO → Option (AV × H)
  | .mapo es mt => guardO (mt = true) (obind (mdel k es) fun es' => some (.tup [], upd hp id (.mapo es' true)))
  | _ => none
def delA (P : Program) (t : TypeId) (m k : AV) (hp : H) : Option (AV × H) :=
  match P.underlying t with
  | some (.map kt _) => obind (P.underlying kt) fun d => guardO (keyD d k = true) (match m with
    | .mp id => obind (hp id) (delO k id hp)
    | _ => none)
  | _ => none
def clrO (id : Nat) (hp : H) : AO → Option (AV × H)
  | .mapo _ mt => guardO (mt = true) (some (.tup [], upd hp id (.mapo [] true)))
  | _ => none
def readOp (P : Program) (op : Op) (ρ : Operand → AV) (hp : H) : Option AV :=
  match op with
  | .load t x => match ρ x with
    | .rp ys => ldV P t ys
    | .op id off => obind (hp id) fun o => match o with | .cells xs _ => ldV P t (xs.drop off) | _ => none
    | _ => none
  | .lookup t x k ok => lookA P t (ρ x) (ρ k) ok hp
  | .call c => match c.callee, c.args.toList, c.argTypes.toList with
    | .builtin .len, [x], [t] => lenMA P t (ρ x) hp
    | _, _, _ => none
  | .convert src dst x => match P.underlying src, P.underlying dst with
    | some (.slice e), some .string => match P.underlying e with
      | some (.int .u8) => obind (slCells hp 1 (ρ x)) fun nl => obind (unW8 nl.2) fun l => some (.s l)
      | _ => none
    | _, _ => none
  | _ => none

def rep (n : Nat) (zs : List AV) : List AV := (List.replicate n zs).flatten

def newOp (P : Program) (op : Op) (ρ : Operand → AV) (id : Nat) : Option (AV × List AV) :=
  match op with
  | .alloc t => obind (zcells P t) fun zs => some (.op id 0, zs)
  | .box _ x => obind (cellsV (ρ x)) fun cs => some (.op id 0, cs)
  | .buildSlice t len parts => match P.underlying t with
    | some (.slice e) => obind (szOf P e) fun z => guardO (0 < z ∧ len * z ≤ 16777216) (obind (zcells P e) fun zs => guardO (zs.length = z)
      (obind (fillA (fun k => some (k * z, z)) (rep len zs) (parts.toList.map fun p => (p.1, ρ p.2))) fun cs => some (.os id 0 len z true, cs)))
    | _ => none
  | .makeSlice t l c => match P.underlying t with
    | some (.slice e) => obind (szOf P e) fun z => obind (byOf P e) fun by_ => obind (zcells P e) fun zs => obind (ix (ρ l)) fun l => obind (ix (ρ c)) fun c =>
      guardO (0 < z ∧ zs.length = z ∧ 0 ≤ l ∧ l ≤ c ∧ c ≤ 140737488355328 ∧ c * by_ ≤ 140737488355328) (some (.os id 0 l.toNat z true, rep l.toNat zs))
    | _ => none
  | .convert src dst x => match P.underlying src, P.underlying dst with
    | some .string, some (.slice e) => match P.underlying e, ρ x with
      | some (.int .u8), .s l => guardO (l.length ≤ 140737488355328) (some (.os id 0 l.length 1 true, l.map .w8))
      | _, _ => none
    | _, _ => none
  | _ => none

def isOs : AV → Bool | .os _ _ _ _ _ => true | _ => false
def noOs (xs : List AV) : Bool := !(xs.any isOs)

/-- Own slices that are laid into another object are not written any more. -/
def frzRec (hp : H) : List AV → Option (List AV × H)
  | [] => some ([], hp)
  | x :: r => match x with
    | .os i off n e _ => obind (hp i) fun o => match o with
      | .cells xs _ => guardO (off + n * e ≤ xs.length) (obind (frzRec (upd hp i (.cells xs false)) r) fun p => some (.sl n ((xs.drop off).take (n * e)) :: p.1, p.2))
      | _ => none
    | x => obind (frzRec hp r) fun p => some (x :: p.1, p.2)
def frzL (hp : H) (xs : List AV) : Option (List AV × H) := if noOs xs = true then some (xs, hp) else frzRec hp xs

def storeL (xs : List AV) (off : Nat) (cs : List AV) : List AV := match cs with | [c] => xs.set off c | cs => splice xs off cs

def srcA (hp : H) (z : Nat) (y : AV) : Option (Nat × List AV) :=
  match y with
  | .s l => guardO (z = 1) (some (l.length, l.map .w8))
  | y => slCells hp z y

/-- What an append comes to, its cells being known. -/
def apTail (z by_ : Nat) (x : AV) (m : Nat) (ys : List AV) (hp : H) (id : Nat) : Option (AV × H) :=
  match x with
    | .v (.slice none 0 0) => guardO (m ≤ 140737488355328 ∧ m * by_ ≤ 140737488355328) (some (.os id 0 m z true, upd hp id (.cells ys true)))
    | .os i off n e' g => obind (hp i) fun o => match o with
      | .cells xs mt => guardO (mt = true ∧ g = true ∧ e' = z ∧ off + n * z = xs.length ∧ n + m ≤ 140737488355328 ∧ (n + m) * by_ ≤ 140737488355328)
          (some (.os id 0 (n + m) z true, upd (del hp i) id (.cells (xs.drop off ++ ys) true)))
      | _ => none
    | _ => none
def eqO {α : Type} (a b : Nat) (x y : Option α) : Option α := if a = b then x else y
/-- An append to a part of an own row: what stood behind is forgotten. -/
def apCut (z by_ i off n e' : Nat) (g : Bool) (m : Nat) (ys : List AV) (hp : H) (id : Nat) (xs : List AV) (mt : Bool) : Option (AV × H) :=
  guardO (mt = true ∧ g = true ∧ e' = z ∧ off + n * z ≤ xs.length ∧ n + m ≤ 140737488355328 ∧ (n + m) * by_ ≤ 140737488355328)
    (some (.os id 0 (n + m) z true, upd (del hp i) id (.cells ((xs.drop off).take (n * z) ++ ys) true)))
def apTl (z by_ : Nat) (x : AV) (m : Nat) (ys : List AV) (hp : H) (id : Nat) : Option (AV × H) :=
  match x with
  | .os i off n e' g => obind (hp i) fun o => match o with
    | .cells xs mt => eqO (off + n * z) xs.length (apTail z by_ (.os i off n e' g) m ys hp id) (apCut z by_ i off n e' g m ys hp id xs mt)
    | _ => none
  | x => apTail z by_ x m ys hp id
def appendA (P : Program) (t : TypeId) (x y : AV) (hp : H) (id : Nat) : Option (AV × H) :=
  match P.underlying t with
  | some (.slice e) => obind (szOf P e) fun z => obind (byOf P e) fun by_ => obind (zcells P e) fun zs => guardO (0 < z ∧ zs.length = z) (obind (srcA hp z y) fun my => obind (frzL hp my.2) fun fy => apTl z by_ x my.1 fy.1 fy.2 id)
  | _ => none
def cntA : AV → Option Nat
  | .i n => guardO (0 ≤ n) (some n.toNat)
  | _ => none
/-- 'append(x, make([]T, n)...)'. -/
def appendZ (P : Program) (t : TypeId) (x y : AV) (hp : H) (id : Nat) : Option (AV × H) :=
  match P.underlying t with
  | some (.slice e) => obind (szOf P e) fun z => obind (byOf P e) fun by_ => obind (zcells P e) fun zs => guardO (0 < z ∧ zs.length = z) (obind (cntA y) fun m => guardO (m ≤ 140737488355328 ∧ m * by_ ≤ 140737488355328) (apTail z by_ x m (rep m zs) hp id))
  | _ => none
def isIntT (P : Program) (t : TypeId) : Bool := match P.underlying t with | some (.int _) => true | _ => false

def copyA (P : Program) (t : TypeId) (x y : AV) (hp : H) : Option (AV × H) :=
  match P.underlying t with
  | some (.slice e) => obind (szOf P e) fun z => obind (srcA hp z y) fun my => match x with
    | .os i off n e' _ => obind (hp i) fun o => match o with
      | .cells xs mt => guardO (mt = true ∧ e' = z ∧ off + n * z ≤ xs.length) (some (.i (min my.1 n : Nat), upd hp i (.cells (splice xs off (my.2.take (min my.1 n * z))) true)))
      | _ => none
    | _ => none
  | _ => none

/-- 'clear(x)' of a slice. -/
def clearA (P : Program) (t : TypeId) (x : AV) (hp : H) : Option (AV × H) :=
  match P.underlying t with
  | some (.map _ _) => match x with
    | .mp id => obind (hp id) (clrO id hp)
    | _ => none
  | some (.slice e) => obind (szOf P e) fun z => obind (zcells P e) fun zs => guardO (0 < z ∧ zs.length = z) (match x with
    | .os i off n e' _ => obind (hp i) fun o => match o with
      | .cells xs mt => guardO (mt = true ∧ e' = z ∧ off + n * z ≤ xs.length) (some (.tup [], upd hp i (.cells (splice xs off (rep n zs)) true)))
      | _ => none
    | _ => none)
  | _ => none

def noIntT (P : Program) (t : TypeId) : Bool := match P.underlying t with | some (.int _) => false | some _ => true | none => false

/-- '[]byte("..")' of a literal: the slice goes on as it is. -/
def markA (P : Program) (e : TypeId) (x : AV) (hp : H) : Option (AV × H) :=
  match P.underlying e with
  | some (.int .u8) => match x with
    | .os i off n e' g => obind (hp i) fun o => match o with
      | .cells xs mt => guardO (mt = true ∧ 0 < n) (some (.os i off n e' g, upd hp i (.cells xs true)))
      | _ => none
    | _ => none
  | _ => none
def writeOp (P : Program) (op : Op) (ρ : Operand → AV) (hp : H) (id : Nat) : Option (AV × H) :=
  match op with
  | .store t a x => match ρ a with
    | .op i off => obind (cellsV (ρ x)) fun cs => obind (szOf P t) fun z => obind (hp i) fun o => match o with
      | .cells xs mt => guardO (mt = true ∧ cs.length = z ∧ off + z ≤ xs.length) (some (.junk, upd hp i (.cells (storeL xs off cs) true)))
      | _ => none
    | _ => none
  | .convert src dst x => guardO (src = dst) (match P.underlying dst with
    | some (.slice e) => markA P e (ρ x) hp
    | _ => none)
  | .makeMap _ none => some (.mp id, upd hp id (.mapo [] true))
  | .mapUpdate t m k x => mapUp P t (ρ m) (ρ k) (ρ x) hp
  | .insert t m k x => mapUp P t (ρ m) (ρ k) (ρ x) hp
  | .call c => match c.callee, c.args.toList, c.argTypes.toList with
    | .builtin .append, [x, y], [t, t'] => if noIntT P t' = true then appendA P t (ρ x) (ρ y) hp id else guardO (isIntT P t' = true) (appendZ P t (ρ x) (ρ y) hp id)
    | .builtin .copy, [x, y], [t, _] => copyA P t (ρ x) (ρ y) hp
    | .builtin .clear, [x], [t] => clearA P t (ρ x) hp
    | .builtin .delete, [x, k], [t, _] => delA P t (ρ x) (ρ k) hp
    | _, _, _ => none
  | _ => none

inductive Cls where | pure | read | new | write | call
  deriving DecidableEq

def cls (P : Program) : Op → Cls
  | .convert src dst _ => match P.underlying src, P.underlying dst with
    | some (.slice _), some .string => .read
    | some .string, some (.slice _) => .new
    | some (.slice _), some (.slice _) => .write
    | _, _ => .pure
  | .load .. => .read
  | .lookup .. => .read
  | .makeMap .. | .mapUpdate .. | .insert .. => .write
  | .alloc .. | .box .. | .buildSlice .. | .makeSlice .. => .new
  | .store .. => .write
  | .call c => match c.callee with
    | .builtin .append | .builtin .copy | .builtin .clear | .builtin .delete => .write
    | .builtin .len => match c.argTypes.toList with
      | [t] => match isMapT P t with
        | true => .read
        | false => .pure
      | _ => .pure
    | .builtin _ => .pure
    | _ => .call
  | _ => .pure

end Go.AX

namespace Go.AX
open Go
section
variable {P : Program} {σ : Nat → Loc} {I : Nat → Prop} {w : World}

theorem run_typeInfo' {t : TypeId} {i : TypeInfo} (h : P.info? t = some i) (w : World) : (typeInfo t).run P w = .ok i w := by simp [typeInfo, h]
theorem szOf_inv {t : TypeId} {n : Nat} (h : szOf P t = some n) : ∃ i, P.info? t = some i ∧ i.size = n := by
  unfold szOf at h; cases hi : P.info? t with
  | none => simp [hi] at h
  | some i => exact ⟨i, rfl, by simpa [hi] using h⟩
theorem byOf_inv {t : TypeId} {n : Nat} (h : byOf P t = some n) : ∃ i, P.info? t = some i ∧ i.bytes = n := by
  unfold byOf at h; cases hi : P.info? t with
  | none => simp [hi] at h
  | some i => exact ⟨i, rfl, by simpa [hi] using h⟩
theorem run_sizeOf' {t : TypeId} {n : Nat} (h : szOf P t = some n) (w : World) : (sizeOf t).run P w = .ok n w := by
  obtain ⟨i, hi, hn⟩ := szOf_inv h
  simp [sizeOf, run_typeInfo' hi, hn]
theorem run_isAgg' {t : TypeId} {g : Bool} (h : isAggT P t = some g) (w : World) : (isAgg t).run P w = .ok g w := by
  unfold isAggT at h
  cases hu : P.underlying t with
  | none => simp [hu] at h
  | some d =>
    simp only [hu, Option.map_some, Option.some.injEq] at h
    simp only [isAgg, Sem.run_bind, run_underlying hu, Result.andThen_ok]
    cases d <;> simp_all
theorem run_zeroValue' {t : TypeId} {zs : List AV} (h : zcells P t = some zs) (w : World) :
    ∃ z, (zeroValue t).run P w = .ok z w ∧ (P.info? t).bind (·.zero) = some z ∧ zs = z.cells.toList.map ofV1 ∧ ∀ x ∈ z.cells.toList, x.oneCell' = true := by
  unfold zcells at h
  cases hi : P.info? t with
  | none => simp [hi] at h
  | some i =>
    cases hz : i.zero with
    | none => simp [hi, hz] at h
    | some z =>
      simp only [hi, Option.bind_some, hz] at h
      split at h
      · rename_i hall
        refine ⟨z, by simp [zeroValue, run_typeInfo' hi, hz], by simp [hz], (Option.some.inj h).symm, fun x hx => List.all_eq_true.1 hall x hx⟩
      · cases h

theorem add_off (b o k : Nat) : (⟨b, o, none⟩ : Addr).add k = ⟨b, o + k, none⟩ := by
  unfold Addr.add; split
  · rename_i h; subst h; rfl
  · rfl

theorem rel_agg_sub {xs : List AV} {vs : Array Value} (h : Rel σ I w (.agg xs) (.agg vs)) : vs.size = xs.length ∧ (∀ i (h : i < xs.length), xs[i].isCell = true) ∧ ∀ i (h : i < xs.length), Rel σ I w xs[i] (vs.getD i undef) := by
  cases h with | agg _ _ a b c => exact ⟨a, b, c⟩

theorem getD_list {vs : List Value} {i : Nat} {d : Value} : vs.toArray.getD i d = vs.getD i d := by
  rw [Array.getD_eq_getD_getElem?, List.getD_eq_getElem?_getD]; simp

/-- Cells of a value that is stored. -/
theorem cellsV_inv {x : AV} {cs : List AV} {v : Value} (h : cellsV x = some cs) (hr : Rel σ I w x v) :
    v.cells.size = cs.length ∧ (∀ i (h : i < cs.length), cs[i].isCell = true) ∧ (∀ i (h : i < cs.length), Rel σ I w cs[i] (v.cells.getD i undef)) := by
  have one : ∀ (y : AV) (u : Value), Rel σ I w y u → y.isCell = true → u.cells = #[u] →
      u.cells.size = [y].length ∧ (∀ i (h : i < [y].length), [y][i].isCell = true) ∧ (∀ i (h : i < [y].length), Rel σ I w [y][i] (u.cells.getD i undef)) := by
    intro y u hr hc hu
    refine ⟨by simp [hu], fun i hi => ?_, fun i hi => ?_⟩
    · simp only [List.length_singleton] at hi; obtain rfl : i = 0 := by omega
      exact hc
    · simp only [List.length_singleton] at hi; obtain rfl : i = 0 := by omega
      rw [hu]; exact hr
  cases x with
  | agg xs =>
    obtain rfl := Option.some.inj h
    cases hr with | agg _ vs a b c => exact ⟨a, b, c⟩
  | tup => cases h
  | junk => cases h
  | v x =>
    simp only [cellsV] at h
    split at h
    · rename_i hc
      obtain rfl := Option.some.inj h
      cases hr
      refine one _ _ (.v _) hc ?_
      cases v <;> first | rfl | (simp [Value.oneCell'] at hc)
    · cases h
  | w8 => obtain rfl := Option.some.inj h; cases hr; exact one _ _ (.w8 _) rfl rfl
  | w16 => obtain rfl := Option.some.inj h; cases hr; exact one _ _ (.w16 _) rfl rfl
  | w32 => obtain rfl := Option.some.inj h; cases hr; exact one _ _ (.w32 _) rfl rfl
  | w64 => obtain rfl := Option.some.inj h; cases hr; exact one _ _ (.w64 _) rfl rfl
  | i => obtain rfl := Option.some.inj h; cases hr; exact one _ _ (.i _) rfl rfl
  | b => obtain rfl := Option.some.inj h; cases hr; exact one _ _ (.b _) rfl rfl
  | s => obtain rfl := Option.some.inj h; cases hr; exact one _ _ (.s _) rfl rfl
  | sl => obtain rfl := Option.some.inj h; refine one _ _ hr rfl ?_; cases hr <;> rfl
  | rp => obtain rfl := Option.some.inj h; refine one _ _ hr rfl ?_; cases hr <;> rfl
  | os => obtain rfl := Option.some.inj h; refine one _ _ hr rfl ?_; cases hr <;> rfl
  | op => obtain rfl := Option.some.inj h; refine one _ _ hr rfl ?_; cases hr <;> rfl
  | mp => obtain rfl := Option.some.inj h; refine one _ _ hr rfl ?_; cases hr <;> rfl
  | fn => obtain rfl := Option.some.inj h; refine one _ _ hr rfl ?_; cases hr <;> rfl

theorem getElem_take' {xs : List AV} {n i : Nat} (h : i < (xs.take n).length) : (xs.take n)[i] = xs[i]'(by simp at h; omega) := by simp
theorem getElem_drop' {xs : List AV} {n i : Nat} (h : i < (xs.drop n).length) : (xs.drop n)[i] = xs[n + i]'(by simp at h; omega) := by simp

/-- A variable read out of cells that hold what is known. -/
theorem ldV_load {t : TypeId} {ys : List AV} {x : AV} {blk o : Nat} (h : ldV P t ys = some x)
    (hc : ∀ i (h : i < ys.length), ∃ v, w.cell? ⟨blk, o + i, none⟩ = some v ∧ ys[i].isCell = true ∧ Rel σ I w ys[i] v) :
    ∃ v, (loadVar t ⟨blk, o, none⟩).run P w = .ok v w ∧ Rel σ I w x v := by
  unfold ldV at h
  obtain ⟨g, hg, h⟩ := obind_inv h
  simp only [loadVar, Sem.run_bind, run_isAgg' hg, Result.andThen_ok]
  split at h
  · rename_i hgt
    obtain ⟨n, hn, h⟩ := obind_inv h
    obtain ⟨hle, h⟩ := guardO_inv h
    obtain rfl := Option.some.inj h
    simp only [hgt, if_true, Sem.run_bind, run_sizeOf' hn, Result.andThen_ok]
    have hl := run_loadCells (P := P) w ⟨blk, o, none⟩ n (fun j => (w.cell? ⟨blk, o + j, none⟩).getD undef) (fun j hj => by
      obtain ⟨v, hv, _⟩ := hc j (by omega)
      rw [add_off, hv]; simp)
    rw [hl]
    simp only [Result.andThen_ok, Sem.run_pure]
    refine ⟨_, rfl, .agg _ _ (by simp; omega) (fun i hi => ?_) (fun i hi => ?_)⟩
    · rw [getElem_take' hi]
      simp at hi
      obtain ⟨v, _, hcell, _⟩ := hc i (by omega)
      exact hcell
    · have hi' := hi
      rw [getElem_take' hi]
      simp at hi'
      obtain ⟨v, hv, _, hr⟩ := hc i (by omega)
      have : (List.map (fun j => (w.cell? ⟨blk, o + j, none⟩).getD undef) (List.range n)).toArray.getD i undef = v := by
        rw [getD_list, List.getD_eq_getElem?_getD, List.getElem?_map, List.getElem?_range (by omega)]
        simp [hv]
      rw [this]; exact hr
  · rename_i hgf
    simp only [Bool.not_eq_true] at hgf
    simp only [hgf, Bool.false_eq_true, if_false]
    cases ys with
    | nil => simp at h
    | cons y r =>
      simp at h
      subst h
      obtain ⟨v, hv, hcell, hr⟩ := hc 0 (by simp)
      refine ⟨v, ?_, hr⟩
      simp at hv
      simp [run_load, hv]

/-- A part read out of an aggregate. -/
theorem ldV_part {t : TypeId} {cs : List AV} {x : AV} {vs : Array Value} {off : Nat} (h : ldV P t (cs.drop off) = some x) (hr : Rel σ I w (.agg cs) (.agg vs)) :
    ∃ v, (part t vs off).run P w = .ok v w ∧ Rel σ I w x v := by
  obtain ⟨h1, h2, h3⟩ := rel_agg_sub hr
  unfold ldV at h
  obtain ⟨g, hg, h⟩ := obind_inv h
  simp only [part, Sem.run_bind, run_isAgg' hg, Result.andThen_ok]
  split at h
  · rename_i hgt
    obtain ⟨n, hn, h⟩ := obind_inv h
    obtain ⟨hle, h⟩ := guardO_inv h
    obtain rfl := Option.some.inj h
    simp only [hgt, if_true, Sem.run_bind, run_sizeOf' hn, Result.andThen_ok, Sem.run_pure]
    simp at hle
    have hlen : ((cs.drop off).take n).length = n := by simp; omega
    refine ⟨_, rfl, .agg _ _ (by rw [hlen]; simp; omega) (fun i hi => ?_) (fun i hi => ?_)⟩
    · rw [getElem_take' hi, getElem_drop']; exact h2 _ _
    · have hi' := hi
      rw [hlen] at hi'
      rw [getElem_take' hi, getElem_drop']
      have : (vs.extract off (off + n)).getD i undef = vs.getD (off + i) undef := by
        rw [Array.getD_eq_getD_getElem?, Array.getD_eq_getD_getElem?, Array.getElem?_extract]
        rw [if_pos (by omega)]
      rw [this]; exact h3 _ _
  · rename_i hgf
    simp only [Bool.not_eq_true] at hgf
    simp only [hgf, Bool.false_eq_true, if_false]
    rw [List.head?_drop] at h
    obtain ⟨hlt, he⟩ := List.getElem?_eq_some_iff.1 h
    have hv : vs[off]? = some (vs.getD off undef) := by
      rw [Array.getD_eq_getD_getElem?, Array.getElem?_eq_getElem (by omega)]; rfl
    refine ⟨_, by rw [hv]; rfl, ?_⟩
    rw [← he]; exact h3 off hlt

theorem rel_rp_drop {xs : List AV} {blk o k : Nat} (h : Rel σ I w (.rp xs) (.pointer (some ⟨blk, o, none⟩))) : Rel σ I w (.rp (xs.drop k)) (.pointer (some ⟨blk, o + k, none⟩)) := by
  cases h with
  | rp _ _ _ f hb hc h1 h2 =>
    refine .rp _ _ _ (fun i => f (k + i)) hb (fun i hi => ?_) (fun i hi => ?_) (fun i hi => ?_)
    · simp at hi
      rw [Nat.add_assoc]; exact hc (k + i) (by omega)
    · rw [getElem_drop']; exact h1 _ _
    · rw [getElem_drop']; exact h2 _ _

theorem rp_inv {xs : List AV} {v : Value} (h : Rel σ I w (.rp xs) v) : ∃ blk o, v = .pointer (some ⟨blk, o, none⟩) := by cases h; exact ⟨_, _, rfl⟩
theorem op_inv {id off : Nat} {v : Value} (h : Rel σ I w (.op id off) v) : ∃ blk base sz, σ id = .at_ blk base sz ∧ v = .pointer (some ⟨blk, base + off, none⟩) := by cases h; exact ⟨_, _, _, ‹_›, rfl⟩

theorem eqS_sound {x y : AV} {a b : Value} {r : Bool} (h : eqS x y = some r) (hx : Rel σ I w x a) (hy : Rel σ I w y b) : ∃ k m n, a = .int k m ∧ b = .int k n ∧ (m == n) = r := by
  unfold eqS at h
  split at h <;> first | (cases h; done) | skip
  all_goals (cases hx; cases hy; obtain rfl := Option.some.inj h; refine ⟨_, _, _, rfl, rfl, ?_⟩)
  all_goals (rw [Bool.eq_iff_iff, beq_iff_eq, decide_eq_true_eq])
  all_goals first | rw [Int.ofNat_inj, BitVec.toNat_inj] | rfl

theorem eqFieldsA_sound {D : Nat} {f : TypeId → AV → AV → Option Bool} (hf : ∀ {t : TypeId} {x y : AV} {a b : Value} {r : Bool}, f t x y = some r → Rel σ I w x a → Rel σ I w y b → (Op.equalIn D t a b).run P w = .ok r w)
    {xs ys : List AV} {us vs : Array Value} (hx : Rel σ I w (.agg xs) (.agg us)) (hy : Rel σ I w (.agg ys) (.agg vs)) : ∀ (fs : List Field) {r : Bool}, eqFieldsA P f xs ys fs = some r → (Op.eqFields D us vs fs).run P w = .ok r w
  | [], r, h => by obtain rfl := Option.some.inj h; simp [Op.eqFields]
  | fd :: fs, r, h => by
    simp only [eqFieldsA] at h
    simp only [Op.eqFields, Sem.run_ite]
    split at h
    · rename_i hn
      rw [if_pos hn]
      replace h := obind_inv h; obtain ⟨a, ha, h⟩ := h
      replace h := obind_inv h; obtain ⟨b, hb, h⟩ := h
      replace h := obind_inv h; obtain ⟨q, hq, h⟩ := h
      obtain ⟨u, hu, hru⟩ := ldV_part ha hx
      obtain ⟨v, hv, hrv⟩ := ldV_part hb hy
      simp only [Sem.run_bind, hu, hv, Result.andThen_ok, hf hq hru hrv, Sem.run_ite]
      cases q
      · obtain rfl := Option.some.inj h; simp
      · simpa using eqFieldsA_sound hf hx hy fs h
    · rename_i hn
      rw [if_neg hn]
      exact eqFieldsA_sound hf hx hy fs h

theorem eqItemsA_sound {D c : Nat} {e : TypeId} {f : AV → AV → Option Bool} (hf : ∀ {x y : AV} {a b : Value} {r : Bool}, f x y = some r → Rel σ I w x a → Rel σ I w y b → (Op.equalIn D e a b).run P w = .ok r w)
    {xs ys : List AV} {us vs : Array Value} (hx : Rel σ I w (.agg xs) (.agg us)) (hy : Rel σ I w (.agg ys) (.agg vs)) : ∀ (is : List Nat) {r : Bool}, eqItemsA f (fun i cs => ldV P e (cs.drop (i * c))) xs ys is = some r → (Op.eqItems D e c us vs is).run P w = .ok r w
  | [], r, h => by obtain rfl := Option.some.inj h; simp [Op.eqItems]
  | i :: is, r, h => by
    simp only [eqItemsA] at h
    simp only [Op.eqItems]
    replace h := obind_inv h; obtain ⟨a, ha, h⟩ := h
    replace h := obind_inv h; obtain ⟨b, hb, h⟩ := h
    replace h := obind_inv h; obtain ⟨q, hq, h⟩ := h
    obtain ⟨u, hu, hru⟩ := ldV_part ha hx
    obtain ⟨v, hv, hrv⟩ := ldV_part hb hy
    simp only [Sem.run_bind, hu, hv, Result.andThen_ok, hf hq hru hrv, Sem.run_ite]
    cases q
    · obtain rfl := Option.some.inj h; simp
    · simpa using eqItemsA_sound hf hx hy is h

theorem agg_inv {xs : List AV} {v : Value} (h : Rel σ I w (.agg xs) v) : ∃ vs, v = .agg vs := by cases h; exact ⟨_, rfl⟩

theorem eqT_sound : ∀ (d : Nat) {D : Nat} {t : TypeId} {x y : AV} {a b : Value} {r : Bool}, d ≤ D → eqT P d t x y = some r → Rel σ I w x a → Rel σ I w y b → (Op.equalIn D t a b).run P w = .ok r w
  | 0, _, _, _, _, _, _, _, _, h, _, _ => by cases h
  | d + 1, 0, _, _, _, _, _, _, hd, _, _, _ => by omega
  | d + 1, D + 1, t, x, y, a, b, r, hd, h, hx, hy => by
    unfold eqT at h
    split at h
    · rename_i hu
      split at h
      · cases hx; cases hy; obtain rfl := Option.some.inj h
        exact run_equalIn_bool w D t _ _ hu
      · cases h
    · rename_i k hu
      obtain ⟨k', m, n, rfl, rfl, rfl⟩ := eqS_sound h hx hy
      rw [Op.equalIn, Sem.run_bind, run_underlying hu]
      simp only [Result.andThen_ok, if_true, Sem.run_pure]
    · rename_i hu
      split at h
      · cases hx; cases hy; obtain rfl := Option.some.inj h
        rename_i a b
        rw [run_equalIn_string w D t _ _ hu]
        congr 1
        rw [Bool.eq_iff_iff, beq_iff_eq, decide_eq_true_eq, encS_toList, encS_toList]
        exact ⟨encS_inj, fun e => by rw [e]⟩
      · cases h
    · rename_i n e hu
      replace h := obind_inv h; obtain ⟨z, hz, h⟩ := h
      split at h
      · obtain ⟨us, rfl⟩ := agg_inv hx
        obtain ⟨vs, rfl⟩ := agg_inv hy
        have hi : ∃ i, P.info? e = some i ∧ P.cellsOf e = z := by
          unfold szOf at hz
          cases hi : P.info? e with
          | none => simp [hi] at hz
          | some i => simp [hi] at hz; exact ⟨i, rfl, by simp [Program.cellsOf, hi, hz]⟩
        obtain ⟨i, hi, hc⟩ := hi
        rw [run_equalIn_array w D us vs hu hi, hc]
        exact eqItemsA_sound (fun h1 h2 h3 => eqT_sound d (by omega) h1 h2 h3) hx hy _ h
      · cases h
    · rename_i fs hu
      split at h
      · obtain ⟨us, rfl⟩ := agg_inv hx
        obtain ⟨vs, rfl⟩ := agg_inv hy
        obtain ⟨hs, h⟩ := guardO_inv h
        have hf : P.fieldsOf t = fs := by simp [Program.fieldsOf, hu]
        rw [run_equalIn_struct w D t us vs (by rw [hf]; exact hu) hs, hf]
        exact eqFieldsA_sound (fun h1 h2 h3 => eqT_sound d (by omega) h1 h2 h3) hx hy _ h
      · cases h
    · cases h

theorem nilEq_sound {x y : AV} {a b : Value} {t : TypeId} {r : Bool} (hp : isPtrT P t = true) (h : nilEq x y = some r) (hx : Rel σ I w x a) (hy : Rel σ I w y b) : (Op.equal t a b).run P w = .ok r w ∧ ∃ p q, a = .pointer p ∧ b = .pointer q := by
  unfold isPtrT at hp
  split at hp
  · rename_i e hu
    have go : ∀ (p q : Option Addr), (p = none ∨ q = none) → (p.isNone && q.isNone) = r → (Op.equal t (.pointer p) (.pointer q)).run P w = .ok r w := by
      intro p q hpq hr
      show (Op.equalIn (9999 + 1) t _ _).run P w = _
      rw [Op.equalIn, Sem.run_bind, run_underlying hu]
      cases p with
      | none => simp at hr; simp [Result.andThen_ok, hr]
      | some p => cases q with
        | none => simp at hr; simp [Result.andThen_ok, hr]
        | some q => simp at hpq
    unfold nilEq at h
    split at h <;> first | (cases h; done) | skip
    all_goals (obtain rfl := Option.some.inj h; cases hx; cases hy)
    all_goals exact ⟨go _ _ (by simp) (by simp), _, _, rfl, rfl⟩
  · cases hp

theorem slNil_sound {op : BinOp} {z : AV} {a : Value} {adr : Addr} {n cap m : Nat} {t : TypeId} (X Y : Operand) (h : slNilB P op t m = some z) (ha : a = .slice (some adr) n cap) :
    ∃ v, (do eqGuard op t X Y a (.slice none 0 0); binOp op t a (.slice none 0 0) : Sem Value).run P w = .ok v w ∧ Rel σ I w z v := by
  subst ha
  have key : isSlT P t = true → (Op.equal t (.slice (some adr) n cap) (.slice none 0 0)).run P w = .ok false w := by
    intro hs
    unfold isSlT at hs
    split at hs
    · rename_i e hu
      show (Op.equalIn (9999 + 1) t _ _).run P w = _
      rw [Op.equalIn, Sem.run_bind, run_underlying hu]; rfl
    · cases hs
  unfold slNilB at h
  split at h
  · obtain ⟨⟨hs, _⟩, h⟩ := guardO_inv h
    obtain rfl := Option.some.inj h
    refine ⟨.bool false, ?_, .b _⟩
    simp only [eqGuard, Sem.run_bind, Sem.run_ite, Sem.run_pure, binOp]
    split <;> simp only [Result.andThen_ok, key hs]
  · obtain ⟨⟨hs, _⟩, h⟩ := guardO_inv h
    obtain rfl := Option.some.inj h
    refine ⟨.bool (!false), ?_, .b _⟩
    simp only [eqGuard, Sem.run_bind, Sem.run_ite, Sem.run_pure, binOp]
    split <;> simp only [Result.andThen_ok, key hs]
  · cases h
theorem slNilB_pos {op : BinOp} {t : TypeId} {n : Nat} {z : AV} (h : slNilB P op t n = some z) : 0 < n := by
  unfold slNilB at h
  split at h
  · exact (guardO_inv h).1.2
  · exact (guardO_inv h).1.2
  · cases h

theorem binT_sound {op : BinOp} {x y z : AV} {a b : Value} {t : TypeId} (X Y : Operand) (h : binT P op t x y = some z) (hx : Rel σ I w x a) (hy : Rel σ I w y b) :
    ∃ v, (do eqGuard op t X Y a b; binOp op t a b : Sem Value).run P w = .ok v w ∧ Rel σ I w z v := by
  unfold binT at h
  split at h
  · cases hx; cases hy
    rw [Sem.run_bind, run_eqGuard_bool]
    have key : isBoolT P t = true → ∀ a b, (Op.equal t (.bool a) (.bool b)).run P w = .ok (a == b) w := by
      intro hb a b
      unfold isBoolT at hb
      split at hb
      · rename_i hu
        show (Op.equalIn (9999 + 1) t (.bool a) (.bool b)).run P w = _
        rw [Op.equalIn, Sem.run_bind, run_underlying hu]; rfl
      · cases hb
    split at h
    · obtain ⟨hb, h⟩ := guardO_inv h
      obtain rfl := Option.some.inj h
      exact ⟨_, by simp only [Result.andThen_ok, binOp, Sem.run_bind, key hb, Sem.run_pure], .b _⟩
    · obtain ⟨hb, h⟩ := guardO_inv h
      obtain rfl := Option.some.inj h
      exact ⟨_, by simp only [Result.andThen_ok, binOp, Sem.run_bind, key hb, Sem.run_pure], .b _⟩
    · cases h
  · obtain ⟨us, rfl⟩ := agg_inv hx
    obtain ⟨vs, rfl⟩ := agg_inv hy
    have guard : P.eqGuardType P.depth t = false → (eqGuard op t X Y (.agg us) (.agg vs)).run P w = .ok () w := by
      intro hg
      simp only [eqGuard, Sem.run_ite, Sem.run_bind, run_program, Result.andThen_ok, hg]
      split <;> simp
    split at h
    · obtain ⟨hg, h⟩ := guardO_inv h
      replace h := obind_inv h; obtain ⟨r, hr, h⟩ := h
      obtain rfl := Option.some.inj h
      refine ⟨.bool r, ?_, .b _⟩
      rw [Sem.run_bind, guard hg]
      simp only [Result.andThen_ok, binOp, Sem.run_bind, Op.equal, eqT_sound 6 (by decide : 6 ≤ Op.maxDepth) hr hx hy, Sem.run_pure]
    · obtain ⟨hg, h⟩ := guardO_inv h
      replace h := obind_inv h; obtain ⟨r, hr, h⟩ := h
      obtain rfl := Option.some.inj h
      refine ⟨.bool (!r), ?_, .b _⟩
      rw [Sem.run_bind, guard hg]
      simp only [Result.andThen_ok, binOp, Sem.run_bind, Op.equal, eqT_sound 6 (by decide : 6 ≤ Op.maxDepth) hr hx hy, Sem.run_pure]
    · cases h
  · rename_i ti vi
    have ha : a = .iface ti vi := by cases hx; rfl
    have hb : b = .nilIface := by cases hy; rfl
    subst ha; subst hb
    have key : isIfT P t = true → (Op.equal t (.iface ti vi) .nilIface).run P w = .ok false w := by
      intro hs
      unfold isIfT at hs
      split at hs
      · rename_i e hu
        show (Op.equalIn (9999 + 1) t _ _).run P w = _
        rw [Op.equalIn, Sem.run_bind, run_underlying hu]; rfl
      · cases hs
    split at h
    · obtain ⟨hs, h⟩ := guardO_inv h
      obtain rfl := Option.some.inj h
      refine ⟨.bool false, ?_, .b _⟩
      simp only [eqGuard, Sem.run_bind, Sem.run_ite, Sem.run_pure, binOp]
      split <;> simp only [Result.andThen_ok, key hs]
    · obtain ⟨hs, h⟩ := guardO_inv h
      obtain rfl := Option.some.inj h
      refine ⟨.bool (!false), ?_, .b _⟩
      simp only [eqGuard, Sem.run_bind, Sem.run_ite, Sem.run_pure, binOp]
      split <;> simp only [Result.andThen_ok, key hs]
    · cases h
  · have hp := slNilB_pos h
    have hb : b = .slice none 0 0 := by cases hy; rfl
    subst hb
    cases hx with
    | sl _ _ blk off cap f h1 h2 h3 h4 h5 => exact slNil_sound X Y h rfl
    | slnil => omega
    | slzero a => omega
  · have hp := slNilB_pos h
    have hb : b = .slice none 0 0 := by cases hy; rfl
    subst hb
    cases hx with
    | os _ _ _ _ _ blk base sz cap g1 g2 g3 => exact slNil_sound X Y h rfl
    | osnil => omega
    | oszero => omega
  · split at h
    · obtain ⟨hg, h⟩ := guardO_inv h
      replace h := obind_inv h; obtain ⟨r, hr, h⟩ := h
      obtain rfl := Option.some.inj h
      obtain ⟨he, p, q, rfl, rfl⟩ := nilEq_sound hg hr hx hy
      refine ⟨.bool r, ?_, .b _⟩
      simp only [eqGuard, Sem.run_bind, Sem.run_ite, Sem.run_pure, binOp]
      split <;> simp only [Result.andThen_ok, he]
    · obtain ⟨hg, h⟩ := guardO_inv h
      replace h := obind_inv h; obtain ⟨r, hr, h⟩ := h
      obtain rfl := Option.some.inj h
      obtain ⟨he, p, q, rfl, rfl⟩ := nilEq_sound hg hr hx hy
      refine ⟨.bool (!r), ?_, .b _⟩
      simp only [eqGuard, Sem.run_bind, Sem.run_ite, Sem.run_pure, binOp]
      split <;> simp only [Result.andThen_ok, he]
    · cases h
  · split at h
    · obtain ⟨hg, h⟩ := guardO_inv h
      replace h := obind_inv h; obtain ⟨r, hr, h⟩ := h
      obtain rfl := Option.some.inj h
      obtain ⟨he, p, q, rfl, rfl⟩ := nilEq_sound hg hr hx hy
      refine ⟨.bool r, ?_, .b _⟩
      simp only [eqGuard, Sem.run_bind, Sem.run_ite, Sem.run_pure, binOp]
      split <;> simp only [Result.andThen_ok, he]
    · obtain ⟨hg, h⟩ := guardO_inv h
      replace h := obind_inv h; obtain ⟨r, hr, h⟩ := h
      obtain rfl := Option.some.inj h
      obtain ⟨he, p, q, rfl, rfl⟩ := nilEq_sound hg hr hx hy
      refine ⟨.bool (!r), ?_, .b _⟩
      simp only [eqGuard, Sem.run_bind, Sem.run_ite, Sem.run_pure, binOp]
      split <;> simp only [Result.andThen_ok, he]
    · cases h
  · exact bin_sound X Y h hx hy

end
end Go.AX

namespace Go.AX
open Go
section
variable {P : Program} {σ : Nat → Loc} {I : Nat → Prop} {w : World}

structure RelCells (σ : Nat → Loc) (I : Nat → Prop) (w : World) (xs : List AV) (vs : Array Value) : Prop where
  size : vs.size = xs.length
  cell : ∀ i (h : i < xs.length), xs[i].isCell = true
  rel : ∀ i (h : i < xs.length), Rel σ I w xs[i] (vs.getD i undef)

theorem RelCells.agg {xs : List AV} {vs : Array Value} (h : RelCells σ I w xs vs) : Rel σ I w (.agg xs) (.agg vs) := .agg xs vs h.size h.cell h.rel
theorem relCells_cellsV {x : AV} {cs : List AV} {v : Value} (h : cellsV x = some cs) (hr : Rel σ I w x v) : RelCells σ I w cs v.cells := by
  obtain ⟨a, b, c⟩ := cellsV_inv h hr; exact ⟨a, b, c⟩

theorem relCells_iff {xs : List AV} {vs : Array Value} : RelCells σ I w xs vs ↔ vs.size = xs.length ∧ ∀ (i : Nat) (x : AV), xs[i]? = some x → x.isCell = true ∧ ∃ v, vs[i]? = some v ∧ Rel σ I w x v := by
  constructor
  · rintro ⟨h1, h2, h3⟩
    refine ⟨h1, fun i x hx => ?_⟩
    obtain ⟨hlt, rfl⟩ := List.getElem?_eq_some_iff.1 hx
    refine ⟨h2 i hlt, vs.getD i undef, ?_, h3 i hlt⟩
    rw [Array.getD_eq_getD_getElem?, Array.getElem?_eq_getElem (by omega)]; rfl
  · rintro ⟨h1, h2⟩
    refine ⟨h1, fun i hi => (h2 i _ (List.getElem?_eq_getElem hi)).1, fun i hi => ?_⟩
    obtain ⟨_, v, hv, hr⟩ := h2 i _ (List.getElem?_eq_getElem hi)
    rw [Array.getD_eq_getD_getElem?, hv]; exact hr

theorem splice_length {xs ys : List AV} {off : Nat} (h : off + ys.length ≤ xs.length) : (splice xs off ys).length = xs.length := by
  simp [splice]; omega
theorem splice_get {xs ys : List AV} {off i : Nat} (h : off + ys.length ≤ xs.length) : (splice xs off ys)[i]? = if i < off then xs[i]? else if i < off + ys.length then ys[i - off]? else xs[i]? := by
  unfold splice
  rw [List.getElem?_append, List.getElem?_append]
  simp only [List.length_append, List.length_take, Nat.min_eq_left (show off ≤ xs.length by omega)]
  by_cases h1 : i < off
  · rw [if_pos (show i < off + ys.length by omega), if_pos h1, if_pos h1, List.getElem?_take_of_lt h1]
  · by_cases h2 : i < off + ys.length
    · rw [if_pos h2, if_neg h1, if_neg h1, if_pos h2]
    · rw [if_neg h2, if_neg h1, if_neg h2, List.getElem?_drop]; congr 1; omega

theorem foldl_set (news : List Value) (off : Nat) : ∀ (k : Nat) (cur : Array Value), off + k + news.length ≤ cur.size →
    ((news.zipIdx k).foldl (fun cs p => cs.setIfInBounds (off + p.2) p.1) cur).size = cur.size ∧
    ∀ i, ((news.zipIdx k).foldl (fun cs p => cs.setIfInBounds (off + p.2) p.1) cur)[i]? = if i < off + k then cur[i]? else if i < off + k + news.length then news[i - (off + k)]? else cur[i]? := by
  induction news with
  | nil => intro k cur _; refine ⟨rfl, fun i => ?_⟩; simp; intro a b; omega
  | cons v r ih =>
    intro k cur h
    simp only [List.length_cons] at h
    obtain ⟨h1, h2⟩ := ih (k + 1) (cur.setIfInBounds (off + k) v) (by simp; omega)
    simp only [List.zipIdx_cons, List.foldl_cons]
    refine ⟨by rw [h1]; simp, fun i => ?_⟩
    rw [h2 i, Array.getElem?_setIfInBounds]
    simp only [List.length_cons]
    by_cases a : i < off + k
    · rw [if_pos (by omega), if_neg (by omega), if_pos a]
    · by_cases b : i = off + k
      · subst b
        rw [if_pos (by omega), if_pos rfl, if_pos (by omega), if_neg (by omega), if_pos (by omega)]
        simp
      · rw [if_neg (show ¬ i < off + (k + 1) by omega), if_neg a]
        by_cases d : i < off + (k + 1) + r.length
        · rw [if_pos d, if_pos (by omega), show i - (off + k) = i - (off + (k + 1)) + 1 from by omega]; simp
        · rw [if_neg d, if_neg (by omega), if_neg (by omega)]

theorem foldl_set' (news : Array Value) (off : Nat) (cur : Array Value) (h : off + news.size ≤ cur.size) :
    (news.zipIdx.foldl (fun cs (p : Value × Nat) => cs.setIfInBounds (off + p.2) p.1) cur).size = cur.size ∧
    ∀ i, (news.zipIdx.foldl (fun cs (p : Value × Nat) => cs.setIfInBounds (off + p.2) p.1) cur)[i]? = if i < off then cur[i]? else if i < off + news.size then news[i - off]? else cur[i]? := by
  have := foldl_set news.toList off 0 cur (by simpa using h)
  rw [← Array.foldl_toList, Array.toList_zipIdx]
  simpa using this

theorem relCells_splice {xs ys : List AV} {vs us : Array Value} {off : Nat} (hx : RelCells σ I w xs vs) (hy : RelCells σ I w ys us) (h : off + ys.length ≤ xs.length) :
    RelCells σ I w (splice xs off ys) (us.zipIdx.foldl (fun cs (p : Value × Nat) => cs.setIfInBounds (off + p.2) p.1) vs) := by
  obtain ⟨f1, f2⟩ := foldl_set' us off vs (by rw [hy.size, hx.size]; exact h)
  rw [relCells_iff]
  refine ⟨by rw [f1, splice_length h, hx.size], fun i x hi => ?_⟩
  rw [splice_get h] at hi
  rw [f2 i, hy.size]
  split at hi
  · rename_i h1
    rw [if_pos h1]; exact (relCells_iff.1 hx).2 i x hi
  · rename_i h1
    rw [if_neg h1]
    split at hi
    · rename_i h2
      rw [if_pos h2]; exact (relCells_iff.1 hy).2 _ x hi
    · rename_i h2
      rw [if_neg h2]; exact (relCells_iff.1 hx).2 i x hi

theorem fill_sound {place : Nat → Option (Nat × Nat)} {placeM : Nat → Option (Nat × Nat)} (hp : ∀ k o, place k = some o → placeM k = some o) :
    ∀ (parts : List (Nat × AV)) (partsM : List (Nat × Value)) (xs zs : List AV) (vs : Array Value),
      parts.length = partsM.length → (∀ (i : Nat) (p : Nat × AV) (q : Nat × Value), parts[i]? = some p → partsM[i]? = some q → p.1 = q.1 ∧ Rel σ I w p.2 q.2) →
      RelCells σ I w xs vs → fillA place xs parts = some zs → ∃ us, Instr.fill placeM vs partsM = some us ∧ RelCells σ I w zs us
  | [], [], xs, zs, vs, _, _, hx, h => by obtain rfl := Option.some.inj h; exact ⟨vs, rfl, hx⟩
  | [], _ :: _, _, _, _, hl, _, _, _ => by simp at hl
  | _ :: _, [], _, _, _, hl, _, _, _ => by simp at hl
  | (i, v) :: rest, (j, u) :: restM, xs, zs, vs, hl, hr, hx, h => by
    simp only [fillA] at h
    obtain ⟨os, hos, h⟩ := obind_inv h
    obtain ⟨vc, hvc, h⟩ := obind_inv h
    obtain ⟨⟨hsz, hle⟩, h⟩ := guardO_inv h
    obtain ⟨e1, e2⟩ := hr 0 _ _ rfl rfl
    simp only at e1 e2
    subst e1
    have hcs := relCells_cellsV hvc e2
    obtain ⟨us, hus, hrel⟩ := fill_sound hp rest restM _ zs _ (by simpa using hl) (fun k p q hpk hqk => hr (k + 1) p q (by simpa using hpk) (by simpa using hqk)) (relCells_splice hx hcs (by rw [hsz]; exact hle)) h
    refine ⟨us, ?_, hrel⟩
    have hs : ¬ (u.cells.size ≠ os.2) := by rw [hcs.size, hsz]; simp
    have hs2 : ¬ (os.1 + u.cells.size > vs.size) := by rw [hcs.size, hsz, hx.size]; omega
    simp only [Instr.fill, hp i os hos]
    rw [if_neg (by simp only [Bool.or_eq_true, decide_eq_true_eq]; exact fun hh => hh.elim hs hs2)]
    exact hus

/-- The cells of a list of values, one each. -/
theorem seqA_sound {z : Nat} (hz : z = 1) {placeM : Nat → Option (Nat × Nat)} (hp : ∀ k, placeM k = some (k * z, z)) :
    ∀ (parts : List (Nat × AV)) (partsM : List (Nat × Value)) (k : Nat) (cs pre : List AV) (vs : Array Value),
      parts.length = partsM.length → (∀ (i : Nat) (p : Nat × AV) (q : Nat × Value), parts[i]? = some p → partsM[i]? = some q → p.1 = q.1 ∧ Rel σ I w p.2 q.2) →
      (∃ suf, RelCells σ I w (pre ++ suf) vs ∧ suf.length = parts.length) → pre.length = k → seqA k parts = some cs →
      ∃ us, Instr.fill placeM vs partsM = some us ∧ RelCells σ I w (pre ++ cs) us
  | [], [], k, cs, pre, vs, _, _, hx, _, h => by
    obtain rfl := Option.some.inj h
    obtain ⟨suf, h1, h2⟩ := hx
    simp at h2; subst h2
    exact ⟨vs, rfl, h1⟩
  | [], _ :: _, _, _, _, _, hl, _, _, _, _ => by simp at hl
  | _ :: _, [], _, _, _, _, hl, _, _, _, _ => by simp at hl
  | (i, v) :: rest, (j, u) :: restM, k, cs, pre, vs, hl, hr, hx, hk, h => by
    simp only [seqA] at h
    obtain ⟨hi, h⟩ := guardO_inv h
    obtain ⟨c, hc, h⟩ := obind_inv h
    obtain ⟨r, hrr, h⟩ := obind_inv h
    obtain rfl := Option.some.inj h
    have hvc : cellsV v = some [c] := by
      split at hc
      · rename_i c' hc'; obtain rfl := Option.some.inj hc; exact hc'
      · cases hc
    obtain ⟨e1, e2⟩ := hr 0 _ _ rfl rfl
    simp only at e1 e2
    subst e1
    have hcs := relCells_cellsV hvc e2
    obtain ⟨suf, hx1, hx2⟩ := hx
    cases suf with
    | nil => simp at hx2
    | cons s0 suf =>
      have hlen : k + 1 ≤ (pre ++ s0 :: suf).length := by simp; omega
      have hsp := relCells_splice (off := k) hx1 hcs hlen
      have hsp' : splice (pre ++ s0 :: suf) k [c] = (pre ++ [c]) ++ suf := by
        subst hk
        unfold splice
        have e0 : pre ++ s0 :: suf = (pre ++ [s0]) ++ suf := by simp
        rw [List.take_left' rfl, e0, List.drop_left' (by simp)]
      rw [hsp'] at hsp
      obtain ⟨us, hus, hrel⟩ := seqA_sound hz hp rest restM (k + 1) r (pre ++ [c]) _ (by simpa using hl) (fun m p q hpk hqk => hr (m + 1) p q (by simpa using hpk) (by simpa using hqk)) ⟨suf, hsp, by simpa using hx2⟩ (by simp [hk]) hrr
      refine ⟨us, ?_, by simpa using hrel⟩
      subst hi
      have hs : ¬ (u.cells.size ≠ z) := by rw [hcs.size, hz]; simp
      have hs2 : ¬ (i * z + u.cells.size > vs.size) := by rw [hcs.size, hx1.size, hz]; simp only [List.length_singleton]; omega
      simp only [Instr.fill, hp i]
      rw [if_neg (by simp only [Bool.or_eq_true, decide_eq_true_eq]; exact fun hh => hh.elim hs hs2)]
      have e3 : i * z = i := by rw [hz]; omega
      rw [e3]
      exact hus

theorem relCells_zero {zs : List AV} {z : Value} (hz : zs = z.cells.toList.map ofV1) (h1 : ∀ x ∈ z.cells.toList, x.oneCell' = true) : RelCells σ I w zs z.cells := by
  subst hz
  rw [relCells_iff]
  refine ⟨by simp, fun i x hx => ?_⟩
  rw [List.getElem?_map] at hx
  obtain ⟨v, hv, rfl⟩ := Option.map_eq_some_iff.1 hx
  exact ⟨isCell_ofV1 (h1 v (List.mem_of_getElem? hv)), v, by simpa using hv, rel_ofV1 v⟩

theorem runV {s : Sem Value} {v : Value} {w' : World} (h : s.run P w = .ok v w') : (do pure (Next.value (← s)) : Sem Next).run P w = .ok (.value v) w' := by
  simp [h]
theorem runU {s : Sem Unit} {w' : World} (h : s.run P w = .ok () w') : (do s; pure Next.skip : Sem Next).run P w = .ok .skip w' := by
  simp [h]

theorem map_rel {l : List Operand} {ρA : Operand → AV} {ρ : Operand → Value} (hρ : ∀ y, Rel σ I w (ρA y) (ρ y)) : ∀ i (h : i < (l.map ρA).length), Rel σ I w (l.map ρA)[i] ((l.map ρ).toArray.getD i undef) := by
  intro i hi
  simp at hi
  rw [getD_list, List.getD_eq_getElem?_getD, List.getElem?_map, List.getElem?_eq_getElem hi, List.getElem_map]
  exact hρ _

theorem parts_rel {parts : Array (Nat × Operand)} {ρA : Operand → AV} {ρ : Operand → Value} (hρ : ∀ y, Rel σ I w (ρA y) (ρ y)) :
    ∀ (i : Nat) (p : Nat × AV) (q : Nat × Value), (parts.toList.map fun p => (p.1, ρA p.2))[i]? = some p → ((parts.map fun (i, x) => (i, ρ x)).toList)[i]? = some q → p.1 = q.1 ∧ Rel σ I w p.2 q.2 := by
  intro i p q hp hq
  rw [List.getElem?_map] at hp
  obtain ⟨a, ha, rfl⟩ := Option.map_eq_some_iff.1 hp
  rw [Array.toList_map, List.getElem?_map] at hq
  obtain ⟨b, hb, rfl⟩ := Option.map_eq_some_iff.1 hq
  rw [ha] at hb
  obtain rfl := Option.some.inj hb
  exact ⟨rfl, hρ _⟩

end
end Go.AX
