/-
  AX, part A: abstract values, what they say of a world, and how that is kept.
-/
import Derived.WalkKit
namespace Go.AX
open Go

/-- Abstract values. 'sl', 'rp': a slice, a pointer whose cells nobody writes any more. 'os', 'op': a slice of, a pointer into an object of the run's own. -/
inductive AV where
  | w8 (x : BitVec 8) | w16 (x : BitVec 16) | w32 (x : BitVec 32) | w64 (x : BitVec 64)
  | i (n : Int) | b (x : Bool) | s (l : List (BitVec 8)) | v (x : Value)
  | agg (xs : List AV) | tup (xs : List AV)
  | sl (n : Nat) (xs : List AV) | rp (xs : List AV)
  | os (id off n e : Nat) (g : Bool) | op (id off : Nat) | mp (id : Nat)
  | fn (f : FuncId) (cap : List AV) | junk
  deriving Inhabited

inductive Loc where
  | unset | nil | at_ (blk base sz : Nat)

def encS (l : List (BitVec 8)) : ByteArray := ⟨(l.map UInt8.ofBitVec).toArray⟩

def AV.isCell : AV → Bool
  | .agg _ | .tup _ | .junk => false
  | .v x => x.oneCell'
  | _ => true

inductive Rel (σ : Nat → Loc) (I : Nat → Prop) (w : World) : AV → Value → Prop
  | w8 (x) : Rel σ I w (.w8 x) (.int .u8 x.toNat)
  | w16 (x) : Rel σ I w (.w16 x) (.int .u16 x.toNat)
  | w32 (x) : Rel σ I w (.w32 x) (.int .u32 x.toNat)
  | w64 (x) : Rel σ I w (.w64 x) (.int .u64 x.toNat)
  | i (n) : Rel σ I w (.i n) (.int .i64 n)
  | b (x) : Rel σ I w (.b x) (.bool x)
  | s (l) : Rel σ I w (.s l) (.string (encS l))
  | v (x) : Rel σ I w (.v x) x
  | agg (xs : List AV) (vs : Array Value) : vs.size = xs.length → (∀ i (_h : i < xs.length), xs[i].isCell = true) →
      (∀ i (h : i < xs.length), Rel σ I w xs[i] (vs.getD i undef)) → Rel σ I w (.agg xs) (.agg vs)
  | tup (xs : List AV) (vs : Array Value) : vs.size = xs.length →
      (∀ i (h : i < xs.length), Rel σ I w xs[i] (vs.getD i undef)) → Rel σ I w (.tup xs) (.tuple vs)
  | sl (n xs blk o cap) (f : Nat → Value) : I blk → n ≤ cap → (∀ i (_ : i < xs.length), w.cell? ⟨blk, o + i, none⟩ = some (f i)) →
      (∀ i (_h : i < xs.length), xs[i].isCell = true) → (∀ i (h : i < xs.length), Rel σ I w xs[i] (f i)) → Rel σ I w (.sl n xs) (.slice (some ⟨blk, o, none⟩) n cap)
  | slnil : Rel σ I w (.sl 0 []) (.slice none 0 0)
  | slzero (a : Addr) : Rel σ I w (.sl 0 []) (.slice (some a) 0 0)
  | rp (xs blk o) (f : Nat → Value) : I blk → (∀ i (_ : i < xs.length), w.cell? ⟨blk, o + i, none⟩ = some (f i)) →
      (∀ i (_h : i < xs.length), xs[i].isCell = true) → (∀ i (h : i < xs.length), Rel σ I w xs[i] (f i)) → Rel σ I w (.rp xs) (.pointer (some ⟨blk, o, none⟩))
  | os (id off n e g blk base sz cap) : σ id = .at_ blk base sz → n ≤ cap → (g = true → base + off + cap * e ≤ sz) → Rel σ I w (.os id off n e g) (.slice (some ⟨blk, base + off, none⟩) n cap)
  | osnil (id e g) : σ id = .nil → Rel σ I w (.os id 0 0 e g) (.slice none 0 0)
  | oszero (id off e g) (a : Addr) : σ id ≠ .unset → Rel σ I w (.os id off 0 e g) (.slice (some a) 0 0)
  | op (id off blk base sz) : σ id = .at_ blk base sz → Rel σ I w (.op id off) (.pointer (some ⟨blk, base + off, none⟩))
  | mp (id blk) : σ id = .at_ blk 0 0 → Rel σ I w (.mp id) (.map (some blk))
  | fn (f) (xs : List AV) (vs : Array Value) : vs.size = xs.length → (∀ i (h : i < xs.length), Rel σ I w xs[i] (vs.getD i undef)) → Rel σ I w (.fn f xs) (.func (.func f) #[] vs)
  | junk (x) : Rel σ I w .junk x

theorem Rel.mono {σ σ' : Nat → Loc} {I I' : Nat → Prop} {w w' : World} {x : AV} {y : Value} (h : Rel σ I w x y)
    (hσ : ∀ id, σ id ≠ .unset → σ' id = σ id) (hI : ∀ k, I k → I' k) (hw : ∀ k, I k → w'.heap[k]? = w.heap[k]?) : Rel σ' I' w' x y := by
  induction h with
  | w8 => exact .w8 _
  | w16 => exact .w16 _
  | w32 => exact .w32 _
  | w64 => exact .w64 _
  | i => exact .i _
  | b => exact .b _
  | s => exact .s _
  | v => exact .v _
  | agg xs vs h1 h2 _ ih => exact .agg xs vs h1 h2 ih
  | tup xs vs h1 _ ih => exact .tup xs vs h1 ih
  | sl n xs blk o cap f hb hn hc h2 _ ih =>
    exact .sl n xs blk o cap f (hI _ hb) hn (fun i h => by rw [World.cell?_of_block (w := w) (hw _ hb)]; exact hc i h) h2 ih
  | slnil => exact .slnil
  | slzero a => exact .slzero a
  | rp xs blk o f hb hc h2 _ ih =>
    exact .rp xs blk o f (hI _ hb) (fun i h => by rw [World.cell?_of_block (w := w) (hw _ hb)]; exact hc i h) h2 ih
  | os id off n e g blk base sz cap h1 h2 h3 => exact .os id off n e g blk base sz cap (by rw [hσ _ (by simp [h1]), h1]) h2 h3
  | osnil id e g h1 => exact .osnil id e g (by rw [hσ _ (by simp [h1]), h1])
  | oszero id off e g a h1 => exact .oszero id off e g a (by rw [hσ _ h1]; exact h1)
  | op id off blk base sz h1 => exact .op id off blk base sz (by rw [hσ _ (by simp [h1]), h1])
  | mp id blk h1 => exact .mp id blk (by rw [hσ _ (by simp [h1]), h1])
  | fn f xs vs h1 _ ih => exact .fn f xs vs h1 ih
  | junk x => exact .junk x

/-- The greatest name of an own object that a value speaks of, and one. -/
def AV.ids : AV → Nat
  | .agg xs | .tup xs | .sl _ xs | .rp xs | .fn _ xs => idsL xs
  | .os id _ _ _ _ | .op id _ | .mp id => id + 1
  | _ => 0
where idsL : List AV → Nat
  | [] => 0
  | x :: r => max (AV.ids x) (idsL r)

theorem AV.ids_get (xs : List AV) : ∀ i (h : i < xs.length), AV.ids xs[i] ≤ AV.ids.idsL xs := by
  induction xs with
  | nil => intro i h; simp at h
  | cons x r ih =>
    intro i h
    cases i with
    | zero => simp only [List.getElem_cons_zero, AV.ids.idsL]; omega
    | succ k => simp only [List.getElem_cons_succ, AV.ids.idsL]; have := ih k (by simpa using h); omega

theorem Rel.congr_ids {σ σ' : Nat → Loc} {I : Nat → Prop} {w : World} {x : AV} {y : Value} (h : Rel σ I w x y)
    (hσ : ∀ id, id < x.ids → σ' id = σ id) : Rel σ' I w x y := by
  induction h with
  | w8 => exact .w8 _
  | w16 => exact .w16 _
  | w32 => exact .w32 _
  | w64 => exact .w64 _
  | i => exact .i _
  | b => exact .b _
  | s => exact .s _
  | v => exact .v _
  | agg xs vs h1 h2 _ ih => exact .agg xs vs h1 h2 fun i h => ih i h fun id hid => hσ id (Nat.lt_of_lt_of_le hid (AV.ids_get xs i h))
  | tup xs vs h1 _ ih => exact .tup xs vs h1 fun i h => ih i h fun id hid => hσ id (Nat.lt_of_lt_of_le hid (AV.ids_get xs i h))
  | sl n xs blk o cap f hb hn hc h2 _ ih =>
    exact .sl n xs blk o cap f hb hn hc h2 fun i h => ih i h fun id hid => hσ id (Nat.lt_of_lt_of_le hid (AV.ids_get xs i h))
  | slnil => exact .slnil
  | slzero a => exact .slzero a
  | rp xs blk o f hb hc h2 _ ih =>
    exact .rp xs blk o f hb hc h2 fun i h => ih i h fun id hid => hσ id (Nat.lt_of_lt_of_le hid (AV.ids_get xs i h))
  | os id off n e g blk base sz cap h1 h2 h3 => exact .os id off n e g blk base sz cap (by rw [hσ _ (by simp [AV.ids]), h1]) h2 h3
  | osnil id e g h1 => exact .osnil id e g (by rw [hσ _ (by simp [AV.ids]), h1])
  | oszero id off e g a h1 => exact .oszero id off e g a (by rw [hσ _ (by simp [AV.ids])]; exact h1)
  | op id off blk base sz h1 => exact .op id off blk base sz (by rw [hσ _ (by simp [AV.ids]), h1])
  | mp id blk h1 => exact .mp id blk (by rw [hσ _ (by simp [AV.ids]), h1])
  | fn f xs vs h1 _ ih => exact .fn f xs vs h1 fun i h => ih i h fun id hid => hσ id (Nat.lt_of_lt_of_le hid (AV.ids_get xs i h))
  | junk x => exact .junk x

theorem Rel.oneCell {σ : Nat → Loc} {I : Nat → Prop} {w : World} {x : AV} {y : Value} (h : Rel σ I w x y) (hc : x.isCell = true) : y.oneCell' = true := by
  cases h <;> simp_all [AV.isCell, Value.oneCell']

/-- Values that speak of no memory. -/
def AV.noMem : AV → Bool
  | .w8 _ | .w16 _ | .w32 _ | .w64 _ | .i _ | .b _ | .s _ | .v _ => true
  | .agg xs | .tup xs => noMemL xs
  | _ => false
where noMemL : List AV → Bool
  | [] => true
  | x :: r => AV.noMem x && noMemL r

theorem AV.noMem_get (xs : List AV) : AV.noMem.noMemL xs = true → ∀ i (h : i < xs.length), AV.noMem xs[i] = true := by
  induction xs with
  | nil => intro _ i h; simp at h
  | cons x r ih =>
    intro hn i h
    simp only [AV.noMem.noMemL, Bool.and_eq_true] at hn
    cases i with
    | zero => exact hn.1
    | succ k => exact ih hn.2 k (by simpa using h)

theorem Rel.noMem {σ σ' : Nat → Loc} {I I' : Nat → Prop} {w w' : World} {x : AV} {y : Value} (h : Rel σ I w x y) (hn : x.noMem = true) : Rel σ' I' w' x y := by
  induction h with
  | w8 => exact .w8 _
  | w16 => exact .w16 _
  | w32 => exact .w32 _
  | w64 => exact .w64 _
  | i => exact .i _
  | b => exact .b _
  | s => exact .s _
  | v => exact .v _
  | agg xs vs h1 h2 _ ih => exact .agg xs vs h1 h2 fun i h => ih i h (AV.noMem_get xs hn i h)
  | tup xs vs h1 _ ih => exact .tup xs vs h1 fun i h => ih i h (AV.noMem_get xs hn i h)
  | _ => simp [AV.noMem] at hn

/-- Own objects: a row of cells, that may still be written (mt) or not. -/
inductive AO where
  | cells (xs : List AV) (mt : Bool)
  deriving Inhabited

abbrev H := Nat → Option AO
def upd (h : H) (id : Nat) (o : AO) : H := fun k => if k = id then some o else h k
def del (h : H) (id : Nat) : H := fun k => if k = id then none else h k

theorem upd_apply (h : H) (id : Nat) (o : AO) (k : Nat) : upd h id o k = if k = id then some o else h k := rfl
theorem del_apply (h : H) (id : Nat) (k : Nat) : del h id k = if k = id then none else h k := rfl

/-- None of a block's cells is frozen (what is frozen lies behind them). -/
structure Unfz (lo hi sz : Nat) : Prop where
  le : lo ≤ hi
  out : ∀ o, o < sz → ¬ (lo ≤ o ∧ o < hi)

/-- The block's cells, as an own object's row has them. -/
structure RowAt (σ : Nat → Loc) (I : Nat → Prop) (w : World) (xs : List AV) (blk base sz : Nat) : Prop where
  ex : ∃ c T lo hi, w.heap[blk]? = some (.cells c T (lo, hi)) ∧ c.size = sz ∧ base + xs.length ≤ sz ∧ Unfz lo hi sz ∧
    (∀ i (h : i < xs.length), Rel σ I w xs[i] (c.getD (base + i) undef))
  cell : ∀ i (h : i < xs.length), xs[i].isCell = true

def OwnRel (σ : Nat → Loc) (I : Nat → Prop) (w : World) (id : Nat) : AO → Prop
  | .cells xs mt => match σ id with
    | .unset => False
    | .nil => xs = []
    | .at_ blk base sz => RowAt σ I w xs blk base sz ∧ (mt = true → ¬ I blk) ∧ (mt = false → I blk)

structure Ctx where
  w0 : World
  σ0 : Nat → Loc
  I0 : Nat → Prop
  O : Nat → Prop
  GL : Nat → Option (List AV)
  nt : Nat
  u0 : Nat → Prop

structure Inv (c : Ctx) (σ : Nat → Loc) (I : Nat → Prop) (w : World) (hp : H) (un : Nat → Prop) : Prop where
  ext : ∀ id, c.σ0 id ≠ .unset → σ id = c.σ0 id
  imm : ∀ k, c.I0 k → I k
  iw : ∀ k, c.I0 k → w.heap[k]? = c.w0.heap[k]?
  os : w.os = c.w0.os
  tape : w.tape = c.w0.tape
  output : w.output = c.w0.output
  size : c.w0.heap.size ≤ w.heap.size
  old : ∀ k, k < c.w0.heap.size → ¬ c.O k → w.heap[k]? = c.w0.heap[k]?
  ilt : ∀ k, I k → k < w.heap.size
  own : ∀ id o, hp id = some o → OwnRel σ I w id o
  inj : ∀ id id' xs o' blk base sz base' sz', hp id = some (.cells xs true) → hp id' = some o' → id ≠ id' → σ id = .at_ blk base sz → σ id' ≠ .at_ blk base' sz'
  lim : ∀ id xs blk base sz, hp id = some (.cells xs true) → σ id = .at_ blk base sz → c.w0.heap.size ≤ blk ∨ c.O blk
  un : ∀ id, un id → σ id = .unset
  glob : ∀ g xs, c.GL g = some xs → Rel σ I w (.rp xs) (.pointer (some ⟨g, 0, none⟩))
  inew : ∀ k, I k → c.I0 k ∨ c.w0.heap.size ≤ k ∨ c.O k

theorem Inv.none_un {c : Ctx} {σ : Nat → Loc} {I : Nat → Prop} {w : World} {hp : H} {un : Nat → Prop} (h : Inv c σ I w hp un) {id : Nat} (hu : un id) : hp id = none := by
  cases ho : hp id with
  | none => rfl
  | some o => have := h.own id o ho; cases o; simp [OwnRel, h.un id hu] at this

theorem Inv.mono_un {c : Ctx} {σ : Nat → Loc} {I : Nat → Prop} {w : World} {hp : H} {un un' : Nat → Prop} (h : Inv c σ I w hp un) (hu : ∀ id, un' id → un id) : Inv c σ I w hp un' :=
  { h with un := fun id hi => h.un id (hu id hi) }

theorem RowAt.mono {σ σ' : Nat → Loc} {I I' : Nat → Prop} {w w' : World} {xs : List AV} {blk base sz : Nat} (h : RowAt σ I w xs blk base sz)
    (hσ : ∀ id, σ id ≠ .unset → σ' id = σ id) (hI : ∀ k, I k → I' k) (hw : ∀ k, I k → w'.heap[k]? = w.heap[k]?) (hb : w'.heap[blk]? = w.heap[blk]?) : RowAt σ' I' w' xs blk base sz := by
  obtain ⟨⟨c, T, lo, hi, h1, h2, h3, h4, h5⟩, h6⟩ := h
  exact ⟨⟨c, T, lo, hi, by rw [hb]; exact h1, h2, h3, h4, fun i hi => (h5 i hi).mono hσ hI hw⟩, h6⟩

/-- The world goes on in a way that concerns no heap (a draw). -/
theorem Inv.world {c : Ctx} {σ : Nat → Loc} {I : Nat → Prop} {w w' : World} {hp : H} {un : Nat → Prop} (h : Inv c σ I w hp un)
    (h1 : w'.heap = w.heap) (h2 : w'.os = w.os) (h3 : w'.tape = w.tape) (h4 : w'.output = w.output) : Inv c σ I w' hp un where
  ext := h.ext
  imm := h.imm
  iw := fun k hk => by rw [h1]; exact h.iw k hk
  os := by rw [h2]; exact h.os
  tape := by rw [h3]; exact h.tape
  output := by rw [h4]; exact h.output
  size := by rw [h1]; exact h.size
  old := fun k a b => by rw [h1]; exact h.old k a b
  ilt := fun k hk => by rw [h1]; exact h.ilt k hk
  own := fun id o ho => by
    have := h.own id o ho
    cases o with
    | cells xs mt =>
      simp only [OwnRel] at this ⊢
      split
      · rename_i e; simp [e] at this
      · rename_i e; simpa [e] using this
      · rename_i blk base sz e
        simp only [e] at this
        exact ⟨this.1.mono (fun _ _ => rfl) (fun _ h => h) (fun k _ => by rw [h1]) (by rw [h1]), this.2⟩
  inj := h.inj
  lim := h.lim
  un := h.un
  glob := fun g xs hg => (h.glob g xs hg).mono (fun _ _ => rfl) (fun _ h => h) (fun k _ => by rw [h1])
  inew := h.inew

theorem Rel.world {σ : Nat → Loc} {I : Nat → Prop} {w w' : World} {x : AV} {y : Value} (h : Rel σ I w x y) (h1 : w'.heap = w.heap) : Rel σ I w' x y :=
  h.mono (fun _ _ => rfl) (fun _ h => h) (fun k _ => by rw [h1])

/-- Where own objects are forgotten, what is known of the others stays. -/
theorem Inv.sub {c : Ctx} {σ : Nat → Loc} {I : Nat → Prop} {w : World} {hp hp' : H} {un : Nat → Prop} (h : Inv c σ I w hp un) (hs : ∀ id o, hp' id = some o → hp id = some o) : Inv c σ I w hp' un :=
  { h with
    own := fun id o ho => h.own id o (hs id o ho)
    inj := fun id id' xs o' blk base sz base' sz' a b => h.inj id id' xs o' blk base sz base' sz' (hs _ _ a) (hs _ _ b)
    lim := fun id xs blk base sz a => h.lim id xs blk base sz (hs _ _ a) }

def setLoc (σ : Nat → Loc) (id : Nat) (l : Loc) : Nat → Loc := fun k => if k = id then l else σ k

theorem setLoc_ext {σ : Nat → Loc} {id : Nat} {l : Loc} (h : σ id = .unset) : ∀ k, σ k ≠ .unset → setLoc σ id l k = σ k := by
  intro k hk
  unfold setLoc
  split
  · rename_i e; subst e; exact absurd h hk
  · rfl

theorem heap_push_old (w : World) (o : Obj) (k : Nat) (h : k < w.heap.size) : (w.alloc o).heap[k]? = w.heap[k]? := Go.RowKit.Below.heap_alloc w o k h
theorem heap_push_new (w : World) (o : Obj) : (w.alloc o).heap[w.heap.size]? = some o := by show (w.heap.push o)[w.heap.size]? = _; rw [Array.getElem?_push, if_pos rfl]

theorem OwnRel.mono {σ σ' : Nat → Loc} {I I' : Nat → Prop} {w w' : World} {id : Nat} {o : AO} (h : OwnRel σ I w id o)
    (hσ : ∀ id, σ id ≠ .unset → σ' id = σ id) (hI : ∀ k, I k → I' k) (hw : ∀ k, I k → w'.heap[k]? = w.heap[k]?)
    (hb : ∀ blk base sz, σ id = .at_ blk base sz → w'.heap[blk]? = w.heap[blk]? ∧ ((match o with | .cells _ mt => mt = true) → ¬ I blk → ¬ I' blk)) : OwnRel σ' I' w' id o := by
  cases o with
  | cells xs mt =>
    simp only [OwnRel] at h ⊢
    cases e : σ id with
    | unset => simp [e] at h
    | nil => rw [hσ id (by simp [e]), e]; simpa [e] using h
    | at_ blk base sz =>
      rw [hσ id (by simp [e]), e]
      simp only [e] at h
      obtain ⟨b1, b2⟩ := hb blk base sz e
      exact ⟨h.1.mono hσ hI hw b1, fun hm => b2 hm (h.2.1 hm), fun hm => hI _ (h.2.2 hm)⟩

theorem OwnRel.lt {σ : Nat → Loc} {I : Nat → Prop} {w : World} {id : Nat} {o : AO} (h : OwnRel σ I w id o) {blk base sz : Nat} (e : σ id = .at_ blk base sz) : blk < w.heap.size := by
  cases o with
  | cells xs mt =>
    simp only [OwnRel, e] at h
    obtain ⟨⟨⟨c, T, lo, hi, h1, _⟩, _⟩, _⟩ := h
    exact (Array.getElem?_eq_some_iff.1 h1).1

/-- A new block of cells becomes an own object. -/
theorem Inv.alloc {c : Ctx} {σ : Nat → Loc} {I : Nat → Prop} {w : World} {hp : H} {un : Nat → Prop} (h : Inv c σ I w hp un) {id : Nat} (hu : un id)
    (cs : Array Value) (T : TypeId) (fr : Nat × Nat) (hfr : Unfz fr.1 fr.2 cs.size) (xs : List AV) (hl : xs.length ≤ cs.size) (hc : ∀ i (h : i < xs.length), xs[i].isCell = true) (hr : ∀ i (h : i < xs.length), Rel σ I w xs[i] (cs.getD i undef)) :
    Inv c (setLoc σ id (.at_ w.heap.size 0 cs.size)) I (w.alloc (.cells cs T fr)) (upd hp id (.cells xs true)) (fun k => un k ∧ k ≠ id) := by
  have hσ := setLoc_ext (l := .at_ w.heap.size 0 cs.size) (h.un id hu)
  have hw : ∀ k, I k → (w.alloc (.cells cs T fr)).heap[k]? = w.heap[k]? := fun k hk => heap_push_old w _ k (h.ilt k hk)
  have hnI : ¬ I w.heap.size := fun hk => Nat.lt_irrefl _ (h.ilt _ hk)
  refine ⟨fun k hk => ?_, h.imm, fun k hk => ?_, h.os, h.tape, h.output, by simp only [World.size_alloc]; have := h.size; omega, fun k hk ho => ?_, fun k hk => by simp only [World.size_alloc]; have := h.ilt k hk; omega, ?_, ?_, ?_, ?_, fun g ys hg => (h.glob g ys hg).mono hσ (fun _ h => h) hw, h.inew⟩
  · have := h.ext k hk
    rw [hσ k (by rw [this]; exact hk), this]
  · rw [hw k (h.imm k hk)]; exact h.iw k hk
  · rw [heap_push_old w _ k (by have := h.size; omega)]; exact h.old k hk ho
  · intro k o ho
    rw [upd_apply] at ho
    split at ho
    · rename_i e; subst e
      obtain rfl := Option.some.inj ho
      simp only [OwnRel, setLoc, if_true]
      refine ⟨⟨⟨cs, T, fr.1, fr.2, heap_push_new w _, rfl, by omega, hfr, fun i hi => ?_⟩, hc⟩, fun _ => hnI, fun hm => by simp at hm⟩
      rw [Nat.zero_add]
      exact (hr i hi).mono hσ (fun _ h => h) hw
    · exact (h.own k o ho).mono hσ (fun _ h => h) hw fun blk base sz e => ⟨heap_push_old w _ blk ((h.own k o ho).lt e), fun _ h => h⟩
  · intro k k' xs' o' blk base sz base' sz' ho ho' hne e e'
    have lt : ∀ k o blk base sz, k ≠ id → hp k = some o → setLoc σ id (.at_ w.heap.size 0 cs.size) k = .at_ blk base sz → σ k = .at_ blk base sz ∧ blk < w.heap.size := by
      intro k o blk base sz hk hp e
      simp only [setLoc, if_neg hk] at e
      exact ⟨e, (h.own k o hp).lt e⟩
    rw [upd_apply] at ho ho'
    by_cases ek : k = id
    · have ek' : k' ≠ id := fun e2 => hne (by rw [ek, e2])
      rw [if_neg ek'] at ho'
      have := (lt k' o' blk base' sz' ek' ho' e').2
      subst ek
      simp only [setLoc, if_true, Loc.at_.injEq] at e
      omega
    · rw [if_neg ek] at ho
      have h1 := lt k _ blk base sz ek ho e
      by_cases ek' : k' = id
      · subst ek'
        simp only [setLoc, if_true, Loc.at_.injEq] at e'
        omega
      · rw [if_neg ek'] at ho'
        have h2 := lt k' _ blk base' sz' ek' ho' e'
        exact h.inj k k' xs' o' blk base sz base' sz' ho ho' hne h1.1 h2.1
  · intro k xs' blk base sz ho e
    rw [upd_apply] at ho
    split at ho
    · rename_i ek; subst ek
      simp only [setLoc, if_true, Loc.at_.injEq] at e
      left; have := h.size; omega
    · rename_i ek
      simp only [setLoc, if_neg ek] at e
      exact h.lim k xs' blk base sz ho e
  · intro k ⟨hk, hne⟩
    simp only [setLoc, if_neg hne]
    exact h.un k hk

/-- An own object that is nil. -/
theorem Inv.newNil {c : Ctx} {σ : Nat → Loc} {I : Nat → Prop} {w : World} {hp : H} {un : Nat → Prop} (h : Inv c σ I w hp un) {id : Nat} (hu : un id) :
    Inv c (setLoc σ id .nil) I w (upd hp id (.cells [] true)) (fun k => un k ∧ k ≠ id) := by
  have hσ := setLoc_ext (l := .nil) (h.un id hu)
  have hne : ∀ k o, hp k = some o → k ≠ id := fun k o ho e => by subst e; rw [h.none_un hu] at ho; cases ho
  refine { h with ext := fun k hk => ?_, own := fun k o ho => ?_, inj := ?_, lim := ?_, un := ?_, glob := fun g ys hg => (h.glob g ys hg).mono hσ (fun _ h => h) fun _ _ => rfl }
  · have := h.ext k hk
    rw [hσ k (by rw [this]; exact hk), this]
  · rw [upd_apply] at ho
    split at ho
    · rename_i e; subst e
      obtain rfl := Option.some.inj ho
      simp [OwnRel, setLoc]
    · exact (h.own k o ho).mono hσ (fun _ h => h) (fun _ _ => rfl) fun _ _ _ _ => ⟨rfl, fun _ h => h⟩
  · intro k k' xs' o' blk base sz base' sz' ho ho' hn e e'
    by_cases ek : k = id
    · subst ek; simp [setLoc] at e
    · by_cases ek' : k' = id
      · subst ek'; simp [setLoc] at e'
      · simp only [setLoc, if_neg ek, if_neg ek'] at e e'
        rw [upd_apply, if_neg ek] at ho
        rw [upd_apply, if_neg ek'] at ho'
        exact h.inj k k' xs' o' blk base sz base' sz' ho ho' hn e e'
  · intro k xs' blk base sz ho e
    by_cases ek : k = id
    · subst ek; simp [setLoc] at e
    · simp only [setLoc, if_neg ek] at e
      rw [upd_apply, if_neg ek] at ho
      exact h.lim k xs' blk base sz ho e
  · intro k ⟨hk, hn⟩
    simp only [setLoc, if_neg hn]
    exact h.un k hk

/-- An own object's cells are written: the block's row is another, of the same size. -/
theorem Inv.setRowG {c : Ctx} {σ : Nat → Loc} {I : Nat → Prop} {w w' : World} {hp : H} {un : Nat → Prop} (h : Inv c σ I w hp un) {id : Nat} {xs ys : List AV} {blk base sz : Nat}
    (ho : hp id = some (.cells xs true)) (hl : σ id = .at_ blk base sz)
    (hos : w'.os = w.os) (htp : w'.tape = w.tape) (hout : w'.output = w.output) (hsz : w'.heap.size = w.heap.size) (hother : ∀ k, k ≠ blk → w'.heap[k]? = w.heap[k]?)
    (hc : ∀ i (h : i < ys.length), ys[i].isCell = true)
    (hnew : ∀ cs T lo hi, w.heap[blk]? = some (.cells cs T (lo, hi)) → cs.size = sz → Unfz lo hi sz → ∃ cs' lo' hi', w'.heap[blk]? = some (.cells cs' T (lo', hi')) ∧ cs'.size = sz ∧ Unfz lo' hi' sz ∧ base + ys.length ≤ sz ∧ ∀ i (h : i < ys.length), Rel σ I w ys[i] (cs'.getD (base + i) undef)) :
    Inv c σ I w' (upd hp id (.cells ys true)) un := by
  have hown := h.own id _ ho
  simp only [OwnRel, hl] at hown
  obtain ⟨⟨⟨cs, T, lo, hi, g1, g2, g3, g4, g5⟩, g6⟩, g7, _⟩ := hown
  have hnI := g7 trivial
  obtain ⟨cs', lo', hi', n1, n2, nu, n3, n4⟩ := hnew cs T lo hi g1 g2 g4
  have hw : ∀ k, I k → w'.heap[k]? = w.heap[k]? := fun k hk => hother k (fun e => hnI (e ▸ hk))
  refine ⟨h.ext, h.imm, fun k hk => ?_, by rw [hos]; exact h.os, by rw [htp]; exact h.tape, by rw [hout]; exact h.output, by rw [hsz]; exact h.size, fun k hk hO => ?_, fun k hk => by rw [hsz]; exact h.ilt k hk, ?_, ?_, ?_, h.un, fun g zs hg => (h.glob g zs hg).mono (fun _ _ => rfl) (fun _ h => h) hw, h.inew⟩
  · rw [hw k (h.imm k hk)]; exact h.iw k hk
  · by_cases e : k = blk
    · subst e
      rcases h.lim id xs k base sz ho hl with hlim | hlim
      · omega
      · exact absurd hlim hO
    · rw [hother k e]; exact h.old k hk hO
  · intro k o hk
    rw [upd_apply] at hk
    split at hk
    · rename_i e; subst e
      obtain rfl := Option.some.inj hk
      simp only [OwnRel, hl]
      exact ⟨⟨⟨cs', T, lo', hi', n1, n2, n3, nu, fun i hi => (n4 i hi).mono (fun _ _ => rfl) (fun _ h => h) hw⟩, hc⟩, fun _ => hnI, fun hm => by simp at hm⟩
    · rename_i e
      exact (h.own k o hk).mono (fun _ _ => rfl) (fun _ h => h) hw fun blk' base' sz' e' => ⟨hother blk' (fun eb => by subst eb; exact h.inj id k xs o blk' base sz base' sz' ho hk (Ne.symm e) hl e'), fun _ h => h⟩
  · intro k k' xs' o' blk1 base1 sz1 base2 sz2 h1 h2 hne e1 e2
    rw [upd_apply] at h1 h2
    have f1 : ∃ zs, hp k = some (.cells zs true) := by
      split at h1
      · rename_i e; subst e; exact ⟨xs, ho⟩
      · exact ⟨_, h1⟩
    have f2 : ∃ o, hp k' = some o := by
      split at h2
      · rename_i e; subst e; exact ⟨_, ho⟩
      · exact ⟨_, h2⟩
    obtain ⟨zs, f1⟩ := f1
    obtain ⟨o2, f2⟩ := f2
    exact h.inj k k' zs o2 blk1 base1 sz1 base2 sz2 f1 f2 hne e1 e2
  · intro k xs' blk1 base1 sz1 h1 e1
    rw [upd_apply] at h1
    split at h1
    · rename_i e; subst e; exact h.lim k xs blk1 base1 sz1 ho e1
    · exact h.lim k xs' blk1 base1 sz1 h1 e1

/-- An own object's cells are written: the block's row is another, of the same size. -/
theorem Inv.setRow {c : Ctx} {σ : Nat → Loc} {I : Nat → Prop} {w w' : World} {hp : H} {un : Nat → Prop} (h : Inv c σ I w hp un) {id : Nat} {xs ys : List AV} {blk base sz : Nat}
    (ho : hp id = some (.cells xs true)) (hl : σ id = .at_ blk base sz)
    (hos : w'.os = w.os) (htp : w'.tape = w.tape) (hout : w'.output = w.output) (hsz : w'.heap.size = w.heap.size) (hother : ∀ k, k ≠ blk → w'.heap[k]? = w.heap[k]?)
    (hc : ∀ i (h : i < ys.length), ys[i].isCell = true)
    (hnew : ∀ cs T lo hi, w.heap[blk]? = some (.cells cs T (lo, hi)) → cs.size = sz → ∃ cs', w'.heap[blk]? = some (.cells cs' T (lo, hi)) ∧ cs'.size = sz ∧ base + ys.length ≤ sz ∧ ∀ i (h : i < ys.length), Rel σ I w ys[i] (cs'.getD (base + i) undef)) :
    Inv c σ I w' (upd hp id (.cells ys true)) un := by
  refine h.setRowG ho hl hos htp hout hsz hother hc fun cs T lo hi h1 h2 h3 => ?_
  obtain ⟨cs', n1, n2, n3, n4⟩ := hnew cs T lo hi h1 h2
  exact ⟨cs', lo, hi, n1, n2, h3, n3, n4⟩

/-- An own object is not written any more. -/
theorem Inv.freeze {c : Ctx} {σ : Nat → Loc} {I : Nat → Prop} {w : World} {hp : H} {un : Nat → Prop} (h : Inv c σ I w hp un) {id : Nat} {xs : List AV} (ho : hp id = some (.cells xs true)) :
    ∃ I', (∀ k, I k → I' k) ∧ (∀ k, I' k → I k ∨ ∃ base sz, σ id = .at_ k base sz) ∧ Inv c σ I' w (upd hp id (.cells xs false)) un := by
  cases hl : σ id with
  | unset => have := h.own id _ ho; simp [OwnRel, hl] at this
  | nil =>
    refine ⟨I, fun _ h => h, fun k hk => .inl hk, ?_⟩
    refine { h with own := fun k o hk => ?_, inj := ?_, lim := ?_ }
    · rw [upd_apply] at hk
      split at hk
      · rename_i e; subst e
        obtain rfl := Option.some.inj hk
        have := h.own k _ ho
        simpa [OwnRel, hl] using this
      · exact h.own k o hk
    · intro k k' xs' o' blk1 base1 sz1 base2 sz2 h1 h2 hne e1 e2
      rw [upd_apply] at h1 h2
      by_cases ek : k = id
      · simp [ek] at h1
      · rw [if_neg ek] at h1
        by_cases ek' : k' = id
        · subst ek'; rw [hl] at e2; cases e2
        · rw [if_neg ek'] at h2; exact h.inj k k' xs' o' blk1 base1 sz1 base2 sz2 h1 h2 hne e1 e2
    · intro k xs' blk1 base1 sz1 h1 e1
      rw [upd_apply] at h1
      by_cases ek : k = id
      · simp [ek] at h1
      · rw [if_neg ek] at h1; exact h.lim k xs' blk1 base1 sz1 h1 e1
  | at_ blk base sz =>
    have hblt : blk < w.heap.size := (h.own id _ ho).lt hl
    have hI : ∀ k, I k → (I k ∨ k = blk) := fun k hk => .inl hk
    refine ⟨fun k => I k ∨ k = blk, hI, fun k hk => hk.imp (fun h => h) (fun e => ⟨base, sz, by rw [e]⟩), ?_⟩
    refine { h with inew := fun k hk => hk.elim (h.inew k) (fun e => by subst e; exact .inr (h.lim id xs k base sz ho hl)), imm := fun k hk => .inl (h.imm k hk), ilt := fun k hk => hk.elim (h.ilt k) (fun e => e ▸ hblt), own := fun k o hk => ?_, inj := ?_, lim := ?_, glob := fun g ys hg => (h.glob g ys hg).mono (fun _ _ => rfl) hI fun _ _ => rfl }
    · rw [upd_apply] at hk
      split at hk
      · rename_i e; subst e
        obtain rfl := Option.some.inj hk
        have := h.own k _ ho
        simp only [OwnRel, hl] at this ⊢
        exact ⟨this.1.mono (fun _ _ => rfl) hI (fun _ _ => rfl) rfl, fun hm => by simp at hm, by simp⟩
      · rename_i e
        refine (h.own k o hk).mono (fun _ _ => rfl) hI (fun _ _ => rfl) fun blk' base' sz' e' => ⟨rfl, fun hm hn hk' => ?_⟩
        rcases hk' with hk' | hk'
        · exact hn hk'
        · subst hk'
          exact h.inj id k xs o blk' base sz base' sz' ho hk (Ne.symm e) hl e'
    · intro k k' xs' o' blk1 base1 sz1 base2 sz2 h1 h2 hne e1 e2
      rw [upd_apply] at h1 h2
      by_cases ek : k = id
      · simp [ek] at h1
      · rw [if_neg ek] at h1
        by_cases ek' : k' = id
        · subst ek'; exact h.inj k k' xs' _ blk1 base1 sz1 base2 sz2 h1 ho hne e1 e2
        · rw [if_neg ek'] at h2; exact h.inj k k' xs' o' blk1 base1 sz1 base2 sz2 h1 h2 hne e1 e2
    · intro k xs' blk1 base1 sz1 h1 e1
      rw [upd_apply] at h1
      by_cases ek : k = id
      · simp [ek] at h1
      · rw [if_neg ek] at h1; exact h.lim k xs' blk1 base1 sz1 h1 e1

end Go.AX
