/-
  AX, part G: plain operations, and those that read, say what the model's do. AX, part H: operations that read say what the model's do. AX, part J: operations that make memory say what the model's do. AX, part K: operations that write say what the model's do. AX, part L: store, append, copy. AX, part M: states, steps, calls.
-/
import Derived.Test.YtndohkbppgmbjaaGreatBA
namespace Go.AX
open Go
section
variable {P : Program} {σ : Nat → Loc} {I : Nat → Prop} {w : World}
theorem b_inv {t : Bool} {v : Value} (h : Rel σ I w (.b t) v) : v = .bool t := by cases h; rfl
theorem s_inv {l : List (BitVec 8)} {v : Value} (h : Rel σ I w (.s l) v) : v = .string (dA l) := by cases h; rfl
theorem ix_run {x : AV} {v : Value} {n : Int} (h : ix x = some n) (hr : Rel σ I w x v) : ∃ k, (asIntOf v).run P w = .ok (k, n) w := by
 obtain ⟨k, rfl⟩ := ix_inv h hr; exact ⟨k, rfl⟩
inductive OptRel (σ : Nat → Loc) (I : Nat → Prop) (w : World) : Option AV → Option Value → Prop
 | none : OptRel σ I w .none .none
 | some {x : AV} {y : Value} : Rel σ I w x y → OptRel σ I w (.some x) (.some y)
theorem optRel_map {ρA : Operand → AV} {ρ : Operand → Value} (hρ : ∀ y, Rel σ I w (ρA y) (ρ y)) (l : Option Operand) : OptRel σ I w (l.map ρA) (l.map ρ) := by
 cases l with
 | none => exact .none
 | some x => exact .some (hρ x)
theorem eP {vl vh : Option AV} {ul uh : Option Value} {isS : Bool} {len cap : Nat} {l h : Int} (hl : loIx vl = some l) (hh : hiIx vh len = some h)
  (rl : OptRel σ I w vl ul) (rh : OptRel σ I w vh uh)
  (h0 : 0 ≤ l) (h1 : l ≤ h) (h2 : h ≤ cap) :
  (Instr.sliceBounds isS len cap ul uh none).run P w = .ok (l.toNat, h.toNat, cap) w := by
 have e : (h.toNat : Int) = h := Int.toNat_of_nonneg (by omega)
 cases rl with
 | none =>
  simp only [loIx] at hl
  obtain rfl := Option.some.inj hl
  cases rh with
  | none =>
   simp only [hiIx] at hh
   obtain rfl := Option.some.inj hh
   rfl
  | some hr =>
   obtain ⟨k, rfl⟩ := ix_inv hh hr
   simp only [Instr.sliceBounds, Sem.run_bind, Sem.run_pure, Result.andThen_ok]
   rw [run_sliceBound w k h cap _ (by omega) h2]; rfl
 | some hr1 =>
  obtain ⟨k1, rfl⟩ := ix_inv hl hr1
  cases rh with
  | none =>
   simp only [hiIx] at hh
   obtain rfl := Option.some.inj hh
   simp only [Instr.sliceBounds, Sem.run_bind, Sem.run_pure, Result.andThen_ok, Option.isSome_none, Bool.false_eq_true, if_false]
   rw [run_sliceBound w k1 l len _ h0 h1]; simp only [Result.andThen_ok, Int.toNat_natCast]
  | some hr =>
   obtain ⟨k, rfl⟩ := ix_inv hh hr
   simp only [Instr.sliceBounds, Sem.run_bind, Sem.run_pure, Result.andThen_ok, Option.isSome_none, Bool.false_eq_true, if_false]
   rw [run_sliceBound w k h cap _ (by omega) h2, Result.andThen_ok, run_sliceBound w k1 l h.toNat _ h0 (by omega)]; rfl
theorem rel_sl_sub {xs : List AV} {n blk o cap l h z : Nat} {f : Nat → Value} (hb : I blk) (hc : ∀ i (_h : i < xs.length), w.cell? ⟨blk, o + i, none⟩ = some (f i))
  (h1 : ∀ i (_h : i < xs.length), xs[i].isCell = true) (h2 : ∀ i (_h : i < xs.length), Rel σ I w xs[i] (f i)) (hlh : l ≤ h) (hn : h ≤ n) (hcap : n ≤ cap) :
  Rel σ I w (.sl (h - l) ((xs.drop (l * z)).take ((h - l) * z))) (.slice (if cap = l then some ⟨blk, o, none⟩ else (some (⟨blk, o, none⟩ : Addr)).map (·.add (l * z))) (h - l) (cap - l)) := by
 by_cases e : cap = l
 ·have e0 : h - l = 0 := by omega
  have e1 : cap - l = 0 := by omega
  rw [if_pos e, e0, e1]; simp only [Nat.zero_mul, List.take_zero]
  exact .slzero _
 ·rw [if_neg e]
  simp only [Option.map_some, eE]
  refine .sl _ _ blk (o + l * z) _ (fun i => f (l * z + i)) hb (by omega) (fun i hi => ?_) (fun i hi => ?_) (fun i hi => ?_)
  ·simp at hi; rw [Nat.add_assoc]; exact hc _ (by omega)
  ·rw [getElem_take', getElem_drop']; exact h1 _ _
  ·rw [getElem_take', getElem_drop']; exact h2 _ _
theorem slice3_sound {t : TypeId} {x y mx : AV} {v um : Value} {vl vh : Option AV} {ul uh : Option Value} (h : sliceA3 P t x vl vh mx = some y) (hx : Rel σ I w x v)
  (rl : OptRel σ I w vl ul) (rh : OptRel σ I w vh uh) (rm : Rel σ I w mx um) :
  ∃ u, (Instr.sliceAt t v ul uh (some um)).run P w = .ok u w ∧ Rel σ I w y u := by
 unfold sliceA3 at h
 split at h
 ·rename_i e hu
  obtain ⟨z, hz, h⟩ := aJ h
  have start : (Instr.sliceAt t v ul uh (some um)).run P w = (Instr.slice t v ul uh (some um)).run P w := by
   simp only [Instr.sliceAt, Sem.run_bind, run_underlying hu, Result.andThen_ok]
  cases x with
  | os id off n e' g =>
   obtain ⟨l, hl, h⟩ := aJ h
   obtain ⟨hh, hhh, h⟩ := aJ h
   obtain ⟨m, hm, h⟩ := aJ h
   obtain ⟨⟨c9, c0, c1, c2, c3, c4⟩, h⟩ := aP h
   obtain rfl := Option.some.inj h
   obtain ⟨km, rfl⟩ := ix_inv hm rm
   have bnd : ∀ cap : Nat, n ≤ cap → (Instr.sliceBounds true n cap ul uh (some (.int km m))).run P w = .ok (l.toNat, hh.toNat, m.toNat) w := by
    intro cap hcap
    have hm0 : (m.toNat : Int) = m := Int.toNat_of_nonneg (by omega)
    have hh0 : (hh.toNat : Int) = hh := Int.toNat_of_nonneg (by omega)
    cases rh with
    | none => cases c9
    | some hr =>
     obtain ⟨k, rfl⟩ := ix_inv hhh hr
     cases rl with
     | none =>
      simp only [loIx] at hl
      obtain rfl := Option.some.inj hl
      simp only [Instr.sliceBounds, Sem.run_bind, Sem.run_pure, Result.andThen_ok]
      rw [run_sliceBound w km m cap _ (by omega) (by omega), Result.andThen_ok, run_sliceBound w k hh m.toNat _ (by omega) (by omega)]; rfl
     | some hr1 =>
      obtain ⟨k1, rfl⟩ := ix_inv hl hr1
      simp only [Instr.sliceBounds, Sem.run_bind, Sem.run_pure]
      rw [run_sliceBound w km m cap _ (by omega) (by omega), Result.andThen_ok, run_sliceBound w k hh m.toNat _ (by omega) (by omega), Result.andThen_ok, run_sliceBound w k1 l hh.toNat _ c1 (by omega)]; rfl
   cases hx with
   | os _ _ _ _ _ blk base sz cap g1 g2 g3 =>
    have r := bnd cap g2
    refine ⟨_, by rw [start]; simp only [Instr.slice, Sem.run_bind, run_underlying hu, Result.andThen_ok, r, run_sizeOf' hz, Sem.run_pure]; rfl, ?_⟩
    by_cases e : m.toNat = l.toNat
    ·have e0 : hh.toNat - l.toNat = 0 := by omega
     have e1 : m.toNat - l.toNat = 0 := by omega
     rw [if_pos e, e0, e1]
     exact .oszero _ _ _ _ _ (by rw [g1]; simp)
    ·rw [if_neg e]
     simp only [Option.map_some, eE]
     rw [Nat.add_assoc]
     refine .os _ _ _ _ _ blk base sz (m.toNat - l.toNat) g1 (by omega) (fun hg => ?_)
     replace g3 := g3 hg
     have h5 : l.toNat * z ≤ m.toNat * z := Nat.mul_le_mul_right _ (by omega)
     have h6 : m.toNat * z ≤ cap * z := Nat.mul_le_mul_right _ (by omega)
     rw [c0] at g3
     rw [Nat.sub_mul]; omega
   | osnil _ _ _ g1 =>
    have r := bnd 0 (Nat.le_refl _)
    have e1 : hh.toNat = 0 := by omega
    have e2 : l.toNat = 0 := by omega
    have e3 : m.toNat = 0 := by omega
    refine ⟨.slice none 0 0, ?_, ?_⟩
    ·rw [start]
     simp only [Instr.slice, Sem.run_bind, run_underlying hu, Result.andThen_ok, r, run_sizeOf' hz, Sem.run_pure, e1, e2, e3]; rfl
    ·rw [e1, e2]; simp only [Nat.sub_self, Nat.zero_mul, Nat.add_zero]; exact .osnil _ _ _ g1
   | oszero _ _ _ _ a g1 =>
    have r := bnd 0 (Nat.le_refl _)
    have e1 : hh.toNat = 0 := by omega
    have e2 : l.toNat = 0 := by omega
    have e3 : m.toNat = 0 := by omega
    refine ⟨.slice (some a) 0 0, ?_, ?_⟩
    ·rw [start]
     simp only [Instr.slice, Sem.run_bind, run_underlying hu, Result.andThen_ok, r, run_sizeOf' hz, Sem.run_pure, e1, e2, e3]; rfl
    ·rw [e1, e2]; exact .oszero _ _ _ _ _ g1
  | _ => cases h
 ·cases h
theorem slice_sound {t : TypeId} {x y : AV} {v : Value} {vl vh : Option AV} {ul uh : Option Value} (h : sliceA P t x vl vh = some y) (hx : Rel σ I w x v)
  (rl : OptRel σ I w vl ul) (rh : OptRel σ I w vh uh) :
  ∃ u, (Instr.sliceAt t v ul uh none).run P w = .ok u w ∧ Rel σ I w y u := by
 unfold sliceA at h
 split at h
 ·rename_i e hu
  obtain ⟨z, hz, h⟩ := aJ h
  have start : (Instr.sliceAt t v ul uh none).run P w = (Instr.slice t v ul uh none).run P w := by
   simp only [Instr.sliceAt, Sem.run_bind, run_underlying hu, Result.andThen_ok]
  split at h
  ·rename_i n xs
   obtain ⟨l, hl, h⟩ := aJ h
   obtain ⟨hh, hhh, h⟩ := aJ h
   obtain ⟨⟨c1, c2, c3⟩, h⟩ := aP h
   obtain rfl := Option.some.inj h
   cases hx with
   | sl _ _ blk o cap f hb hle hc h1 h2 =>
    have r := eP (P := P) (isS := true) hl hhh rl rh c1 c2 (cap := cap) (by omega)
    refine ⟨_, ?_, rel_sl_sub (z := z) hb hc h1 h2 (l := l.toNat) (h := hh.toNat) (by omega) (by omega) hle⟩
    rw [start]
    simp only [Instr.slice, Sem.run_bind, run_underlying hu, Result.andThen_ok, r, run_sizeOf' hz, Sem.run_pure]
   | slnil =>
    have r := eP (P := P) (isS := true) hl hhh rl rh c1 c2 (cap := 0) (by omega)
    have e1 : hh.toNat = 0 := by omega
    have e2 : l.toNat = 0 := by omega
    refine ⟨.slice none 0 0, ?_, ?_⟩
    ·rw [start]
     simp only [Instr.slice, Sem.run_bind, run_underlying hu, Result.andThen_ok, r, run_sizeOf' hz, Sem.run_pure, e1, e2]; rfl
    ·rw [e1, e2]; simp only [Nat.sub_self, Nat.zero_mul, List.take_zero]; exact .slnil
   | slzero a =>
    have r := eP (P := P) (isS := true) hl hhh rl rh c1 c2 (cap := 0) (by omega)
    have e1 : hh.toNat = 0 := by omega
    have e2 : l.toNat = 0 := by omega
    refine ⟨.slice (some a) 0 0, ?_, ?_⟩
    ·rw [start]
     simp only [Instr.slice, Sem.run_bind, run_underlying hu, Result.andThen_ok, r, run_sizeOf' hz, Sem.run_pure, e1, e2]; rfl
    ·rw [e1, e2]; simp only [Nat.sub_self, Nat.zero_mul, List.take_zero]; exact .slzero _
  ·rename_i id off n e' g
   obtain ⟨l, hl, h⟩ := aJ h
   obtain ⟨hh, hhh, h⟩ := aJ h
   obtain ⟨⟨c0, c1, c2, c3⟩, h⟩ := aP h
   obtain rfl := Option.some.inj h
   cases hx with
   | os _ _ _ _ _ blk base sz cap g1 g2 g3 =>
    have r := eP (P := P) (isS := true) hl hhh rl rh c1 c2 (cap := cap) (by omega)
    refine ⟨_, by rw [start]; simp only [Instr.slice, Sem.run_bind, run_underlying hu, Result.andThen_ok, r, run_sizeOf' hz, Sem.run_pure]; rfl, ?_⟩
    by_cases e : cap = l.toNat
    ·have e0 : hh.toNat - l.toNat = 0 := by omega
     have e1 : cap - l.toNat = 0 := by omega
     rw [if_pos e, e0, e1]
     exact .oszero _ _ _ _ _ (by rw [g1]; simp)
    ·rw [if_neg e]
     simp only [Option.map_some, eE]
     rw [Nat.add_assoc]
     refine .os _ _ _ _ _ blk base sz (cap - l.toNat) g1 (by omega) (fun hg => ?_)
     replace g3 := g3 hg
     have h5 : l.toNat * z ≤ cap * z := Nat.mul_le_mul_right _ (by omega)
     rw [c0] at g3
     rw [Nat.sub_mul]; omega
   | osnil _ _ _ g1 =>
    have r := eP (P := P) (isS := true) hl hhh rl rh c1 c2 (cap := 0) (by omega)
    have e1 : hh.toNat = 0 := by omega
    have e2 : l.toNat = 0 := by omega
    refine ⟨.slice none 0 0, ?_, ?_⟩
    ·rw [start]
     simp only [Instr.slice, Sem.run_bind, run_underlying hu, Result.andThen_ok, r, run_sizeOf' hz, Sem.run_pure, e1, e2]; rfl
    ·rw [e1, e2]; simp only [Nat.sub_self, Nat.zero_mul, Nat.add_zero]; exact .osnil _ _ _ g1
   | oszero _ _ _ _ a g1 =>
    have r := eP (P := P) (isS := true) hl hhh rl rh c1 c2 (cap := 0) (by omega)
    have e1 : hh.toNat = 0 := by omega
    have e2 : l.toNat = 0 := by omega
    refine ⟨.slice (some a) 0 0, ?_, ?_⟩
    ·rw [start]
     simp only [Instr.slice, Sem.run_bind, run_underlying hu, Result.andThen_ok, r, run_sizeOf' hz, Sem.run_pure, e1, e2]; rfl
    ·rw [e1, e2]; exact .oszero _ _ _ _ _ g1
  ·obtain ⟨l, hl, h⟩ := aJ h
   obtain ⟨hh, hhh, h⟩ := aJ h
   obtain ⟨⟨c1, c2, c3⟩, h⟩ := aP h
   obtain rfl := Option.some.inj h
   cases hx with
   | v _ =>
    have r := eP (P := P) (isS := true) hl hhh rl rh c1 c2 (cap := 0) (by omega)
    have e1 : hh.toNat = 0 := by omega
    have e2 : l.toNat = 0 := by omega
    refine ⟨.slice none 0 0, ?_, .v _⟩
    rw [start]
    simp only [Instr.slice, Sem.run_bind, run_underlying hu, Result.andThen_ok, r, run_sizeOf' hz, Sem.run_pure, e1, e2]; rfl
  ·cases h
 ·rename_i n e hu
  obtain ⟨z, hz, h⟩ := aJ h
  obtain ⟨l, hl, h⟩ := aJ h
  obtain ⟨hh, hhh, h⟩ := aJ h
  obtain ⟨⟨c1, c2, c3⟩, h⟩ := aP h
  have r := eP (P := P) (isS := false) hl hhh rl rh c1 c2 (cap := n) (by omega)
  split at h
  ·rename_i xs
   obtain rfl := Option.some.inj h
   obtain ⟨blk, o, rfl⟩ := rp_inv hx
   cases hx with
   | rp _ _ _ f hb hc h1 h2 =>
    have := rel_sl_sub (σ := σ) (I := I) (w := w) (z := z) hb hc h1 h2 (l := l.toNat) (h := hh.toNat) (n := n) (cap := n) (by omega) (by omega) (Nat.le_refl _)
    refine ⟨_, ?_, this⟩
    simp only [Instr.sliceAt, Instr.sureAddr, Sem.run_bind, run_underlying hu, Result.andThen_ok, Sem.run_pure, r, run_sizeOf' hz]
    split <;> rfl
  ·rename_i id off
   obtain rfl := Option.some.inj h
   obtain ⟨blk, base, sz, g1, rfl⟩ := op_inv hx
   refine ⟨_, by simp only [Instr.sliceAt, Instr.sureAddr, Sem.run_bind, run_underlying hu, Result.andThen_ok, Sem.run_pure, r, run_sizeOf' hz]; rfl, ?_⟩
   by_cases e : n = l.toNat
   ·have e0 : hh.toNat - l.toNat = 0 := by omega
    have e1 : n - l.toNat = 0 := by omega
    rw [if_pos e, e0, e1]
    exact .oszero _ _ _ _ _ (by rw [g1]; simp)
   ·rw [if_neg e, eE, Nat.add_assoc]
    exact .os _ _ _ _ _ blk base sz (n - l.toNat) g1 (by omega) (fun hg => by cases hg)
  ·cases h
 ·rename_i hu
  split at h
  ·rename_i c
   obtain ⟨l, hl, h⟩ := aJ h
   obtain ⟨hh, hhh, h⟩ := aJ h
   obtain ⟨⟨c1, c2, c3⟩, h⟩ := aP h
   obtain rfl := Option.some.inj h
   obtain rfl := s_inv hx
   have r := eP (P := P) (isS := false) hl hhh rl rh c1 c2 (cap := c.length) c3
   refine ⟨.string ((dA c).extract l.toNat hh.toNat), ?_, ?_⟩
   ·simp only [Instr.sliceAt, Sem.run_bind, run_underlying hu, Result.andThen_ok, Instr.slice, Option.isSome_none, Bool.false_eq_true, if_false, eU, r, Sem.run_pure]
   ·have : (dA c).extract l.toNat hh.toNat = dA ((c.drop l.toNat).take (hh.toNat - l.toNat)) := by
     apply ByteArray.ext
     rw [ByteArray.data_extract]
     apply Array.ext'
     simp [dA, List.map_drop, List.map_take]
    rw [this]; exact .s _
  ·cases h
 ·cases h
theorem min2_inv {x y z : AV} {u v : Value} (h : min2A x y = some z) (hx : Rel σ I w x u) (hy : Rel σ I w y v) :
  ∃ k m n, u = .int k m ∧ v = .int k n ∧ Rel σ I w z (.int k (if n < m then n else m)) := by
 unfold min2A at h
 split at h
 ·cases hx; cases hy; obtain rfl := Option.some.inj h; exact ⟨_, _, _, rfl, rfl, .i _⟩
 ·rename_i a b
  cases hx; cases hy; obtain rfl := Option.some.inj h; refine ⟨_, _, _, rfl, rfl, ?_⟩
  have := Rel.w8 (σ := σ) (I := I) (w := w) (if b < a then b else a)
  rw [apply_ite BitVec.toNat, apply_ite (Nat.cast (R := Int))] at this
  simpa only [BitVec.lt_def, gt_iff_lt, Int.ofNat_lt] using this
 ·rename_i a b
  cases hx; cases hy; obtain rfl := Option.some.inj h; refine ⟨_, _, _, rfl, rfl, ?_⟩
  have := Rel.w16 (σ := σ) (I := I) (w := w) (if b < a then b else a)
  rw [apply_ite BitVec.toNat, apply_ite (Nat.cast (R := Int))] at this
  simpa only [BitVec.lt_def, gt_iff_lt, Int.ofNat_lt] using this
 ·rename_i a b
  cases hx; cases hy; obtain rfl := Option.some.inj h; refine ⟨_, _, _, rfl, rfl, ?_⟩
  have := Rel.w32 (σ := σ) (I := I) (w := w) (if b < a then b else a)
  rw [apply_ite BitVec.toNat, apply_ite (Nat.cast (R := Int))] at this
  simpa only [BitVec.lt_def, gt_iff_lt, Int.ofNat_lt] using this
 ·rename_i a b
  cases hx; cases hy; obtain rfl := Option.some.inj h; refine ⟨_, _, _, rfl, rfl, ?_⟩
  have := Rel.w64 (σ := σ) (I := I) (w := w) (if b < a then b else a)
  rw [apply_ite BitVec.toNat, apply_ite (Nat.cast (R := Int))] at this
  simpa only [BitVec.lt_def, gt_iff_lt, Int.ofNat_lt] using this
 ·cases h
theorem max2_inv {x y z : AV} {u v : Value} (h : max2A x y = some z) (hx : Rel σ I w x u) (hy : Rel σ I w y v) :
  ∃ k m n, u = .int k m ∧ v = .int k n ∧ Rel σ I w z (.int k (if n > m then n else m)) := by
 unfold max2A at h
 split at h
 ·cases hx; cases hy; obtain rfl := Option.some.inj h; exact ⟨_, _, _, rfl, rfl, .i _⟩
 ·rename_i a b
  cases hx; cases hy; obtain rfl := Option.some.inj h; refine ⟨_, _, _, rfl, rfl, ?_⟩
  have := Rel.w8 (σ := σ) (I := I) (w := w) (if a < b then b else a)
  rw [apply_ite BitVec.toNat, apply_ite (Nat.cast (R := Int))] at this
  simpa only [BitVec.lt_def, gt_iff_lt, Int.ofNat_lt] using this
 ·rename_i a b
  cases hx; cases hy; obtain rfl := Option.some.inj h; refine ⟨_, _, _, rfl, rfl, ?_⟩
  have := Rel.w16 (σ := σ) (I := I) (w := w) (if a < b then b else a)
  rw [apply_ite BitVec.toNat, apply_ite (Nat.cast (R := Int))] at this
  simpa only [BitVec.lt_def, gt_iff_lt, Int.ofNat_lt] using this
 ·rename_i a b
  cases hx; cases hy; obtain rfl := Option.some.inj h; refine ⟨_, _, _, rfl, rfl, ?_⟩
  have := Rel.w32 (σ := σ) (I := I) (w := w) (if a < b then b else a)
  rw [apply_ite BitVec.toNat, apply_ite (Nat.cast (R := Int))] at this
  simpa only [BitVec.lt_def, gt_iff_lt, Int.ofNat_lt] using this
 ·rename_i a b
  cases hx; cases hy; obtain rfl := Option.some.inj h; refine ⟨_, _, _, rfl, rfl, ?_⟩
  have := Rel.w64 (σ := σ) (I := I) (w := w) (if a < b then b else a)
  rw [apply_ite BitVec.toNat, apply_ite (Nat.cast (R := Int))] at this
  simpa only [BitVec.lt_def, gt_iff_lt, Int.ofNat_lt] using this
 ·cases h
theorem pure_sound {o : Oper} {ρA : Operand → AV} {ρ : Operand → Value} {x : AV} (h : dI P o.op ρA = some x) (hρ : ∀ y, Rel σ I w (ρA y) (ρ y)) :
  ∃ v, (execOp ρ o).run P w = .ok (.value v) w ∧ Rel σ I w x v := by
 obtain ⟨dst, op, type, pos, after, guard⟩ := o
 simp only at h
 unfold dI at h
 split at h
 case h_1 y => obtain rfl := Option.some.inj h; exact ⟨_, rfl, hρ _⟩
 case h_2 y => obtain rfl := Option.some.inj h; exact ⟨_, rfl, hρ _⟩
 case h_3 c a b =>
  split at h
  ·rename_i t ht
   obtain rfl := Option.some.inj h
   have hc := hρ c; rw [ht] at hc
   have e : ρ c = .bool t := b_inv hc
   refine ⟨if t then ρ a else ρ b, ?_, ?_⟩
   ·simp only [execOp, e, asBool, Sem.run_bind, Sem.run_pure, Result.andThen_ok]
   ·cases t
    ·exact hρ b
    ·exact hρ a
  ·cases h
 case h_4 y =>
  have hy := hρ y
  split at h
  ·rename_i id off e
   obtain rfl := Option.some.inj h
   rw [e] at hy
   obtain ⟨blk, base, sz, _, hv⟩ := op_inv hy
   exact ⟨ρ y, by simp only [execOp, hv, Sem.run_pure], hy⟩
  ·rename_i xs e
   obtain rfl := Option.some.inj h
   rw [e] at hy
   obtain ⟨blk, o, hv⟩ := rp_inv hy
   exact ⟨ρ y, by simp only [execOp, hv, Sem.run_pure], hy⟩
  ·cases h
 case h_5 op t a b u =>
  obtain ⟨v, hv, hr⟩ := binT_sound (P := P) a b h (hρ a) (hρ b)
  exact ⟨v, gK hv, hr⟩
 case h_6 op u a =>
  obtain ⟨v, hv, hr⟩ := un_sound (P := P) h (hρ a)
  exact ⟨v, gK hv, hr⟩
 case h_7 src dst a =>
  obtain ⟨d, hd, h⟩ := aJ h
  split at h
  ·rename_i k hk
   obtain ⟨k', m, v, hv, hrun, hr⟩ := toK_sound (P := P) h (hρ a)
   refine ⟨v, gK ?_, hr⟩
   rw [hv]
   simp only [convert, Sem.run_bind, run_underlying hd, run_underlying hk, Result.andThen_ok]
   cases d <;> exact hrun
  ·rename_i hk
   split at h
   ·rename_i l e
    obtain rfl := Option.some.inj h
    have ha := hρ a; rw [e] at ha
    have ev : ρ a = .string (dA l) := s_inv ha
    refine ⟨ρ a, gK ?_, ha⟩
    rw [ev]
    simp only [convert, Sem.run_bind, run_underlying hd, run_underlying hk, Result.andThen_ok]
    cases d <;> rfl
   ·cases h
  ·cases h
 case h_8 t a =>
  split at h
  ·rename_i n e hu
   obtain ⟨hn, h⟩ := aP h
   have ha := hρ a
   split at h
   ·rename_i m xs eq
    obtain ⟨hm, h⟩ := aP h
    obtain rfl := Option.some.inj h
    rw [eq] at ha
    cases hv : ρ a with
    | slice a0 len cap =>
     rw [hv] at ha
     cases ha with
     | sl _ _ blk o _ f hI hle hc h1 h2 =>
      refine ⟨_, gK ?_, .rp xs blk o f hI hc h1 h2⟩
      simp only [hv, Instr.arrayAt, Sem.run_bind, run_underlying hu, Result.andThen_ok]
      rw [Sem.run_ite, if_neg (by omega)]; rfl
     | slnil => omega
     | slzero => omega
    | _ => rw [hv] at ha; cases ha
   ·rename_i id off m e' g eq
    obtain ⟨hm, h⟩ := aP h
    obtain rfl := Option.some.inj h
    rw [eq] at ha
    cases hv : ρ a with
    | slice a0 len cap =>
     rw [hv] at ha
     cases ha with
     | os _ _ _ _ _ blk base sz _ h1 h2 h3 =>
      refine ⟨_, gK ?_, .op id off blk base sz h1⟩
      simp only [hv, Instr.arrayAt, Sem.run_bind, run_underlying hu, Result.andThen_ok]
      rw [Sem.run_ite, if_neg (by omega)]; rfl
     | osnil => omega
     | oszero => omega
    | _ => rw [hv] at ha; cases ha
   ·cases h
  ·cases h
 case h_9 s a f =>
  split at h
  ·rename_i fs hu
   obtain ⟨fd, hfd, h⟩ := aJ h
   obtain ⟨n, hn, h⟩ := aJ h
   obtain ⟨hpos, h⟩ := aP h
   have ha := hρ a
   have hne : ¬ n = 0 := by omega
   split at h
   ·rename_i id off eq
    obtain rfl := Option.some.inj h
    rw [eq] at ha
    obtain ⟨blk, base, sz, hl, hv⟩ := op_inv ha
    refine ⟨_, gK ?_, .op id (off + fd.offset) blk base sz hl⟩
    simp only [hv, Instr.fieldAt, Instr.sureAddr, fieldPlace, Sem.run_bind, run_underlying hu, hfd, Result.andThen_ok, Sem.run_pure, run_sizeOf' hn, Sem.run_ite, if_neg hne, eE, Nat.add_assoc]
   ·rename_i xs eq
    obtain rfl := Option.some.inj h
    rw [eq] at ha
    obtain ⟨blk, o, hv⟩ := rp_inv ha
    rw [hv] at ha
    refine ⟨_, gK ?_, rel_rp_drop (k := fd.offset) ha⟩
    simp only [hv, Instr.fieldAt, Instr.sureAddr, fieldPlace, Sem.run_bind, run_underlying hu, hfd, Result.andThen_ok, Sem.run_pure, run_sizeOf' hn, Sem.run_ite, if_neg hne, eE]
   ·cases h
  ·cases h
 case h_10 s a f =>
  split at h
  ·rename_i fs hu
   obtain ⟨fd, hfd, h⟩ := aJ h
   have ha := hρ a
   split at h
   ·rename_i cs eq
    rw [eq] at ha
    cases hv : ρ a with
    | agg vs =>
     rw [hv] at ha
     obtain ⟨v, hrun, hr⟩ := ldV_part h ha
     refine ⟨v, gK ?_, hr⟩
     simp only [hv, Instr.field, asAgg, Sem.run_bind, run_underlying hu, hfd, Result.andThen_ok, Sem.run_pure, hrun]
    | _ => rw [hv] at ha; cases ha
   ·cases h
  ·cases h
 case h_11 t a j =>
  obtain ⟨jn, hj, h⟩ := aJ h
  obtain ⟨k, hrj⟩ := ix_run (P := P) hj (hρ j)
  have ha := hρ a
  split at h
  ·rename_i e hu
   obtain ⟨z, hz, h⟩ := aJ h
   split at h
   ·rename_i n xs eq
    obtain ⟨hb, h⟩ := aP h
    obtain rfl := Option.some.inj h
    rw [eq] at ha
    cases hv : ρ a with
    | slice a0 len cap =>
     rw [hv] at ha
     cases ha with
     | sl _ _ blk o _ f hI hle hc h1 h2 =>
      refine ⟨_, gK ?_, rel_rp_drop (.rp xs blk o f hI hc h1 h2)⟩
      simp only [hv, Instr.indexAt, Sem.run_bind, hrj, Result.andThen_ok, run_underlying hu, Sem.run_pure]
      rw [Sem.run_ite, if_pos hb]
      simp only [Sem.run_bind, run_sizeOf' hz, Result.andThen_ok, Sem.run_pure, eE]
     | slnil => omega
     | slzero => omega
    | _ => rw [hv] at ha; cases ha
   ·rename_i id off n e' g eq
    obtain ⟨⟨he, hb⟩, h⟩ := aP h
    obtain rfl := Option.some.inj h
    rw [eq] at ha
    cases hv : ρ a with
    | slice a0 len cap =>
     rw [hv] at ha
     cases ha with
     | os _ _ _ _ _ blk base sz _ h1 h2 h3 =>
      refine ⟨_, gK ?_, .op id (off + jn.toNat * z) blk base sz h1⟩
      simp only [hv, Instr.indexAt, Sem.run_bind, hrj, Result.andThen_ok, run_underlying hu, Sem.run_pure]
      rw [Sem.run_ite, if_pos hb]
      simp only [Sem.run_bind, run_sizeOf' hz, Result.andThen_ok, Sem.run_pure, eE, Nat.add_assoc]
     | osnil => omega
     | oszero => omega
    | _ => rw [hv] at ha; cases ha
   ·cases h
  ·rename_i n e hu
   obtain ⟨z, hz, h⟩ := aJ h
   obtain ⟨hb, h⟩ := aP h
   split at h
   ·rename_i xs eq
    obtain rfl := Option.some.inj h
    rw [eq] at ha
    obtain ⟨blk, o, hv⟩ := rp_inv ha
    rw [hv] at ha
    refine ⟨_, gK ?_, rel_rp_drop ha⟩
    simp only [hv, Instr.indexAt, Instr.sureAddr, Sem.run_bind, hrj, Result.andThen_ok, run_underlying hu, Sem.run_pure]
    rw [Sem.run_ite, if_pos hb]
    simp only [Sem.run_bind, run_sizeOf' hz, Result.andThen_ok, Sem.run_pure, eE]
   ·rename_i id off eq
    obtain rfl := Option.some.inj h
    rw [eq] at ha
    obtain ⟨blk, base, sz, hl, hv⟩ := op_inv ha
    refine ⟨_, gK ?_, .op id (off + jn.toNat * z) blk base sz hl⟩
    simp only [hv, Instr.indexAt, Instr.sureAddr, Sem.run_bind, hrj, Result.andThen_ok, run_underlying hu, Sem.run_pure]
    rw [Sem.run_ite, if_pos hb]
    simp only [Sem.run_bind, run_sizeOf' hz, Result.andThen_ok, Sem.run_pure, eE, Nat.add_assoc]
   ·cases h
  ·cases h
 case h_12 t a j =>
  obtain ⟨jn, hj, h⟩ := aJ h
  obtain ⟨k, hrj⟩ := ix_run (P := P) hj (hρ j)
  have ha := hρ a
  split at h
  ·rename_i n e hu
   obtain ⟨z, hz, h⟩ := aJ h
   obtain ⟨hb, h⟩ := aP h
   split at h
   ·rename_i cs eq
    rw [eq] at ha
    cases hv : ρ a with
    | agg vs =>
     rw [hv] at ha
     obtain ⟨v, hrun, hr⟩ := ldV_part h ha
     refine ⟨v, gK ?_, hr⟩
     simp only [hv, Instr.index, Sem.run_bind, hrj, Result.andThen_ok, run_underlying hu]
     rw [Sem.run_ite, if_pos hb]
     simp only [Sem.run_bind, run_sizeOf' hz, Result.andThen_ok, hrun]
    | _ => rw [hv] at ha; cases ha
   ·cases h
  ·rename_i hu
   split at h
   ·rename_i l eq
    obtain ⟨hb, h⟩ := aP h
    obtain ⟨c, hc, h⟩ := aJ h
    obtain rfl := Option.some.inj h
    rw [eq] at ha
    have hv : ρ a = .string (dA l) := s_inv ha
    refine ⟨_, gK ?_, .w8 c⟩
    have hget : (dA l)[jn.toNat]? = some (UInt8.ofBitVec c) := by
     show (if h : jn.toNat < (dA l).size then some ((dA l)[jn.toNat]) else none) = _
     obtain ⟨hlt, hcc⟩ := List.getElem?_eq_some_iff.1 hc
     rw [dif_pos (by rw [eU]; exact hlt)]
     congr 1
     show (dA l).data[jn.toNat]'_ = _
     simp only [dA, List.getElem_toArray, List.getElem_map, hcc]
    simp only [hv, Instr.index, Sem.run_bind, hrj, Result.andThen_ok, run_underlying hu, if_pos hb, hget]
    rfl
   ·cases h
  ·cases h
 case h_13 t parts =>
  obtain ⟨zs, hzs, h⟩ := aJ h
  obtain ⟨z, hz, _, he, h1⟩ := run_zeroValue' hzs w
  have hzc : cV σ I w zs z.cells := eT he h1
  split at h
  ·rename_i fs hu
   obtain ⟨cs, hcs, h⟩ := aJ h
   obtain ⟨hall, h⟩ := aP h
   obtain rfl := Option.some.inj h
   have hmap : (fs.mapM (fun f => do pure (f.offset, ← sizeOf f.type) : Field → Sem (Nat × Nat))).run P w = .ok (fs.map fun f => (f.offset, (cD P f.type).getD 0)) w := by
    rw [Array.mapM_eq_mapM_toList]
    have hl : ∀ (l : List Field), (∀ f ∈ l, (cD P f.type).isSome = true) → (l.mapM (fun f => do pure (f.offset, ← sizeOf f.type) : Field → Sem (Nat × Nat))).run P w = .ok (l.map fun f => (f.offset, (cD P f.type).getD 0)) w := by
     intro l
     induction l with
     | nil => intro _; rfl
     | cons f r ih =>
      intro hr
      obtain ⟨n, hn⟩ := Option.isSome_iff_exists.1 (hr f (by simp))
      rw [List.mapM_cons]
      simp only [Sem.run_bind, run_sizeOf' hn, Result.andThen_ok, Sem.run_pure, ih (fun g hg => hr g (by simp [hg])), hn, List.map_cons, Option.getD_some]
    rw [Sem.run_map, hl fs.toList (fun f hf => List.all_eq_true.1 hall f hf)]
    simp only [Result.andThen_ok, ← Array.toList_map, Array.toArray_toList]
   have hplace : ∀ (k : Nat) (o : Nat × Nat), (aK fs[k]? fun fd => aK (cD P fd.type) fun n => some (fd.offset, n)) = some o → (fs.map fun f => (f.offset, (cD P f.type).getD 0))[k]? = some o := by
    intro k o hk
    obtain ⟨fd, hfd, hk⟩ := aJ hk
    obtain ⟨n, hn, hk⟩ := aJ hk
    rw [Array.getElem?_map, hfd]
    simp [hn, Option.some.inj hk]
   obtain ⟨us, hus, hrel⟩ := fill_sound hplace _ (parts.map fun (i, x) => (i, ρ x)).toList _ _ _ (by simp) (parts_rel hρ) hzc hcs
   refine ⟨_, gK ?_, hrel.agg⟩
   simp only [Instr.build, Sem.run_bind, hz, Result.andThen_ok, run_underlying hu, hmap, hus, Sem.run_pure]
  ·rename_i n e hu
   obtain ⟨z1, hz1, h⟩ := aJ h
   have fin : ∀ cs, (∃ us, Instr.fill (fun i => some (i * z1, z1)) z.cells (parts.map fun (i, x) => (i, ρ x)).toList = some us ∧ cV σ I w cs us) → x = .agg cs →
     ∃ v, (execOp ρ { dst := dst, op := .build t parts, type := type, pos := pos, after := after, guard := guard }).run P w = .ok (.value v) w ∧ Rel σ I w x v := by
    rintro cs ⟨us, hus, hrel⟩ rfl
    refine ⟨_, gK ?_, hrel.agg⟩
    simp only [Instr.build, Sem.run_bind, hz, Result.andThen_ok, run_underlying hu, run_sizeOf' hz1, hus, Sem.run_pure]
   split at h
   ·rename_i cs hcs
    obtain rfl := Option.some.inj h
    split at hcs
    ·rename_i hc
     refine fin cs ?_ rfl
     obtain ⟨us, hus, hrel⟩ := seqA_sound hc.1 (placeM := fun i => some (i * z1, z1)) (fun k => rfl) _ (parts.map fun (i, x) => (i, ρ x)).toList 0 cs [] z.cells (by simp) (parts_rel hρ) ⟨zs, by simpa using hzc, by simp [hc.2]⟩ rfl hcs
     exact ⟨us, hus, by simpa using hrel⟩
    ·cases hcs
   ·obtain ⟨cs, hcs, h⟩ := aJ h
    obtain ⟨_, h⟩ := aP h
    obtain rfl := Option.some.inj h
    refine fin cs ?_ rfl
    exact fill_sound (placeM := fun i => some (i * z1, z1)) (fun k o hk => hk) _ (parts.map fun (i, x) => (i, ρ x)).toList _ _ _ (by simp) (parts_rel hρ) hzc hcs
  ·cases h
 case h_14 f first captured =>
  obtain ⟨h0, h⟩ := aP h
  obtain rfl := Option.some.inj h
  have e0 : first = #[] := Array.eq_empty_of_size_eq_zero h0
  subst e0
  have hm : captured.map ρ = (captured.toList.map ρ).toArray := by rw [← Array.toList_map, Array.toArray_toList]
  refine ⟨.func (.func f) #[] (captured.map ρ), gK (by simp [Instr.makeFunc]), ?_⟩
  rw [hm]
  exact .fn f _ _ (by simp) (map_rel hρ)
 case h_15 t k =>
  split at h
  ·rename_i xs eq
   have ha := hρ t
   rw [eq] at ha
   cases hv : ρ t with
   | tuple vs =>
    rw [hv] at ha
    cases ha with
    | tup _ _ h1 h2 =>
     obtain ⟨hlt, rfl⟩ := List.getElem?_eq_some_iff.1 h
     have hg : vs[k]? = some (vs.getD k undef) := by rw [Array.getD_eq_getD_getElem?, Array.getElem?_eq_getElem (by omega)]; rfl
     refine ⟨_, gK ?_, h2 k hlt⟩
     simp only [hv, Instr.extract, hg, Sem.run_pure]
   | _ => rw [hv] at ha; cases ha
  ·cases h
 case h_16 t y lo hi =>
  obtain ⟨u, hrun, hr⟩ := slice_sound (P := P) (ul := lo.map ρ) (uh := hi.map ρ) h (hρ y)
   (optRel_map hρ lo) (optRel_map hρ hi)
  exact ⟨u, gK hrun, hr⟩
 case h_17 t y lo hi mx =>
  obtain ⟨u, hrun, hr⟩ := slice3_sound (P := P) (ul := lo.map ρ) (uh := hi.map ρ) h (hρ y)
   (optRel_map hρ lo) (optRel_map hρ hi) (hρ mx)
  exact ⟨u, gK hrun, hr⟩
 case h_18 c =>
  unfold callLen at h
  obtain ⟨callee, args, argTypes⟩ := c
  simp only at h
  split at h
  ·rename_i y t ts e1 e2
   have ea : args = #[y] := by rw [← Array.toArray_toList (xs := args), e1]
   have et : argTypes[0]? = some t := by rw [← Array.getElem?_toList, e2]; rfl
   subst ea
   have hy := hρ y
   have start : ∀ v, (Builtin.len_ argTypes type #[ρ y]).run P w = .ok v w →
     (execOp ρ { dst := dst, op := .call { callee := .builtin .len, args := #[y], argTypes := argTypes }, type := type, pos := pos, after := after, guard := guard }).run P w = .ok (.value v) w := by
    intro v hv
    simp only [execOp, resolve, invoke, builtin, Sem.run_bind, Sem.run_pure, Result.andThen_ok, List.map_toArray, List.map_cons, List.map_nil, hv]
   unfold lenA at h
   split at h
   ·rename_i e hu
    have fin : ∀ n cap (a : Option Addr), ρ y = .slice a n cap → x = .i n → ∃ v, (execOp ρ { dst := dst, op := .call { callee := .builtin .len, args := #[y], argTypes := argTypes }, type := type, pos := pos, after := after, guard := guard }).run P w = .ok (.value v) w ∧ Rel σ I w x v := by
     rintro n cap a hv rfl
     refine ⟨_, start _ ?_, .i n⟩
     simp only [Builtin.len_, et, List.getElem?_toArray, List.getElem?_cons_zero, hv, Sem.run_bind, run_underlying hu, Result.andThen_ok, Sem.run_pure, goInt]
    split at h
    ·rename_i n xs eq
     rw [eq] at hy
     obtain rfl := Option.some.inj h
     cases hv : ρ y with
     | slice a len cap =>
      rw [hv] at hy
      have : len = n := by cases hy <;> rfl
      exact fin n cap a (by rw [hv, this]) rfl
     | _ => rw [hv] at hy; cases hy
    ·rename_i id off n e' g eq
     rw [eq] at hy
     obtain rfl := Option.some.inj h
     cases hv : ρ y with
     | slice a len cap =>
      rw [hv] at hy
      have : len = n := by cases hy <;> rfl
      exact fin n cap a (by rw [hv, this]) rfl
     | _ => rw [hv] at hy; cases hy
    ·rename_i eq
     rw [eq] at hy
     obtain rfl := Option.some.inj h
     have hv : ρ y = .slice none 0 0 := by generalize ρ y = u at hy; cases hy; rfl
     exact fin 0 0 none hv rfl
    ·cases h
   ·rename_i hu
    split at h
    ·rename_i l eq
     rw [eq] at hy
     obtain rfl := Option.some.inj h
     refine ⟨_, start _ ?_, .i _⟩
     simp only [Builtin.len_, et, List.getElem?_toArray, List.getElem?_cons_zero, s_inv hy, Sem.run_bind, run_underlying hu, Result.andThen_ok, Sem.run_pure, goInt, eU]
    ·cases h
   ·rename_i n e hu
    obtain rfl := Option.some.inj h
    refine ⟨_, start _ ?_, .i _⟩
    simp only [Builtin.len_, et, List.getElem?_toArray, List.getElem?_cons_zero, Sem.run_bind, run_underlying hu, Result.andThen_ok, Sem.run_pure, goInt]
   ·cases h
  ·rename_i a b e1
   have ea : args = #[a, b] := by rw [← Array.toArray_toList (xs := args), e1]
   subst ea
   obtain ⟨k, m, n, h1, h2, hr⟩ := min2_inv h (hρ a) (hρ b)
   refine ⟨_, ?_, hr⟩
   simp only [execOp, resolve, invoke, builtin, Sem.run_bind, Sem.run_pure, Result.andThen_ok, List.map_toArray, List.map_cons, List.map_nil, h1, h2]
   rw [run_min_int2]; rfl
  ·rename_i a b e1
   have ea : args = #[a, b] := by rw [← Array.toArray_toList (xs := args), e1]
   subst ea
   obtain ⟨k, m, n, h1, h2, hr⟩ := max2_inv h (hρ a) (hρ b)
   refine ⟨_, ?_, hr⟩
   simp only [execOp, resolve, invoke, builtin, Sem.run_bind, Sem.run_pure, Result.andThen_ok, List.map_toArray, List.map_cons, List.map_nil, h1, h2]
   rw [run_max_int2]; rfl
  ·rename_i y t ts e1 e2
   have ea : args = #[y] := by rw [← Array.toArray_toList (xs := args), e1]
   have et : argTypes[0]? = some t := by rw [← Array.getElem?_toList, e2]; rfl
   subst ea
   have hy := hρ y
   unfold capA at h
   split at h
   ·rename_i e hu eq
    rw [eq] at hy
    obtain rfl := Option.some.inj h
    have hv : ρ y = .slice none 0 0 := by generalize ρ y = u at hy; cases hy; rfl
    refine ⟨_, ?_, .i 0⟩
    simp only [execOp, resolve, invoke, builtin, Sem.run_bind, Sem.run_pure, Result.andThen_ok, List.map_toArray, List.map_cons, List.map_nil, hv, Builtin.cap_, et, List.getElem?_toArray, List.getElem?_cons_zero, run_underlying hu, goInt]
    rfl
   ·cases h
  ·cases h
 case h_19 y _ t =>
  split at h
  ·rename_i t' v' hy
   replace h := aP h; obtain ⟨⟨rfl, hif, hun⟩, h⟩ := h
   obtain rfl := Option.some.inj h
   have hv := hρ y; rw [hy] at hv
   have e : ρ y = .iface t' v' := by generalize ρ y = u at hv; cases hv; rfl
   obtain ⟨u, hu⟩ := Option.isSome_iff_exists.1 hun
   refine ⟨.tuple #[v', .bool true], ?_, .tup _ _ rfl (fun i hi => ?_)⟩
   ·simp only [execOp, e, Instr.typeAssert, Sem.run_bind, run_underlying hu, Result.andThen_ok]
    unfold isIfT at hif
    rw [hu] at hif
    cases u <;> first | (simp at hif; done) | (simp only [if_true, Sem.run_pure, Result.andThen_ok])
   ·match i, hi with
    | 0, _ => exact rel_ofV _
    | 1, _ => exact .b _
  ·cases h
 case h_20 => cases h
end
end Go.AX
namespace Go.AX
open Go
section
variable {P : Program} {σ : Nat → Loc} {I : Nat → Prop} {w : World}
theorem RowAt.get {xs : List AV} {blk base sz : Nat} (h : RowAt σ I w xs blk base sz) (i : Nat) (hi : i < xs.length) :
  ∃ v, w.cell? ⟨blk, base + i, none⟩ = some v ∧ xs[i].isCell = true ∧ Rel σ I w xs[i] v := by
 obtain ⟨⟨c, T, lo, hi', h1, h2, h3, _, h5⟩, h6⟩ := h
 have hlt : base + i < c.size := by omega
 refine ⟨c.getD (base + i) undef, ?_, h6 i hi, h5 i hi⟩
 simp only [World.cell?, h1, Option.isSome_none, Bool.false_eq_true, if_false]
 rw [Array.getElem?_eq_getElem hlt, Array.getD_eq_getD_getElem?, Array.getElem?_eq_getElem hlt]; rfl
theorem fH {id : Nat} {xs : List AV} {mt : Bool} {blk base sz : Nat} (h : cF σ I w id (.cells xs mt)) (e : σ id = .at_ blk base sz) : RowAt σ I w xs blk base sz := by
 simp only [cF, e] at h; exact h.1
theorem own_len {id : Nat} {xs : List AV} {mt : Bool} {blk base sz : Nat} (h : cF σ I w id (.cells xs mt)) (e : σ id = .at_ blk base sz) : base + xs.length ≤ sz := by
 obtain ⟨⟨_, _, _, _, _, _, h3, _⟩, _⟩ := fH h e; exact h3
theorem own_nil {id : Nat} {xs : List AV} {mt : Bool} (h : cF σ I w id (.cells xs mt)) (e : σ id = .nil) : xs = [] := by
 simpa only [cF, e] using h
theorem rp_get {xs : List AV} {blk o : Nat} (h : Rel σ I w (.rp xs) (.pointer (some ⟨blk, o, none⟩))) (i : Nat) (hi : i < xs.length) :
  ∃ v, w.cell? ⟨blk, o + i, none⟩ = some v ∧ xs[i].isCell = true ∧ Rel σ I w xs[i] v := by
 cases h with
 | rp _ _ _ f hb hc h1 h2 => exact ⟨f i, hc i hi, h1 i hi, h2 i hi⟩
theorem bW : ∀ {xs : List AV} {l : List (BitVec 8)}, cI xs = some l → xs = l.map .w8
 | [], l, h => by obtain rfl := Option.some.inj h; rfl
 | .w8 x :: r, l, h => by
  simp only [cI] at h
  obtain ⟨l', h1, h⟩ := aJ h
  obtain rfl := Option.some.inj h
  rw [bW h1]; rfl
 | .w16 _ :: _, _, h | .w32 _ :: _, _, h | .w64 _ :: _, _, h | .i _ :: _, _, h | .b _ :: _, _, h | .s _ :: _, _, h | .v _ :: _, _, h | .agg _ :: _, _, h | .tup _ :: _, _, h | .sl _ _ :: _, _, h
 | .rp _ :: _, _, h | .os _ _ _ _ _ :: _, _, h | .op _ _ :: _, _, h | .mp _ :: _, _, h | .fn _ _ :: _, _, h | .junk :: _, _, h => by cases h
theorem slCells_run {hp : H} {z n : Nat} {x : AV} {xs : List AV} {v : Value} (h : fG hp z x = some (n, xs)) (hx : Rel σ I w x v) (hown : ∀ id o, hp id = some o → cF σ I w id o) :
  xs.length = n * z ∧ (∀ i (_h : i < xs.length), xs[i].isCell = true) ∧ ∃ (a : Option Addr) (cap : Nat) (vs : Array Value), v = .slice a n cap ∧ vs.size = xs.length ∧ (∀ i (_h : i < xs.length), Rel σ I w xs[i] (vs.getD i undef)) ∧
   (match a with | some a => ∀ k (vv : Value), vs.toList[k]? = some vv → w.cell? (a.add k) = some vv | none => n = 0) := by
 have mk : ∀ (blk o : Nat) (hc : ∀ i (_h : i < xs.length), ∃ v, w.cell? ⟨blk, o + i, none⟩ = some v ∧ xs[i].isCell = true ∧ Rel σ I w xs[i] v),
   ∃ vs : Array Value, vs.size = xs.length ∧ (∀ i (_h : i < xs.length), Rel σ I w xs[i] (vs.getD i undef)) ∧ ∀ k (vv : Value), vs.toList[k]? = some vv → w.cell? ((⟨blk, o, none⟩ : Addr).add k) = some vv := by
  intro blk o hc
  refine ⟨((List.range xs.length).map fun i => (w.cell? ⟨blk, o + i, none⟩).getD undef).toArray, by simp, fun i hi => ?_, fun k vv hk => ?_⟩
  ·obtain ⟨v, hv, _, hr⟩ := hc i hi
   rw [fI, List.getD_eq_getElem?_getD, List.getElem?_map, List.getElem?_range hi]
   simp [hv, hr]
  ·simp only [List.getElem?_map] at hk
   obtain ⟨m, hm, rfl⟩ := Option.map_eq_some_iff.1 hk
   rw [List.getElem?_eq_some_iff] at hm
   obtain ⟨hlt, hm⟩ := hm
   simp at hlt hm
   subst hm
   obtain ⟨v, hv, _, _⟩ := hc k hlt
   rw [eE, hv]; rfl
 unfold fG at h
 split at h
 ·rename_i n' ys
  obtain ⟨hl, h⟩ := aP h
  obtain ⟨rfl, rfl⟩ := Prod.mk.inj (Option.some.inj h)
  cases hx with
  | sl _ _ blk o cap f hb hle hc h1 h2 =>
   obtain ⟨vs, e1, e2, e3⟩ := mk blk o (fun i hi => ⟨f i, hc i hi, h1 i hi, h2 i hi⟩)
   exact ⟨hl, h1, _, cap, vs, rfl, e1, e2, e3⟩
  | slnil => exact ⟨hl, fun i hi => by simp at hi, _, 0, #[], rfl, rfl, fun i hi => by simp at hi, rfl⟩
  | slzero a => exact ⟨hl, fun i hi => by simp at hi, _, 0, #[], rfl, rfl, fun i hi => by simp at hi, fun k vv hk => by simp at hk⟩
 ·rename_i id off n' e g
  obtain ⟨o, ho, h⟩ := aJ h
  split at h
  rename_i ys mt
  obtain ⟨⟨he, hl⟩, h⟩ := aP h
  obtain ⟨rfl, rfl⟩ := Prod.mk.inj (Option.some.inj h)
  have hlen : ((ys.drop off).take (n' * z)).length = n' * z := by simp; omega
  cases hx with
  | os _ _ _ _ _ blk base sz cap g1 g2 g3 =>
   have hrow := fH (hown id _ ho) g1
   have hget : ∀ i (_h : i < ((ys.drop off).take (n' * z)).length), ∃ v, w.cell? ⟨blk, base + off + i, none⟩ = some v ∧ ((ys.drop off).take (n' * z))[i].isCell = true ∧ Rel σ I w ((ys.drop off).take (n' * z))[i] v := by
    intro i hi
    rw [getElem_take', getElem_drop']
    rw [hlen] at hi
    have := hrow.get (off + i) (by omega)
    rwa [← Nat.add_assoc] at this
   obtain ⟨vs, e1, e2, e3⟩ := mk blk (base + off) hget
   exact ⟨hlen, fun i hi => (hget i hi).choose_spec.2.1, _, cap, vs, rfl, e1, e2, e3⟩
  | osnil => exact ⟨hlen, fun i hi => by simp at hi, _, 0, #[], rfl, by simp, fun i hi => by simp at hi, rfl⟩
  | oszero _ _ _ _ a => exact ⟨hlen, fun i hi => by simp at hi, _, 0, #[], rfl, by simp, fun i hi => by simp at hi, fun k vv hk => by simp at hk⟩
 ·obtain ⟨rfl, rfl⟩ := Prod.mk.inj (Option.some.inj h)
  cases hx
  exact ⟨by simp, fun i hi => by simp at hi, _, 0, #[], rfl, rfl, fun i hi => by simp at hi, rfl⟩
 ·cases h
theorem bytes_sound {hp : H} {x : AV} {n : Nat} {xs : List AV} {l : List (BitVec 8)} {v : Value} (h : fG hp 1 x = some (n, xs)) (hu : cI xs = some l) (hx : Rel σ I w x v)
  (hown : ∀ id o, hp id = some o → cF σ I w id o) : (Conv.bytesToString v).run P w = .ok (.string (dA l)) w := by
 obtain ⟨hl, _, a, cap, vs, rfl, hs, hr, hc⟩ := slCells_run h hx hown
 have hxs := bW hu
 have hlen : l.length = n := by rw [hxs] at hl; simpa using hl
 cases a with
 | none =>
  simp only at hc
  have : l = [] := List.eq_nil_of_length_eq_zero (by omega)
  subst this; rfl
 | some a =>
  simp only at hc
  have hvs : vs.toList = (l.map fun x => ((x.toNat : Nat) : Int)).map (Value.int .u8) := by
   apply List.ext_getElem
   ·simp [hs, hxs]
   ·intro i h1 h2
    have hi : i < xs.length := by simpa [hs] using h1
    have := hr i hi
    have hil : i < l.length := by rw [hxs] at hi; simpa using hi
    have hx' : xs[i] = .w8 l[i] := by simp [hxs]
    rw [hx'] at this
    have e : vs.getD i undef = .int .u8 (l[i].toNat : Int) := by
     generalize vs.getD i undef = u at this
     cases this; rfl
    rw [Array.getD_eq_getD_getElem?, Array.getElem?_eq_getElem (by rw [hs]; exact hi)] at e
    simp only [Option.getD_some] at e
    rw [Array.getElem_toList, e]; simp
  have hload := run_loadCells_list (P := P) w a vs.toList hc
  rw [Array.length_toList, hs, hl, Nat.mul_one] at hload
  rw [hvs] at hload
  rw [run_bytesToString w a n cap _ hload, foldl_push_bytes]
  simp only [ByteArray.data_empty, List.map_map, Function.comp_def, Int.toNat_natCast]
  have : (fun x : BitVec 8 => UInt8.ofNat x.toNat) = UInt8.ofBitVec := by
   funext x
   apply UInt8.toBitVec_inj.1
   simp
  rw [this]; simp [dA]
theorem read_sound {o : Oper} {ρA : Operand → AV} {ρ : Operand → Value} {hp : H} {x : AV} (h : readOp P o.op ρA hp = some x) (hρ : ∀ y, Rel σ I w (ρA y) (ρ y))
  (hown : ∀ id o, hp id = some o → cF σ I w id o) :
  ∃ v, (execOp ρ o).run P w = .ok (.value v) w ∧ Rel σ I w x v := by
 obtain ⟨dst, op, type, pos, after, guard⟩ := o
 simp only at h
 unfold readOp at h
 split at h
 ·rename_i t y
  have hy := hρ y
  split at h
  ·rename_i ys e
   rw [e] at hy
   obtain ⟨blk, o, hv⟩ := rp_inv hy
   rw [hv] at hy
   obtain ⟨v, hrun, hr⟩ := ldV_load (P := P) h (fun i hi => rp_get hy i hi)
   exact ⟨v, gK (by simp only [Instr.loadAt, Instr.sureAddr, hv, Sem.run_bind, Sem.run_pure, Result.andThen_ok, hrun]), hr⟩
  ·rename_i id off e
   obtain ⟨o, ho, h⟩ := aJ h
   split at h
   rename_i xs mt
   rw [e] at hy
   obtain ⟨blk, base, sz, g1, hv⟩ := op_inv hy
   have hrow := fH (hown id _ ho) g1
   obtain ⟨v, hrun, hr⟩ := ldV_load (P := P) (blk := blk) (o := base + off) h (fun i hi => by
    rw [getElem_drop']
    simp at hi
    have := hrow.get (off + i) (by omega)
    rwa [← Nat.add_assoc] at this)
   exact ⟨v, gK (by simp only [Instr.loadAt, Instr.sureAddr, hv, Sem.run_bind, Sem.run_pure, Result.andThen_ok, hrun]), hr⟩
  ·cases h
 ·rename_i src dst' y
  split at h
  ·rename_i e hs hd
   split at h
   ·rename_i he
    obtain ⟨nl, hnl, h⟩ := aJ h
    obtain ⟨l, hl, h⟩ := aJ h
    obtain rfl := Option.some.inj h
    have hrun := bytes_sound (P := P) hnl hl (hρ y) hown
    refine ⟨_, gK ?_, .s l⟩
    obtain ⟨_, _, a, cap, vs, hv, _⟩ := slCells_run hnl (hρ y) hown
    rw [hv] at hrun ⊢
    rw [run_convert_bytes_string w src dst' e a _ cap hs he hd, hrun]
   ·cases h
  ·cases h
 ·cases h
end
end Go.AX
namespace Go.AX
open Go
structure Grow (σ : Nat → Loc) (I : Nat → Prop) (w : World) (σ' : Nat → Loc) (I' : Nat → Prop) (w' : World) : Prop where
 loc : ∀ id, σ id ≠ .unset → σ' id = σ id
 imm : ∀ k, I k → I' k
 heap : ∀ k, I k → w'.heap[k]? = w.heap[k]?
theorem Grow.refl (σ : Nat → Loc) (I : Nat → Prop) (w : World) : Grow σ I w σ I w := ⟨fun _ _ => rfl, fun _ h => h, fun _ _ => rfl⟩
theorem Grow.trans {σ σ' σ'' : Nat → Loc} {I I' I'' : Nat → Prop} {w w' w'' : World} (a : Grow σ I w σ' I' w') (b : Grow σ' I' w' σ'' I'' w'') : Grow σ I w σ'' I'' w'' :=
 ⟨fun id h => by have := a.loc id h; rw [b.loc id (by rw [this]; exact h), this], fun k h => b.imm k (a.imm k h), fun k h => by rw [b.heap k (a.imm k h), a.heap k h]⟩
theorem Rel.grow {σ σ' : Nat → Loc} {I I' : Nat → Prop} {w w' : World} {x : AV} {y : Value} (h : Rel σ I w x y) (g : Grow σ I w σ' I' w') : Rel σ' I' w' x y := h.mono g.loc g.imm g.heap
section
variable {P : Program} {c : Ctx} {σ : Nat → Loc} {I : Nat → Prop} {w : World} {hp : H} {un : Nat → Prop}
theorem make_new (h : Inv c σ I w hp un) {id : Nat} (hu : un id) (w0 : World) (hw0 : w0.heap = w.heap ∧ w0.os = w.os ∧ w0.tape = w.tape ∧ w0.output = w.output)
  (cs : Array Value) (T : TypeId) (fr : Nat × Nat) (hfr : Unfz fr.1 fr.2 cs.size) (xs : List AV) (hl : xs.length ≤ cs.size)
  (hr : ∀ (i : Nat) (x : AV), xs[i]? = some x → x.isCell = true ∧ ∃ v, cs[i]? = some v ∧ Rel σ I w x v) :
  ∃ σ', Inv c σ' I (w0.alloc (.cells cs T fr)) (upd hp id (.cells xs true)) (fun k => un k ∧ k ≠ id) ∧ σ' id = .at_ w.heap.size 0 cs.size ∧ Grow σ I w σ' I (w0.alloc (.cells cs T fr)) := by
 have h0 := h.world (w' := w0) hw0.1 hw0.2.1 hw0.2.2.1 hw0.2.2.2
 have key := h0.alloc hu cs T fr hfr xs hl (fun i hi => (hr i _ (List.getElem?_eq_getElem hi)).1) (fun i hi => by
  obtain ⟨_, v, hv, hrel⟩ := hr i _ (List.getElem?_eq_getElem hi)
  rw [Array.getD_eq_getD_getElem?, hv]; exact hrel.world hw0.1)
 refine ⟨_, key, by simp [cE, hw0.1], ⟨dM (h.un id hu), fun _ h => h, fun k hk => ?_⟩⟩
 rw [heap_push_old _ _ k (by rw [hw0.1]; exact h.ilt k hk), hw0.1]
theorem rep_get {zs : List AV} {z : Nat} (hz : zs.length = z) (hpos : 0 < z) : ∀ (n i : Nat), i < n * z → (rep n zs)[i]? = zs[i % z]?
 | 0, i, h => by simp at h
 | n + 1, i, h => by
  have ih := rep_get hz hpos n
  unfold rep at ih ⊢
  rw [List.replicate_succ, List.flatten_cons, List.getElem?_append]
  split
  ·rename_i hlt; rw [hz] at hlt; rw [Nat.mod_eq_of_lt hlt]
  ·rename_i hge
   rw [hz] at hge ⊢
   rw [Nat.add_mul, Nat.one_mul] at h
   rw [ih (i - z) (by omega), Nat.mod_eq_sub_mod (a := i) (by omega)]
theorem rep_length {zs : List AV} (n : Nat) : (rep n zs).length = n * zs.length := by
 unfold rep; simp
theorem made_get {z : Array Value} {n i : Nat} (h : i < n) (hz : 0 < z.size) : (Go.madeCells z n)[i]? = z[i % z.size]? := by
 unfold Go.madeCells
 rw [Array.getElem?_map, Array.getElem?_range, if_pos h]
 simp only [Option.map_some]
 rw [Array.getElem?_eq_getElem (Nat.mod_lt _ hz), getElem!_pos z (i % z.size) (Nat.mod_lt _ hz)]
theorem rep_made {zs : List AV} {z : Array Value} (hzc : cV σ I w zs z) (hpos : 0 < zs.length) (n m : Nat) (hm : n * zs.length ≤ m) :
  ∀ (i : Nat) (x : AV), (rep n zs)[i]? = some x → x.isCell = true ∧ ∃ v, (Go.madeCells z m)[i]? = some v ∧ Rel σ I w x v := by
 intro i x hx
 have hlt : i < n * zs.length := by
  have := (List.getElem?_eq_some_iff.1 hx).1; rwa [rep_length] at this
 rw [rep_get rfl hpos n i hlt] at hx
 rw [made_get (by omega) (by rw [hzc.size]; exact hpos), hzc.size]
 exact (cY.1 hzc).2 _ x hx
theorem new_sound {o : Oper} {ρA : Operand → AV} {ρ : Operand → Value} {id : Nat} {x : AV} {xs : List AV} (h : newOp P o.op ρA id = some (x, xs)) (hρ : ∀ y, Rel σ I w (ρA y) (ρ y))
  (hi : Inv c σ I w hp un) (hu : un id) :
  ∃ v w' σ', (execOp ρ o).run P w = .ok (.value v) w' ∧ Inv c σ' I w' (upd hp id (.cells xs true)) (fun k => un k ∧ k ≠ id) ∧ Rel σ' I w' x v ∧ Grow σ I w σ' I w' := by
 obtain ⟨dst, op, type, pos, after, guard⟩ := o
 simp only at h
 unfold newOp at h
 split at h
 ·rename_i t
  obtain ⟨zs, hzs, h⟩ := aJ h
  obtain ⟨rfl, rfl⟩ := Prod.mk.inj (Option.some.inj h)
  obtain ⟨z, hz, _, he, h1⟩ := run_zeroValue' hzs w
  have hzc : cV σ I w zs z.cells := eT he h1
  obtain ⟨σ', hinv, hloc, hg⟩ := make_new hi hu w ⟨rfl, rfl, rfl, rfl⟩ z.cells t (0, 0) ⟨Nat.le_refl _, fun _ _ => by omega⟩ zs (by rw [hzc.size]; omega) (cY.1 hzc).2
  refine ⟨.pointer (some ⟨w.heap.size, 0, none⟩), _, σ', gK ?_, hinv, .op id 0 _ _ _ hloc, hg⟩
  simp only [Instr.alloc, newVar, newRow, Sem.run_bind, hz, Result.andThen_ok, run_newObj, Sem.run_pure]
  rfl
 ·rename_i t y
  obtain ⟨cs, hcs, h⟩ := aJ h
  obtain ⟨rfl, rfl⟩ := Prod.mk.inj (Option.some.inj h)
  have hc := fT hcs (hρ y)
  obtain ⟨σ', hinv, hloc, hg⟩ := make_new hi hu w ⟨rfl, rfl, rfl, rfl⟩ (ρ y).cells t (0, 0) ⟨Nat.le_refl _, fun _ _ => by omega⟩ cs (by rw [hc.size]; omega) (cY.1 hc).2
  refine ⟨.pointer (some ⟨w.heap.size, 0, none⟩), _, σ', gK ?_, hinv, .op id 0 _ _ _ hloc, hg⟩
  simp only [Instr.box, newVar, newRow, Sem.run_bind, Result.andThen_ok, run_newObj, Sem.run_pure]
  rfl
 ·rename_i t len parts
  split at h
  ·rename_i e hue
   obtain ⟨z, hz, h⟩ := aJ h
   obtain ⟨⟨hpos, hlim⟩, h⟩ := aP h
   obtain ⟨zs, hzs, h⟩ := aJ h
   obtain ⟨hzl, h⟩ := aP h
   obtain ⟨cs, hcs, h⟩ := aJ h
   obtain ⟨rfl, rfl⟩ := Prod.mk.inj (Option.some.inj h)
   obtain ⟨zv, hzv, _, he, h1⟩ := run_zeroValue' hzs w
   have hzc : cV σ I w zs zv.cells := eT he h1
   have hmade : cV σ I w (rep len zs) (Go.madeCells zv.cells (len * z)) := by
    rw [cY]
    exact ⟨by rw [Go.size_madeCells, rep_length, hzl], rep_made hzc (by omega) len (len * z) (by rw [hzl]; exact Nat.le_refl _)⟩
   obtain ⟨us, hus, hrel⟩ := fill_sound (placeM := fun i => some (i * z, z)) (fun k o hk => hk) _ (parts.map fun (i, x) => (i, ρ x)).toList _ _ _ (by simp) (parts_rel hρ) hmade hcs
   have hlen : cs.length = len * z := by
    have h2 : ∀ (parts : List (Nat × AV)) (place : Nat → Option (Nat × Nat)) (a b : List AV), fillA place a parts = some b → b.length = a.length := by
     intro parts
     induction parts with
     | nil => intro place a b hh; obtain rfl := Option.some.inj hh; rfl
     | cons p r ih =>
      intro place a b hh
      obtain ⟨k, v⟩ := p
      simp only [fillA] at hh
      obtain ⟨os, _, hh⟩ := aJ hh
      obtain ⟨vc, _, hh⟩ := aJ hh
      obtain ⟨⟨g1, g2⟩, hh⟩ := aP hh
      rw [ih _ _ _ hh, fN (by omega)]
    rw [h2 _ _ _ _ hcs, rep_length, hzl]
   obtain ⟨σ', hinv, hloc, hg⟩ := make_new hi hu w ⟨rfl, rfl, rfl, rfl⟩ us e (0, 0) ⟨Nat.le_refl _, fun _ _ => by omega⟩ cs (by rw [hrel.size]; omega) (cY.1 hrel).2
   have hne : ¬ (len * z > 2 ^ 24) := by
     have : (2 : Nat) ^ 24 = 16777216 := by decide
     omega
   refine ⟨.slice (some ⟨w.heap.size, 0, none⟩) len len, _, σ', gK ?_, hinv, ?_, hg⟩
   ·simp only [Instr.buildSlice, newRow, Sem.run_bind, run_underlying hue, Result.andThen_ok, run_sizeOf' hz, if_neg hne]
    by_cases h0 : len * z = 0
    ·have hm0 : Go.madeCells zv.cells (len * z) = (Array.range (len * z)).map (fun i => (#[] : Array Value)[i % (#[] : Array Value).size]!) := by
      rw [h0]; simp [Go.madeCells]
     simp only [if_pos h0]
     rw [hm0] at hus
     simp only [hus, Sem.run_bind, run_newObj, Result.andThen_ok, Sem.run_pure]
     rfl
    ·simp only [if_neg h0, Sem.run_bind, hzv, Result.andThen_ok, Sem.run_pure]
     unfold Go.madeCells at hus
     simp only [hus, Sem.run_bind, run_newObj, Result.andThen_ok, Sem.run_pure]
     rfl
   ·refine .os id 0 len z true _ 0 _ len hloc (Nat.le_refl _) (fun _ => ?_)
    rw [hrel.size, hlen]; omega
  ·cases h
 ·rename_i t l' c'
  split at h
  ·rename_i e hue
   obtain ⟨z, hz, h⟩ := aJ h
   obtain ⟨by_, hby, h⟩ := aJ h
   obtain ⟨zs, hzs, h⟩ := aJ h
   obtain ⟨l, hl, h⟩ := aJ h
   obtain ⟨cc, hcc, h⟩ := aJ h
   obtain ⟨⟨hpos, hzl, h0, hlc, hc1, hc2⟩, h⟩ := aP h
   obtain ⟨rfl, rfl⟩ := Prod.mk.inj (Option.some.inj h)
   obtain ⟨zv, _, hzero, he, h1⟩ := run_zeroValue' hzs w
   have hzc : cV σ I w zs zv.cells := eT he h1
   obtain ⟨i, hinfo, hsz⟩ := szOf_inv hz
   obtain ⟨i', hinfo', hbz⟩ := byOf_inv hby
   rw [hinfo] at hinfo'
   obtain rfl := Option.some.inj hinfo'
   have hiz : i.zero = some zv := by rw [hinfo] at hzero; exact hzero
   obtain ⟨k1, hk1⟩ := ix_inv hl (hρ l')
   obtain ⟨k2, hk2⟩ := ix_inv hcc (hρ c')
   have hle : l.toNat * zs.length ≤ cc.toNat * i.size := by rw [hzl, hsz]; exact Nat.mul_le_mul_right _ (by omega)
   obtain ⟨σ', hinv, hloc, hg⟩ := make_new hi hu w ⟨rfl, rfl, rfl, rfl⟩ (Go.madeCells zv.cells (cc.toNat * i.size)) e (0, 0) ⟨Nat.le_refl _, fun _ _ => by omega⟩ (rep l.toNat zs)
    (by rw [Go.size_madeCells, rep_length]; exact hle) (rep_made hzc (by omega) _ _ hle)
   refine ⟨.slice (some ⟨w.heap.size, 0, none⟩) l.toNat cc.toNat, _, σ', gK (s := Instr.makeSlice t (ρ l') (ρ c')) ?_, hinv, ?_, hg⟩
   ·rw [hk1, hk2, run_make w t e i zv hue hinfo hiz k1 k2 l cc h0 hlc (by rw [hbz, Int.mul_comm]; omega) (by omega)]
   ·refine .os id 0 l.toNat z true _ 0 _ cc.toNat hloc (by omega) (fun _ => ?_)
    rw [Go.size_madeCells, hsz]; omega
  ·cases h
 ·rename_i src dst' y
  split at h
  ·rename_i e hs hd
   split at h
   ·rename_i l he eq
    obtain ⟨hlen, h⟩ := aP h
    obtain ⟨rfl, rfl⟩ := Prod.mk.inj (Option.some.inj h)
    have hy := hρ y
    rw [eq] at hy
    have hsv := s_inv hy
    have hrun := run_bytes_of_string (P := P) w src dst' e (dA l) hs hd he
    have hge : l.length ≤ grownCap w (dA l).size 0 e := by have := grownCap_ge w (dA l).size 0 e; have e2 := eU l; omega
    have hbs : (bytesRow (dA l) (grownCap w (dA l).size 0 e)).size = grownCap w (dA l).size 0 e := by
     simp only [bytesRow, Array.size_append, Array.size_map, Array.size_replicate, eU]
     have : (dA l).data.size = l.length := by simp [dA]
     rw [this]; simp only [eU] at hge ⊢; omega
    obtain ⟨σ', hinv, hloc, hg⟩ := make_new hi hu w.drew ⟨rfl, rfl, rfl, rfl⟩ (bytesRow (dA l) (grownCap w (dA l).size 0 e)) e ((bytesRow (dA l) (grownCap w (dA l).size 0 e)).size, (bytesRow (dA l) (grownCap w (dA l).size 0 e)).size + 1) ⟨Nat.le_succ _, fun _ _ => by omega⟩ (l.map .w8)
     (by rw [hbs, List.length_map]; exact hge) (fun i x hx => by
      rw [List.getElem?_map] at hx
      obtain ⟨b, hb, rfl⟩ := Option.map_eq_some_iff.1 hx
      obtain ⟨hlt, rfl⟩ := List.getElem?_eq_some_iff.1 hb
      refine ⟨rfl, .int .u8 (l[i].toNat : Int), ?_, .w8 _⟩
      simp only [bytesRow]
      rw [Array.getElem?_append_left (by simp [dA]; exact hlt)]
      simp [dA, List.getElem?_eq_getElem hlt])
    refine ⟨_, _, σ', gK (s := convert src dst' (ρ y)) (by rw [hsv]; exact hrun), hinv, ?_, hg⟩
    have := Rel.os (σ := σ') (I := I) (w := (w.drew.alloc (.cells (bytesRow (dA l) (grownCap w (dA l).size 0 e)) e ((bytesRow (dA l) (grownCap w (dA l).size 0 e)).size, (bytesRow (dA l) (grownCap w (dA l).size 0 e)).size + 1)))) id 0 l.length 1 true _ 0 _ (grownCap w (dA l).size 0 e) hloc hge (fun _ => by rw [hbs]; omega)
    rw [eU] at this ⊢
    exact this
   ·cases h
  ·cases h
 ·cases h
end
end Go.AX
namespace Go.AX
open Go
section
variable {P : Program} {c : Ctx} {σ : Nat → Loc} {I : Nat → Prop} {w : World} {hp : H} {un : Nat → Prop}
theorem fY (g o : Nat) (t : TypeId) (lo hi : Nat) : ∀ (vs : List Value) (i : Nat) (cur : Array Value) (w : World), w.heap[g]? = some (.cells cur t (lo, hi)) → (∀ k, k < cur.size → ¬ (lo ≤ k ∧ k < hi)) →
  o + i + vs.length ≤ cur.size → (∀ v ∈ vs, v.oneCell' = true) →
  ∃ w', (storeCells ⟨g, o, none⟩ vs i).run P w = .ok () w' ∧ w'.os = w.os ∧ w'.tape = w.tape ∧ w'.output = w.output ∧ w'.heap.size = w.heap.size ∧ (∀ k, k ≠ g → w'.heap[k]? = w.heap[k]?) ∧
   ∃ cur', w'.heap[g]? = some (.cells cur' t (lo, hi)) ∧ cur'.size = cur.size ∧ ∀ k, cur'[k]? = if k < o + i then cur[k]? else if k < o + i + vs.length then vs[k - (o + i)]? else cur[k]?
 | [], i, cur, w, hg, _, _, _ => ⟨w, rfl, rfl, rfl, rfl, rfl, fun _ _ => rfl, cur, hg, rfl, fun k => by
   by_cases h1 : k < o + i
   ·rw [if_pos h1]
   ·rw [if_neg h1, if_neg (by simpa using h1)]⟩
 | v :: rest, i, cur, w, hg, hm, hl, h1 => by
  simp only [List.length_cons] at hl
  have hi' : o + i < cur.size := by omega
  have hcell : w.cell? ⟨g, o + i, none⟩ = some cur[o + i] := by simp [World.cell?, hg, hi']
  have hfro : w.frozen? ⟨g, o + i, none⟩ = false := by
   have := hm (o + i) hi'
   simp only [World.frozen?, hg]
   rw [Bool.and_eq_false_iff, decide_eq_false_iff_not, decide_eq_false_iff_not]
   rcases Nat.lt_or_ge (o + i) lo with h | h
   ·left; omega
   ·right; intro h2; exact this ⟨h, h2⟩
  have hst : (store ((⟨g, o, none⟩ : Addr).add i) v).run P w = .ok () (w.setCell ⟨g, o + i, none⟩ v) := by
   rw [eE, run_store P w _ v _ (h1 v (by simp)), hcell]
   simp [hfro]
  have hset : (w.setCell ⟨g, o + i, none⟩ v).heap[g]? = some (.cells (cur.setIfInBounds (o + i) v) t (lo, hi)) := by
   simp only [World.setCell, Array.getElem?_modify, if_true, hg, Option.map_some]; rfl
  obtain ⟨w', r1, r2, r3, r4, r5, r6, cur', r7, r8, r9⟩ := fY g o t lo hi rest (i + 1) (cur.setIfInBounds (o + i) v) (w.setCell ⟨g, o + i, none⟩ v) hset (by simpa using hm) (by simp; omega) (fun x hx => h1 x (by simp [hx]))
  refine ⟨w', ?_, r2, r3, r4, by rw [r5]; simp, fun k hk => ?_, cur', r7, by rw [r8]; simp, fun k => ?_⟩
  ·simp only [storeCells, Sem.run_bind, hst, Result.andThen_ok, r1]
  ·rw [r6 k hk]; exact Go.RowKit.Below.heap_setCell _ _ _ _ hk
  ·rw [r9 k, Array.getElem?_setIfInBounds]
   simp only [List.length_cons]
   by_cases a : k < o + i
   ·rw [if_pos (by omega), if_neg (by omega), if_pos a]
   ·by_cases b : k = o + i
    ·subst b
     rw [if_pos (by omega), if_pos rfl, if_pos hi', if_neg (by omega), if_pos (by omega)]; simp
    ·rw [if_neg (show ¬ k < o + (i + 1) by omega), if_neg a]
     by_cases d : k < o + (i + 1) + rest.length
     ·rw [if_pos d, if_pos (by omega), show k - (o + i) = k - (o + (i + 1)) + 1 from by omega]; simp
     ·rw [if_neg d, if_neg (by omega), if_neg (by omega)]
theorem storeL_length {xs cs : List AV} {off : Nat} (h : off + cs.length ≤ xs.length) : (dV xs off cs).length = xs.length := by
 unfold dV
 split
 ·simp
 ·exact fN h
theorem storeL_get {xs cs : List AV} {off i : Nat} (h : off + cs.length ≤ xs.length) : (dV xs off cs)[i]? = if i < off then xs[i]? else if i < off + cs.length then cs[i - off]? else xs[i]? := by
 unfold dV
 split
 ·rename_i c
  simp only [List.length_singleton] at h ⊢
  rw [List.getElem?_set]
  by_cases a : i < off
  ·rw [if_pos a, if_neg (by omega)]
  ·by_cases b : off = i
   ·subst b; rw [if_pos rfl, if_pos (by omega), if_neg a, if_pos (by omega)]; simp
   ·rw [if_neg b, if_neg a, if_neg (by omega)]
 ·exact splice_get h
theorem store_own (h : Inv c σ I w hp un) {id off : Nat} {xs ys zs : List AV} {us : List Value} (ho : hp id = some (.cells xs true)) {blk base sz : Nat} (hl : σ id = .at_ blk base sz)
  (hfit : off + ys.length ≤ xs.length) (hu : us.length = ys.length) (hc : ∀ i (_h : i < ys.length), ys[i].isCell = true) (hr : ∀ i (_h : i < ys.length), Rel σ I w ys[i] (us.getD i undef))
  (hzl : zs.length = xs.length) (hz : ∀ i : Nat, zs[i]? = if i < off then xs[i]? else if i < off + ys.length then ys[i - off]? else xs[i]?) :
  ∃ w', (storeCells ⟨blk, base + off, none⟩ us 0).run P w = .ok () w' ∧ Inv c σ I w' (upd hp id (.cells zs true)) un ∧ Grow σ I w σ I w' := by
 have hown := h.own id _ ho
 have hrow := fH hown hl
 simp only [cF, hl] at hown
 obtain ⟨⟨⟨cs, T, lo, hi, g1, g2, g3, g4, g5⟩, g6⟩, g7, _⟩ := hown
 have hnI := g7 trivial
 have h1 : ∀ v ∈ us, v.oneCell' = true := by
  intro v hv
  obtain ⟨i, hi, rfl⟩ := List.getElem_of_mem hv
  have := hr i (by omega)
  rw [List.getD_eq_getElem?_getD, List.getElem?_eq_getElem hi] at this
  exact this.oneCell (hc i (by omega))
 obtain ⟨w', r1, r2, r3, r4, r5, r6, cur', r7, r8, r9⟩ := fY (P := P) blk (base + off) T lo hi us 0 cs w g1 (by rw [g2]; exact g4.out) (by omega) h1
 have hw : ∀ k, I k → w'.heap[k]? = w.heap[k]? := fun k hk => r6 k (fun e => hnI (e ▸ hk))
 refine ⟨w', r1, h.setRow ho hl r2 r3 r4 r5 r6 (fun i hi => ?_) (fun cs2 T2 lo2 hi2 e1 e2 => ?_), ⟨fun _ _ => rfl, fun _ h => h, hw⟩⟩
 ·have := hz i
  rw [List.getElem?_eq_getElem hi] at this
  split at this
  ·obtain ⟨hlt, e⟩ := List.getElem?_eq_some_iff.1 this.symm
   rw [← e]; exact g6 i hlt
  ·split at this
   ·obtain ⟨hlt, e⟩ := List.getElem?_eq_some_iff.1 this.symm
    rw [← e]; exact hc _ hlt
   ·obtain ⟨hlt, e⟩ := List.getElem?_eq_some_iff.1 this.symm
    rw [← e]; exact g6 i hlt
 ·rw [g1] at e1
  obtain ⟨rfl, rfl, e3⟩ := Obj.cells.inj (Option.some.inj e1)
  obtain ⟨rfl, rfl⟩ := Prod.mk.inj e3
  refine ⟨cur', r7, by rw [r8]; exact e2, by omega, fun i hi => ?_⟩
  have := hz i
  rw [List.getElem?_eq_getElem hi] at this
  rw [Array.getD_eq_getD_getElem?, r9 (base + i)]
  have old : ∀ (hlt : i < xs.length), zs[i] = xs[i] → (base + i < base + off + 0 ∨ ¬ base + i < base + off + 0 + us.length) → Rel σ I w zs[i] ((if base + i < base + off + 0 then cs[base + i]? else if base + i < base + off + 0 + us.length then us[base + i - (base + off + 0)]? else cs[base + i]?).getD undef) := by
   intro hlt e hh
   have g := g5 i hlt
   rw [Array.getD_eq_getD_getElem?] at g
   rw [e]
   rcases hh with hh | hh
   ·rw [if_pos hh]; exact g
   ·rw [if_neg (by omega), if_neg hh]; exact g
  split at this
  ·obtain ⟨hlt, e⟩ := List.getElem?_eq_some_iff.1 this.symm
   exact old hlt e.symm (.inl (by omega))
  ·split at this
   ·obtain ⟨hlt, e⟩ := List.getElem?_eq_some_iff.1 this.symm
    have g := hr _ hlt
    rw [List.getD_eq_getElem?_getD] at g
    rw [if_neg (by omega), if_pos (by omega), show base + i - (base + off + 0) = i - off from by omega, ← e]; exact g
   ·obtain ⟨hlt, e⟩ := List.getElem?_eq_some_iff.1 this.symm
    exact old hlt e.symm (.inr (by omega))
theorem del_sub (hp : H) (id : Nat) : ∀ k o, del hp id k = some o → hp k = some o := by
 intro k o h; rw [eV] at h; split at h
 ·cases h
 ·exact h
theorem frz_sound : ∀ (ys : List AV) {hp : H} {I : Nat → Prop} (us : Nat → Value) {p : List AV × H}, frzRec hp ys = some p → Inv c σ I w hp un → (∀ i (_h : i < ys.length), ys[i].isCell = true ∧ Rel σ I w ys[i] (us i)) →
  ∃ I', Inv c σ I' w p.2 un ∧ Grow σ I w σ I' w ∧ p.1.length = ys.length ∧ (∀ i (_h : i < p.1.length), p.1[i].isCell = true ∧ Rel σ I' w p.1[i] (us i)) ∧ (∀ k, I' k → I k ∨ ∃ id xs mt base sz, hp id = some (.cells xs mt) ∧ σ id = .at_ k base sz) ∧ (∀ id, p.2 id = none → hp id = none)
 | [], hp, I, us, p, h, hi, hr => by
  obtain rfl := Option.some.inj h
  exact ⟨I, hi, Grow.refl _ _ _, rfl, hr, fun k hk => .inl hk, fun _ h => h⟩
 | x :: r, hp, I, us, p, h, hi, hr => by
  simp only [frzRec] at h
  have h0 := hr 0 (by simp)
  simp only [List.getElem_cons_zero] at h0
  have other : ∀ (hx : aK (frzRec hp r) (fun p => some (x :: p.1, p.2)) = some p), ∃ I', Inv c σ I' w p.2 un ∧ Grow σ I w σ I' w ∧ p.1.length = (x :: r).length ∧ (∀ i (_h : i < p.1.length), p.1[i].isCell = true ∧ Rel σ I' w p.1[i] (us i)) ∧ (∀ k, I' k → I k ∨ ∃ id xs mt base sz, hp id = some (.cells xs mt) ∧ σ id = .at_ k base sz) ∧ (∀ id, p.2 id = none → hp id = none) := by
   intro hx
   obtain ⟨q, hq, hx⟩ := aJ hx
   obtain rfl := Option.some.inj hx
   obtain ⟨I', a1, a2, a3, a4, a5, a6⟩ := frz_sound r (fun i => us (i + 1)) hq hi (fun i hi => by have := hr (i + 1) (by simpa using hi); simpa using this)
   refine ⟨I', a1, a2, by simp [a3], fun i hi => ?_, a5, a6⟩
   cases i with
   | zero => exact ⟨h0.1, h0.2.grow a2⟩
   | succ k => exact a4 k (by simpa using hi)
  split at h
  ·rename_i id off n e g
   obtain ⟨o, ho, h⟩ := aJ h
   obtain ⟨xs, mt⟩ := o
   simp only at h
   obtain ⟨hfit, h⟩ := aP h
   obtain ⟨q, hq, h⟩ := aJ h
   obtain rfl := Option.some.inj h
   have hfz : ∃ I1, (∀ k, I k → I1 k) ∧ (∀ k, I1 k → I k ∨ ∃ base sz, σ id = .at_ k base sz) ∧ Inv c σ I1 w (upd hp id (.cells xs false)) un := by
    cases mt with
    | true => exact hi.freeze ho
    | false =>
     refine ⟨I, fun _ h => h, fun k hk => .inl hk, ?_⟩
     have : upd hp id (.cells xs false) = hp := by
       funext k; rw [bJ]; split
       ·rename_i e; rw [e, ho]
       ·rfl
     rw [this]; exact hi
   obtain ⟨I1, f1, f2, f3⟩ := hfz
   have hg1 : Grow σ I w σ I1 w := ⟨fun _ _ => rfl, f1, fun _ _ => rfl⟩
   obtain ⟨I', a1, a2, a3, a4, a5, a6⟩ := frz_sound r (fun i => us (i + 1)) hq f3 (fun i hi => by
    have := hr (i + 1) (by simpa using hi)
    simp only [List.getElem_cons_succ] at this
    exact ⟨this.1, this.2.grow hg1⟩)
   refine ⟨I', a1, hg1.trans a2, by simp [a3], fun i hi => ?_, fun k hk => ?_, fun k hk => ?_⟩
   ·cases i with
    | succ k => exact a4 k (by simpa using hi)
    | zero =>
     refine ⟨rfl, ?_⟩
     simp only [List.getElem_cons_zero]
     have hown := f3.own id (.cells xs false) (by rw [bJ, if_pos rfl])
     have hlen : ((xs.drop off).take (n * e)).length = n * e := by simp; omega
     generalize hus : us 0 = u0 at h0 ⊢
     cases h0.2 with
     | os _ _ _ _ _ blk base sz cap g1 g2 g3 =>
      have hrow := fH hown g1
      simp only [cF, g1] at hown
      have hI1 := hown.2.2 trivial
      refine Rel.grow (.sl n _ blk (base + off) cap (fun i => (w.cell? ⟨blk, base + off + i, none⟩).getD undef) hI1 g2 (fun i hi => ?_) (fun i hi => ?_) (fun i hi => ?_)) a2
      ·rw [hlen] at hi
       obtain ⟨v, hv, _⟩ := hrow.get (off + i) (by omega)
       rw [← Nat.add_assoc] at hv; rw [hv]; rfl
      ·rw [hlen] at hi
       rw [getElem_take', getElem_drop']; exact (hrow.get (off + i) (by omega)).choose_spec.2.1
      ·rw [hlen] at hi
       rw [getElem_take', getElem_drop']
       obtain ⟨v, hv, _, hrel⟩ := hrow.get (off + i) (by omega)
       rw [← Nat.add_assoc] at hv; rw [hv]; exact hrel
     | osnil _ _ _ g1 => simp only [Nat.zero_mul, List.take_zero]; exact .slnil
     | oszero _ _ _ _ a g1 => simp only [Nat.zero_mul, List.take_zero]; exact .slzero a
   ·rcases a5 k hk with hk | ⟨id', xs', mt', base, sz, e1, e2⟩
    ·rcases f2 k hk with hk | ⟨base, sz, e2⟩
     ·exact .inl hk
     ·exact .inr ⟨id, xs, mt, base, sz, ho, e2⟩
    ·rw [bJ] at e1
     split at e1
     ·rename_i e; subst e; exact .inr ⟨id', xs, mt, base, sz, ho, e2⟩
     ·exact .inr ⟨id', xs', mt', base, sz, e1, e2⟩
   ·have := a6 k hk
    rw [bJ] at this
    split at this
    ·cases this
    ·exact this
  ·exact other h
end
end Go.AX
namespace Go.AX
open Go
section
variable {P : Program} {c : Ctx} {σ : Nat → Loc} {I : Nat → Prop} {w : World} {hp : H} {un : Nat → Prop}
structure Src (P : Program) (σ : Nat → Loc) (I : Nat → Prop) (w : World) (z : Nat) (v : Value) (m : Nat) (ys : List AV) (news : List Value) : Prop where
 len : (Builtin.lenOf v).run P w = .ok m w
 first : ∀ w' : World, w'.heap = w.heap → ∀ k, k ≤ m → (Builtin.firstCells z k v).run P w' = .ok (news.take (k * z)).toArray w'
 size : ys.length = m * z
 nsize : news.length = ys.length
 rel : ∀ i (_h : i < ys.length), ys[i].isCell = true ∧ Rel σ I w ys[i] (news.getD i undef)
theorem src_run {z m : Nat} {y : AV} {ys : List AV} {v : Value} (h : srcA hp z y = some (m, ys)) (hy : Rel σ I w y v) (hown : ∀ id o, hp id = some o → cF σ I w id o) :
  ∃ news, Src P σ I w z v m ys news := by
 have other : fG hp z y = some (m, ys) → ∃ news, Src P σ I w z v m ys news := by
  intro h
  obtain ⟨h1, h2, a, cap, vs, rfl, h3, h4, h5⟩ := slCells_run h hy hown
  refine ⟨vs.toList, rfl, fun w' hw' k hk => ?_, h1, by simpa using h3, fun i hi => ⟨h2 i hi, by have := h4 i hi; rwa [← Array.toArray_toList (xs := vs), fI] at this⟩⟩
  cases a with
  | none =>
    simp only at h5; subst h5; obtain rfl : k = 0 := by omega
    simp [run_firstCells_none]
  | some a =>
   simp only at h5
   exact run_firstCells_some w' z k a m cap _ (by rw [List.length_take, Array.length_toList, h3, h1]; exact Nat.min_eq_left (Nat.mul_le_mul_right _ hk)) (fun j v hj => by
    rw [List.getElem?_take] at hj
    split at hj
    ·have := h5 j v hj; simp only [World.cell?, hw']; exact this
    ·cases hj)
 unfold srcA at h
 split at h
 ·rename_i l
  obtain ⟨rfl, h⟩ := aP h
  obtain ⟨rfl, rfl⟩ := Prod.mk.inj (Option.some.inj h)
  obtain rfl := s_inv hy
  refine ⟨l.map fun x => Value.int .u8 (x.toNat : Int), ?_, fun w' _ k hk => ?_, by simp, by simp, fun i hi => ?_⟩
  ·simp [Builtin.lenOf, eU]
  ·simp only [Builtin.firstCells, Sem.run_pure, Nat.mul_one]
   congr 1
   apply Array.ext'
   simp [dA, ByteArray.data_extract, List.map_take, Function.comp_def]
  ·simp at hi
   have e : (l.map fun x => Value.int .u8 (x.toNat : Int)).getD i undef = .int .u8 (l[i].toNat : Int) := by
    rw [List.getD_eq_getElem?_getD, List.getElem?_map, List.getElem?_eq_getElem hi]; rfl
   rw [e, List.getElem_map]
   exact ⟨rfl, .w8 _⟩
 ·exact other h
theorem noIntT_inv {t : TypeId} (h : eW P t = true) : ∃ d, P.underlying t = some d ∧ ∀ k, d ≠ .int k := by
 unfold eW at h
 split at h
 ·cases h
 ·rename_i d hne hd
  exact ⟨d, hd, fun k e => by subst e; exact hne k rfl⟩
 ·cases h
section app
variable {t t' ty e : TypeId} {z by_ m : Nat} {v : Value} {ys : List AV} {news : List Value} (ht : P.underlying t = some (.slice e)) (ht' : eW P t' = true) (hz : cD P e = some z) (hby : dU P e = some by_)
 (hs : Src P σ I w z v m ys news)
include ht ht' hz hs
theorem run_append_in (base : Option Addr) (sLen sCap : Nat) (hroom : sLen + m ≤ sCap) :
  (Builtin.append_ #[t, t'] ty #[.slice base sLen sCap, v]).run P w =
   ((match base with | some a => storeCells (a.add (sLen * z)) news | none => pure () : Sem Unit).run P w).andThen fun _ w' => .ok (.slice base (sLen + m) sCap) w' := by
 obtain ⟨d, hd, hdi⟩ := noIntT_inv ht'
 have hf := hs.first w rfl m (Nat.le_refl _)
 rw [List.take_of_length_le (by rw [hs.nsize, hs.size]; exact Nat.le_refl _)] at hf
 cases d with
 | int k => exact absurd rfl (hdi k)
 | _ =>
  simp only [Builtin.append_, List.getElem?_toArray, List.getElem?_cons_zero, List.getElem?_cons_succ, Sem.run_bind, run_underlying ht, Result.andThen_ok, run_sizeOf' hz, run_underlying hd, Sem.run_pure, Bool.false_eq_true, if_false, hs.len,
   if_pos hroom, Bool.not_false, if_true, hf]
  cases base with
  | none => rfl
  | some a => simp only [Sem.run_bind]; rfl
include hby
theorem run_append_out {zv : Value} (hzv : ∀ w, (zeroValue e).run P w = .ok zv w) (base : Option Addr) (sLen sCap : Nat) (old : List Value) (hold : ∀ w', w'.heap = w.heap → (Builtin.firstCells z sLen (.slice base sLen sCap)).run P w' = .ok old.toArray w')
  (hgrow : sCap < sLen + m) (h63 : sLen + m ≤ 140737488355328) (hb : (sLen + m) * by_ ≤ 140737488355328) :
  (Builtin.append_ #[t, t'] ty #[.slice base sLen sCap, v]).run P w =
   .ok (.slice (some ⟨w.heap.size, 0, none⟩) (sLen + m) (grownCap w (sLen + m) sCap e))
    (w.drew.alloc (.cells (old.toArray ++ news.toArray ++ Builtin.zeroCells zv.cells (grownCap w (sLen + m) sCap e - (sLen + m))) e)) := by
 obtain ⟨d, hd, hdi⟩ := noIntT_inv ht'
 obtain ⟨i, hi, hib⟩ := byOf_inv hby
 have hf := hs.first w.drew rfl m (Nat.le_refl _)
 rw [List.take_of_length_le (by rw [hs.nsize, hs.size]; exact Nat.le_refl _)] at hf
 have hold' := hold w.drew rfl
 have n1 : ¬ sLen + m ≤ sCap := by omega
 have n2 : ¬ (((sLen + m : Nat) : Int) > IntKind.i64.max ∧ (False ∨ i.bytes = 0)) := by
  have e1 : IntKind.i64.max = 9223372036854775807 := by decide
  rw [e1]; omega
 have n3 : ¬ (Builtin.nextslicecap (sLen + m) sCap * i.bytes > 2 ^ 48) := by
  have := growslice_fits hgrow (bytes := by_) hb
  rw [hib]; have e1 : (2 : Nat) ^ 48 = 281474976710656 := by decide
  omega
 cases d with
 | int k => exact absurd rfl (hdi k)
 | _ =>
  simp only [Builtin.append_, List.getElem?_toArray, List.getElem?_cons_zero, List.getElem?_cons_succ, Sem.run_bind, run_underlying ht, Result.andThen_ok, run_sizeOf' hz, run_underlying hd, Sem.run_pure, Bool.false_eq_true, if_false, hs.len,
   if_neg n1, run_typeInfo' hi, Bool.not_false, if_true]
  rw [if_neg n2]
  simp only [Sem.run_bind, run_typeInfo' hi, Result.andThen_ok, if_neg n3]
  simp only [run_choose, Question.forced, Bool.false_eq_true, if_false, Result.andThen_ok, run_askRoom]
  have e0 : ({ w with drawn := w.drawn + 1 } : World) = w.drew := rfl
  simp only [e0, hold', hf, Result.andThen_ok, hzv, newRow, Sem.run_bind, run_newObj, Sem.run_pure]
  rfl
end app
theorem Src.grow {σ' : Nat → Loc} {I' : Nat → Prop} {z : Nat} {v : Value} {m : Nat} {ys : List AV} {news : List Value} (h : Src P σ I w z v m ys news) (ys' : List AV) (hl : ys'.length = ys.length)
  (hr : ∀ i (_h : i < ys'.length), ys'[i].isCell = true ∧ Rel σ' I' w ys'[i] (news.getD i undef)) : Src P σ' I' w z v m ys' news :=
 ⟨h.len, h.first, by rw [hl, h.size], by rw [h.nsize, hl], hr⟩
theorem frzL_sound {ys : List AV} {us : Nat → Value} {p : List AV × H} (h : frzL hp ys = some p) (hi : Inv c σ I w hp un) (hr : ∀ i (_h : i < ys.length), ys[i].isCell = true ∧ Rel σ I w ys[i] (us i)) :
  ∃ I', Inv c σ I' w p.2 un ∧ Grow σ I w σ I' w ∧ p.1.length = ys.length ∧ (∀ i (_h : i < p.1.length), p.1[i].isCell = true ∧ Rel σ I' w p.1[i] (us i)) := by
 unfold frzL at h
 split at h
 ·obtain rfl := Option.some.inj h; exact ⟨I, hi, Grow.refl _ _ _, rfl, hr⟩
 ·obtain ⟨I', a1, a2, a3, a4, _⟩ := frz_sound ys us h hi hr
  exact ⟨I', a1, a2, a3, a4⟩
structure Src0 (σ : Nat → Loc) (I : Nat → Prop) (w : World) (z m : Nat) (ys : List AV) (news : List Value) : Prop where
 size : ys.length = m * z
 nsize : news.length = ys.length
 rel : ∀ i (_h : i < ys.length), ys[i].isCell = true ∧ Rel σ I w ys[i] (news.getD i undef)
theorem Inv.trunc (h : Inv c σ I w hp un) {i : Nat} {xs : List AV} (ho : hp i = some (.cells xs true)) (k : Nat) :
  Inv c σ I w (upd hp i (.cells (xs.take k) true)) un := by
 have get : ∀ id o, upd hp i (.cells (xs.take k) true) id = some o → (id = i ∧ o = .cells (xs.take k) true) ∨ (id ≠ i ∧ hp id = some o) := by
  intro id o h
  simp only [upd] at h
  split at h
  ·rename_i e; exact .inl ⟨e, (Option.some.inj h).symm⟩
  ·rename_i e; exact .inr ⟨e, h⟩
 refine { h with own := fun id o h1 => ?_, inj := fun id id' ys o' blk base sz base' sz' h1 h2 hne hs => ?_, lim := fun id ys blk base sz h1 hs => ?_ }
 ·rcases get id o h1 with ⟨rfl, rfl⟩ | ⟨_, h2⟩
  ·have h3 := h.own id _ ho
   simp only [cF] at h3 ⊢
   cases e : σ id with
   | unset => simp only [e] at h3
   | nil => simp only [e] at h3 ⊢; subst h3; exact List.take_nil
   | at_ blk base sz =>
    simp only [e] at h3 ⊢
    obtain ⟨⟨⟨cs, T, lo, hi, q1, q2, q3, q4, q5⟩, q6⟩, q7⟩ := h3
    have hl : (xs.take k).length ≤ xs.length := by rw [List.length_take]; omega
    refine ⟨⟨⟨cs, T, lo, hi, q1, q2, by omega, q4, fun i hi' => ?_⟩, fun i hi' => ?_⟩, q7⟩
    ·rw [List.getElem_take]; exact q5 i (by omega)
    ·rw [List.getElem_take]; exact q6 i (by omega)
  ·exact h.own id o h2
 ·rcases get id _ h1 with ⟨rfl, e1⟩ | ⟨_, h3⟩
  ·rcases get id' _ h2 with ⟨e2, _⟩ | ⟨_, h4⟩
   ·exact absurd e2.symm hne
   ·exact h.inj id id' xs o' blk base sz base' sz' ho h4 hne hs
  ·rcases get id' _ h2 with ⟨rfl, _⟩ | ⟨_, h4⟩
   ·exact h.inj id id' ys _ blk base sz base' sz' h3 ho hne hs
   ·exact h.inj id id' ys o' blk base sz base' sz' h3 h4 hne hs
 ·rcases get id _ h1 with ⟨rfl, _⟩ | ⟨_, h3⟩
  ·exact h.lim id xs blk base sz ho hs
  ·exact h.lim id ys blk base sz h3 hs
theorem append_core {t t' ty e : TypeId} {x z0 : AV} {a b : Value} {id z by_ m : Nat} {ys' : List AV} {news : List Value} {hp1 hp' : H} {I1 : Nat → Prop} {zv : Value} (hi1 : Inv c σ I1 w hp1 un) (hu : un id) (hg1 : Grow σ I w σ I1 w)
  (hx1 : Rel σ I1 w x a) (hsrc1 : Src0 σ I1 w z m ys' news) (hzs' : zv.cells.size = z)
  (hin : ∀ (base : Option Addr) (sLen sCap : Nat) (_hroom : sLen + m ≤ sCap), (Builtin.append_ #[t, t'] ty #[.slice base sLen sCap, b]).run P w =
   ((match base with | some a => storeCells (a.add (sLen * z)) news | none => pure () : Sem Unit).run P w).andThen fun _ w' => .ok (.slice base (sLen + m) sCap) w')
  (hout : ∀ (base : Option Addr) (sLen sCap : Nat) (old : List Value) (_hold : ∀ w', w'.heap = w.heap → (Builtin.firstCells z sLen (.slice base sLen sCap)).run P w' = .ok old.toArray w')
   (_hgrow : sCap < sLen + m) (_h63 : sLen + m ≤ 140737488355328) (_hb : (sLen + m) * by_ ≤ 140737488355328), (Builtin.append_ #[t, t'] ty #[.slice base sLen sCap, b]).run P w =
   .ok (.slice (some ⟨w.heap.size, 0, none⟩) (sLen + m) (grownCap w (sLen + m) sCap e))
    (w.drew.alloc (.cells (old.toArray ++ news.toArray ++ Builtin.zeroCells zv.cells (grownCap w (sLen + m) sCap e - (sLen + m))) e)))
  (h : apTail z by_ x m ys' hp1 id = some (z0, hp')) :
  ∃ v w' σ' I', (Builtin.append_ #[t, t'] ty #[a, b]).run P w = .ok v w' ∧ Rel σ' I' w' z0 v ∧ Inv c σ' I' w' hp' (fun k => un k ∧ k ≠ id) ∧ Grow σ I w σ' I' w' := by
 unfold apTail at h
 have hr1 := hsrc1.rel
 have nlen : news.length = m * z := by rw [hsrc1.nsize, hsrc1.size]
 have grown : ∀ (hp2 : H) (hi2 : Inv c σ I1 w hp2 un) (n cap : Nat) (old : List Value) (xs : List AV), cap < n + m → xs.length = n * z → old.length = xs.length → (∀ i (_h : i < xs.length), xs[i].isCell = true ∧ Rel σ I1 w xs[i] (old.getD i undef)) →
   ∃ σ', Rel σ' I1 (w.drew.alloc (.cells (old.toArray ++ news.toArray ++ Builtin.zeroCells zv.cells (grownCap w (n + m) cap e - (n + m))) e)) (.os id 0 (n + m) z true) (.slice (some ⟨w.heap.size, 0, none⟩) (n + m) (grownCap w (n + m) cap e)) ∧
    Inv c σ' I1 (w.drew.alloc (.cells (old.toArray ++ news.toArray ++ Builtin.zeroCells zv.cells (grownCap w (n + m) cap e - (n + m))) e)) (upd hp2 id (.cells (xs ++ ys') true)) (fun k => un k ∧ k ≠ id) ∧
    Grow σ I1 w σ' I1 (w.drew.alloc (.cells (old.toArray ++ news.toArray ++ Builtin.zeroCells zv.cells (grownCap w (n + m) cap e - (n + m))) e)) := by
  intro hp2 hi2 n cap old xs hlt hxl hol hor
  have hge := grownCap_ge w (n + m) cap e
  have hsize : (old.toArray ++ news.toArray ++ Builtin.zeroCells zv.cells (grownCap w (n + m) cap e - (n + m))).size = grownCap w (n + m) cap e * z := by
   simp only [Array.size_append, List.size_toArray, size_zeroCells, hzs', hol, hxl, nlen, ← Nat.add_mul]
   congr 1; omega
  have hxy : (xs ++ ys').length = (n + m) * z := by rw [List.length_append, hxl, hsrc1.size, Nat.add_mul]
  have hle : (n + m) * z ≤ grownCap w (n + m) cap e * z := Nat.mul_le_mul_right _ hge
  obtain ⟨σ', hinv, hloc, hg⟩ := make_new hi2 hu w.drew ⟨rfl, rfl, rfl, rfl⟩ (old.toArray ++ news.toArray ++ Builtin.zeroCells zv.cells (grownCap w (n + m) cap e - (n + m))) e (0, 0) ⟨Nat.le_refl _, fun _ _ => by omega⟩ (xs ++ ys')
   (by rw [hsize, hxy]; exact hle) (fun i x hx => by
    rw [List.getElem?_append] at hx
    rw [Array.append_assoc, Array.getElem?_append]
    simp only [List.size_toArray, hol]
    split at hx
    ·rename_i hlt
     obtain ⟨_, rfl⟩ := List.getElem?_eq_some_iff.1 hx
     rw [if_pos hlt]
     refine ⟨(hor i hlt).1, _, ?_, (hor i hlt).2⟩
     rw [List.getElem?_toArray, List.getElem?_eq_getElem (by omega), List.getD_eq_getElem?_getD, List.getElem?_eq_getElem (by omega)]; rfl
    ·rename_i hge'
     obtain ⟨hlt, rfl⟩ := List.getElem?_eq_some_iff.1 hx
     rw [if_neg hge', Array.getElem?_append_left (by simp [hsrc1.nsize]; exact hlt)]
     refine ⟨(hr1 _ hlt).1, _, ?_, (hr1 _ hlt).2⟩
     have := hsrc1.nsize
     rw [List.getElem?_toArray, List.getElem?_eq_getElem (by omega), List.getD_eq_getElem?_getD, List.getElem?_eq_getElem (by omega)]; rfl)
  exact ⟨σ', .os id 0 (n + m) z true _ 0 _ _ hloc hge (fun _ => by rw [hsize]; omega), hinv, hg⟩
 split at h
 ·replace h := aP h; obtain ⟨⟨hm1, hm2⟩, h⟩ := h
  obtain ⟨rfl, rfl⟩ := Prod.mk.inj (Option.some.inj h)
  cases hx1
  by_cases hm : m = 0
  ·subst hm
   have hrun := hin none 0 0 (by omega)
   have hnil := hi1.newNil hu
   have hys : ys' = [] := List.eq_nil_of_length_eq_zero (by rw [hsrc1.size]; simp)
   subst hys
   exact ⟨.slice none 0 0, w, _, I1, hrun, .osnil _ _ _ (by simp [cE]), hnil, hg1.trans ⟨dM (hi1.un id hu), fun _ h => h, fun _ _ => rfl⟩⟩
  ·obtain ⟨σ', r1, r2, r3⟩ := grown hp1 hi1 0 0 [] [] (by omega) (by simp) rfl (fun i hi => by simp at hi)
   have hrun := hout none 0 0 [] (fun w' _ => run_firstCells_none w' z 0 0 0) (by omega) (by omega) (by rw [Nat.zero_add]; exact hm2)
   rw [Nat.zero_add] at hrun r1
   simp only [Nat.zero_add, List.nil_append] at r1 r2 r3 hrun
   exact ⟨_, _, σ', I1, hrun, r1, r2, hg1.trans r3⟩
 ·rename_i i off n e' g
  replace h := aJ h; obtain ⟨o, ho, h⟩ := h
  obtain ⟨xs, mt⟩ := o
  simp only at h
  replace h := aP h; obtain ⟨⟨hmt, hgt, hez, hend, hb1, hb2⟩, h⟩ := h
  obtain ⟨rfl, rfl⟩ := Prod.mk.inj (Option.some.inj h)
  subst hmt
  subst hez
  subst hgt
  have hown := hi1.own i _ ho
  have hdel : Inv c σ I1 w (del hp1 i) un := hi1.sub (del_sub hp1 i)
  have hxl : (xs.drop off).length = n * e' := by simp; omega
  have hne : i ≠ id := fun e => by subst e; rw [hi1.none_un hu] at ho; cases ho
  have zero : ∀ (base : Option Addr) (hh : ∀ w' : World, w'.heap = w.heap → (Builtin.firstCells e' 0 (.slice base 0 0)).run P w' = .ok #[] w') (hn : n = 0) (hσ : σ i ≠ .unset),
    ∃ v w' σ' I', (Builtin.append_ #[t, t'] ty #[.slice base 0 0, b]).run P w = .ok v w' ∧ Rel σ' I' w' (.os id 0 (n + m) e' true) v ∧ Inv c σ' I' w' (upd (del hp1 i) id (.cells (xs.drop off ++ ys') true)) (fun k => un k ∧ k ≠ id) ∧ Grow σ I w σ' I' w' := by
   intro base hh hn hσ
   subst hn
   have hd0 : xs.drop off = [] := List.eq_nil_of_length_eq_zero (by rw [hxl]; simp)
   by_cases hm : m = 0
   ·subst hm
    have hrun := hin base 0 0 (by omega)
    have hn0 : news = [] := List.eq_nil_of_length_eq_zero (by rw [nlen]; simp)
    subst hn0
    have hnil := hdel.newNil hu
    have hys : ys' = [] := List.eq_nil_of_length_eq_zero (by rw [hsrc1.size]; simp)
    subst hys
    rw [hd0]
    have hrun' : (Builtin.append_ #[t, t'] ty #[.slice base 0 0, b]).run P w = .ok (.slice base 0 0) w := by
     rw [hrun]; cases base <;> rfl
    cases base with
    | none => exact ⟨.slice none 0 0, w, _, I1, hrun', .osnil _ _ _ (by simp [cE]), hnil, hg1.trans ⟨dM (hi1.un id hu), fun _ h => h, fun _ _ => rfl⟩⟩
    | some a => exact ⟨.slice (some a) 0 0, w, _, I1, hrun', .oszero _ _ _ _ _ (by simp [cE]), hnil, hg1.trans ⟨dM (hi1.un id hu), fun _ h => h, fun _ _ => rfl⟩⟩
   ·rw [hd0]
    obtain ⟨σ', r1, r2, r3⟩ := grown (del hp1 i) hdel 0 0 [] [] (by omega) (by simp) rfl (fun i hi => by simp at hi)
    have hrun := hout base 0 0 [] hh (by omega) (by omega) hb2
    exact ⟨_, _, σ', I1, hrun, r1, r2, hg1.trans r3⟩
  cases hx1 with
  | osnil _ _ _ g1 => exact zero none (fun w' _ => run_firstCells_none w' e' 0 0 0) rfl (by rw [g1]; simp)
  | oszero _ _ _ _ a g1 => exact zero (some a) (fun w' _ => by simp [Builtin.firstCells, loadCells, loadCellsFrom]) rfl g1
  | os _ _ _ _ _ blk base sz cap g1 g2 g3 =>
   replace g3 := g3 rfl
   have hrow := fH hown g1
   have hlen := own_len hown g1
   by_cases hroom : n + m ≤ cap
   ·have hrun := hin (some ⟨blk, base + off, none⟩) n cap hroom
    simp only [eE] at hrun
    have hfit : base + xs.length + ys'.length ≤ sz := by
     rw [hsrc1.size]
     have : (n + m) * e' ≤ cap * e' := Nat.mul_le_mul_right _ hroom
     rw [Nat.add_mul] at this
     omega
    have key : ∃ w' σ', (storeCells ⟨blk, base + off + n * e', none⟩ news 0).run P w = .ok () w' ∧ Inv c σ' I1 w' (upd (del hp1 i) id (.cells (xs.drop off ++ ys') true)) (fun k => un k ∧ k ≠ id) ∧ σ' id = .at_ blk (base + off) sz ∧ Grow σ I1 w σ' I1 w' := by
     simp only [cF, g1] at hown
     obtain ⟨⟨⟨cs, T, lo, hi_, q1, q2, q3, q4, q5⟩, q6⟩, q7, _⟩ := hown
     have hnI := q7 trivial
     have h1 : ∀ v ∈ news, v.oneCell' = true := by
      intro v hv
      obtain ⟨k, hk, rfl⟩ := List.getElem_of_mem hv
      have hk' : k < ys'.length := by rw [← hsrc1.nsize]; exact hk
      have := (hr1 k hk').2
      rw [List.getD_eq_getElem?_getD, List.getElem?_eq_getElem hk] at this
      exact this.oneCell (hr1 k hk').1
     obtain ⟨w', r1, r2, r3, r4, r5, r6, cur', r7, r8, r9⟩ := fY (P := P) blk (base + off + n * e') T lo hi_ news 0 cs w q1 (by rw [q2]; exact q4.out) (by rw [hsrc1.nsize, q2]; omega) h1
     have hw : ∀ k, I1 k → w'.heap[k]? = w.heap[k]? := fun k hk => r6 k (fun e => hnI (e ▸ hk))
     have hσ := dM (l := .at_ blk (base + off) sz) (hi1.un id hu)
     have lim := hi1.lim i xs blk base sz ho g1
     have other : ∀ k o, k ≠ i → hp1 k = some o → ∀ blk' base' sz', σ k = .at_ blk' base' sz' → blk' ≠ blk := by
      intro k o hk hko blk' base' sz' e eb
      subst eb
      exact hi1.inj i k xs o blk' base sz base' sz' ho hko (Ne.symm hk) g1 e
     have get : ∀ k o, upd (del hp1 i) id (.cells (xs.drop off ++ ys') true) k = some o → (k = id ∧ o = .cells (xs.drop off ++ ys') true) ∨ (k ≠ id ∧ k ≠ i ∧ hp1 k = some o) := by
      intro k o hk
      rw [bJ] at hk
      split at hk
      ·rename_i e; exact .inl ⟨e, (Option.some.inj hk).symm⟩
      ·rename_i e
       rw [eV] at hk
       split at hk
       ·cases hk
       ·rename_i e2; exact .inr ⟨e, e2, hk⟩
     refine ⟨w', cE σ id (.at_ blk (base + off) sz), r1, ?_, by simp [cE], ⟨hσ, fun _ h => h, hw⟩⟩
     refine ⟨fun k hk => ?_, hi1.imm, fun k hk => ?_, by rw [r2]; exact hi1.os, by rw [r3]; exact hi1.tape, by rw [r4]; exact hi1.output, by rw [r5]; exact hi1.size, fun k hk hO => ?_, fun k hk => by rw [r5]; exact hi1.ilt k hk, ?_, ?_, ?_, ?_, fun g zs hg => (hi1.glob g zs hg).mono hσ (fun _ h => h) hw, hi1.inew⟩
     ·have := hi1.ext k hk
      rw [hσ k (by rw [this]; exact hk), this]
     ·rw [hw k (hi1.imm k hk)]; exact hi1.iw k hk
     ·by_cases e : k = blk
      ·subst e
       rcases lim with lim | lim
       ·omega
       ·exact absurd lim hO
      ·rw [r6 k e]; exact hi1.old k hk hO
     ·intro k o hk
      rcases get k o hk with ⟨rfl, rfl⟩ | ⟨e1, e2, e3⟩
      ·simp only [cF, cE, if_true]
       have hcell : ∀ j (_h : j < (xs.drop off ++ ys').length), (xs.drop off ++ ys')[j].isCell = true := by
        intro j hj
        rw [List.getElem_append]
        split
        ·rw [getElem_drop']; exact q6 _ _
        ·exact (hr1 _ _).1
       refine ⟨⟨⟨cur', T, lo, hi_, r7, by rw [r8]; exact q2, by rw [List.length_append, hxl]; omega, q4, fun j hj => ?_⟩, hcell⟩, fun _ => hnI, fun hm => by simp at hm⟩
       refine Rel.mono (σ := σ) (I := I1) (w := w) ?_ hσ (fun _ h => h) hw
       rw [Array.getD_eq_getD_getElem?, r9]
       rw [List.getElem_append]
       split
       ·rename_i hlt
        rw [getElem_drop', if_pos (by rw [hxl] at hlt; omega)]
        have := q5 (off + j) (by rw [hxl] at hlt; omega)
        rw [Array.getD_eq_getD_getElem?] at this
        rw [show base + off + j = base + (off + j) from by omega]; exact this
       ·rename_i hge
        have hj' : j - (xs.drop off).length < ys'.length := by rw [List.length_append] at hj; omega
        have hns := hsrc1.nsize
        rw [if_neg (by rw [hxl] at hge; omega), if_pos (by rw [hxl] at hge hj'; omega)]
        have := (hr1 _ hj').2
        rw [List.getD_eq_getElem?_getD] at this
        rw [show base + off + j - (base + off + n * e' + 0) = j - (xs.drop off).length from by rw [hxl]; omega]; exact this
      ·exact (hi1.own k o e3).mono hσ (fun _ h => h) hw fun blk' base' sz' e => ⟨r6 blk' (other k o e2 e3 blk' base' sz' e), fun _ h => h⟩
     ·intro k k' xs' o' blk1 base1 sz1 base2 sz2 h1 h2 hn e1 e2
      rcases get k _ h1 with ⟨rfl, _⟩ | ⟨a1, a2, a3⟩
      ·rcases get k' _ h2 with ⟨rfl, _⟩ | ⟨b1, b2, b3⟩
       ·exact hn rfl
       ·simp only [cE, if_true, Loc.at_.injEq] at e1
        simp only [cE, if_neg b1] at e2
        exact other k' o' b2 b3 blk1 base2 sz2 e2 e1.1.symm
      ·simp only [cE, if_neg a1] at e1
       rcases get k' _ h2 with ⟨rfl, _⟩ | ⟨b1, b2, b3⟩
       ·simp only [cE, if_true, Loc.at_.injEq] at e2
        exact other k _ a2 a3 blk1 base1 sz1 e1 e2.1.symm
       ·simp only [cE, if_neg b1] at e2
        exact hi1.inj k k' xs' o' blk1 base1 sz1 base2 sz2 a3 b3 hn e1 e2
     ·intro k xs' blk1 base1 sz1 h1 e1
      rcases get k _ h1 with ⟨rfl, _⟩ | ⟨a1, a2, a3⟩
      ·simp only [cE, if_true, Loc.at_.injEq] at e1
       rw [← e1.1]; exact lim
      ·simp only [cE, if_neg a1] at e1
       exact hi1.lim k xs' blk1 base1 sz1 a3 e1
     ·intro k ⟨hk, hn⟩
      simp only [cE, if_neg hn]
      exact hi1.un k hk
    obtain ⟨w', σ', k1, k2, k3, k4⟩ := key
    simp only [k1, Result.andThen_ok] at hrun
    refine ⟨_, w', σ', I1, hrun, ?_, k2, hg1.trans k4⟩
    have := Rel.os (σ := σ') (I := I1) (w := w') id 0 (n + m) e' true blk (base + off) sz cap k3 hroom (fun _ => by omega)
    exact this
   ·have hold : ∀ w' : World, w'.heap = w.heap → (Builtin.firstCells e' n (.slice (some ⟨blk, base + off, none⟩) n cap)).run P w' = .ok ((List.range (n * e')).map fun j => (w.cell? ⟨blk, base + off + j, none⟩).getD undef).toArray w' := by
     intro w' hw'
     refine run_firstCells_some w' e' n _ n cap _ (by simp) (fun j v hj => ?_)
     rw [List.getElem?_map] at hj
     obtain ⟨k, hk, rfl⟩ := Option.map_eq_some_iff.1 hj
     rw [List.getElem?_eq_some_iff] at hk
     obtain ⟨hlt, hk⟩ := hk
     simp at hlt hk
     subst hk
     obtain ⟨v, hv, _⟩ := hrow.get (off + j) (by omega)
     rw [← Nat.add_assoc] at hv
     rw [eE]
     simp only [World.cell?, hw'] at hv ⊢
     rw [hv]; rfl
    obtain ⟨σ', r1, r2, r3⟩ := grown (del hp1 i) hdel n cap ((List.range (n * e')).map fun j => (w.cell? ⟨blk, base + off + j, none⟩).getD undef) (xs.drop off) (by omega) hxl (by rw [hxl, List.length_map, List.length_range]) (fun j hj => by
     rw [hxl] at hj
     rw [getElem_drop']
     obtain ⟨v, hv, hc, hr⟩ := hrow.get (off + j) (by omega)
     rw [← Nat.add_assoc] at hv
     refine ⟨hc, ?_⟩
     rw [List.getD_eq_getElem?_getD, List.getElem?_map, List.getElem?_range hj]
     simp only [Option.map_some, hv, Option.getD_some]
     exact hr)
    have hrun := hout (some ⟨blk, base + off, none⟩) n cap _ hold (by omega) (by omega) hb2
    exact ⟨_, _, σ', I1, hrun, r1, r2, hg1.trans r3⟩
 ·cases h
theorem append_coreT {t t' ty e : TypeId} {x z0 : AV} {a b : Value} {id z by_ m : Nat} {ys' : List AV} {news : List Value} {hp1 hp' : H} {I1 : Nat → Prop} {zv : Value} (hi1 : Inv c σ I1 w hp1 un) (hu : un id) (hg1 : Grow σ I w σ I1 w)
  (hx1 : Rel σ I1 w x a) (hsrc1 : Src0 σ I1 w z m ys' news) (hzs' : zv.cells.size = z)
  (hin : ∀ (base : Option Addr) (sLen sCap : Nat) (_hroom : sLen + m ≤ sCap), (Builtin.append_ #[t, t'] ty #[.slice base sLen sCap, b]).run P w =
   ((match base with | some a => storeCells (a.add (sLen * z)) news | none => pure () : Sem Unit).run P w).andThen fun _ w' => .ok (.slice base (sLen + m) sCap) w')
  (hout : ∀ (base : Option Addr) (sLen sCap : Nat) (old : List Value) (_hold : ∀ w', w'.heap = w.heap → (Builtin.firstCells z sLen (.slice base sLen sCap)).run P w' = .ok old.toArray w')
   (_hgrow : sCap < sLen + m) (_h63 : sLen + m ≤ 140737488355328) (_hb : (sLen + m) * by_ ≤ 140737488355328), (Builtin.append_ #[t, t'] ty #[.slice base sLen sCap, b]).run P w =
   .ok (.slice (some ⟨w.heap.size, 0, none⟩) (sLen + m) (grownCap w (sLen + m) sCap e))
    (w.drew.alloc (.cells (old.toArray ++ news.toArray ++ Builtin.zeroCells zv.cells (grownCap w (sLen + m) sCap e - (sLen + m))) e)))
  (h : apTl z by_ x m ys' hp1 id = some (z0, hp')) :
  ∃ v w' σ' I', (Builtin.append_ #[t, t'] ty #[a, b]).run P w = .ok v w' ∧ Rel σ' I' w' z0 v ∧ Inv c σ' I' w' hp' (fun k => un k ∧ k ≠ id) ∧ Grow σ I w σ' I' w' := by
 unfold apTl at h
 split at h
 ·rename_i i off n e' g
  replace h := aJ h; obtain ⟨o, ho, h⟩ := h
  obtain ⟨xs, mt⟩ := o
  simp only [eqO] at h
  split at h
  ·exact append_core hi1 hu hg1 hx1 hsrc1 hzs' hin hout h
  ·unfold apCut at h
   replace h := aP h; obtain ⟨⟨hmt, hg, hez, hle, hb1, hb2⟩, h⟩ := h
   subst hmt
   refine append_core (by_ := by_) (hp' := hp') (z0 := z0) (hi1.trunc ho (off + n * z)) hu hg1 hx1 hsrc1 hzs' hin hout ?_
   simp only [apTail, bJ, if_true, aX]
   rw [cU _ ⟨trivial, hg, hez, by rw [List.length_take]; omega, hb1, hb2⟩]
   have hd : del (upd hp1 i (.cells (xs.take (off + n * z)) true)) i = del hp1 i := by
    funext k; simp only [eV, bJ]; split <;> rfl
   have ht : (xs.take (off + n * z)).drop off = (xs.drop off).take (n * z) := by rw [List.drop_take]; congr 1; omega
   rw [hd, ht]; exact h
 ·exact append_core hi1 hu hg1 hx1 hsrc1 hzs' hin hout h
theorem zeroCells_get {z : Array Value} {n i : Nat} (h : i < n * z.size) : (Builtin.zeroCells z n)[i]? = z[i % z.size]? := by
 have hz : 0 < z.size := by
  rcases Nat.eq_zero_or_pos z.size with e | e
  ·rw [e] at h; omega
  ·exact e
 have hm := Nat.mod_lt i hz
 simp only [Builtin.zeroCells, Array.getElem?_map]
 rw [Array.getElem?_eq_getElem (by simpa using h)]
 simp only [Array.getElem_range, Option.map_some]
 rw [Array.getElem?_eq_getElem hm, getElem!_pos z _ hm]
theorem zero_facts {e : TypeId} {z : Nat} {zs : List AV} (hzs : cG P e = some zs) (hzl : zs.length = z) : ∃ zv : Value, (∀ w, (zeroValue e).run P w = .ok zv w) ∧ zv.cells.size = z ∧ zs = zv.cells.toList.map ofV1 ∧ ∀ x ∈ zv.cells.toList, x.oneCell' = true := by
 obtain ⟨zv, _, hzero, _, _⟩ := run_zeroValue' hzs (default : World)
 refine ⟨zv, fun w => ?_, ?_, ?_, ?_⟩
 ·obtain ⟨zv', h1, h2, _⟩ := run_zeroValue' hzs w
  rw [hzero] at h2; obtain rfl := Option.some.inj h2; exact h1
 ·obtain ⟨zv', _, h2, h3, _⟩ := run_zeroValue' hzs (default : World)
  rw [hzero] at h2; obtain rfl := Option.some.inj h2
  rw [← hzl, h3]; simp
 ·obtain ⟨zv', _, h2, h3, _⟩ := run_zeroValue' hzs (default : World)
  rw [hzero] at h2; obtain rfl := Option.some.inj h2
  exact h3
 ·obtain ⟨zv', _, h2, _, h4⟩ := run_zeroValue' hzs (default : World)
  rw [hzero] at h2; obtain rfl := Option.some.inj h2
  exact h4
theorem append_sound {t t' ty : TypeId} {x y z0 : AV} {a b : Value} {id : Nat} {hp' : H} (h : appendA P t x y hp id = some (z0, hp')) (ht' : eW P t' = true) (hx : Rel σ I w x a) (hy : Rel σ I w y b)
  (hi : Inv c σ I w hp un) (hu : un id) :
  ∃ v w' σ' I', (Builtin.append_ #[t, t'] ty #[a, b]).run P w = .ok v w' ∧ Rel σ' I' w' z0 v ∧ Inv c σ' I' w' hp' (fun k => un k ∧ k ≠ id) ∧ Grow σ I w σ' I' w' := by
 unfold appendA at h
 split at h
 rotate_left
 ·cases h
 rename_i e ht
 replace h := aJ h; obtain ⟨z, hz, h⟩ := h
 replace h := aJ h; obtain ⟨by_, hby, h⟩ := h
 replace h := aJ h; obtain ⟨zs, hzs, h⟩ := h
 replace h := aP h; obtain ⟨⟨hpos, hzl⟩, h⟩ := h
 replace h := aJ h; obtain ⟨my, hmy, h⟩ := h
 replace h := aJ h; obtain ⟨fy, hfy, h⟩ := h
 obtain ⟨m, ys⟩ := my
 obtain ⟨ys', hp1⟩ := fy
 simp only at hmy hfy h
 obtain ⟨news, hsrc⟩ := src_run (P := P) hmy hy hi.own
 obtain ⟨I1, hi1, hg1, hl1, hr1⟩ := frzL_sound (us := fun i => news.getD i undef) hfy hi hsrc.rel
 simp only at hi1 hl1 hr1
 obtain ⟨zv, hzv, hzs', _, _⟩ := zero_facts (P := P) hzs hzl
 exact append_coreT (by_ := by_) (e := e) (zv := zv) hi1 hu hg1 (hx.grow hg1) ⟨by rw [hl1, hsrc.size], by rw [hl1, hsrc.nsize], hr1⟩ hzs'
  (fun base sLen sCap hroom => run_append_in (ty := ty) ht ht' hz hsrc base sLen sCap hroom)
  (fun base sLen sCap old hold hg h6 hb => run_append_out (ty := ty) ht ht' hz hby hsrc hzv base sLen sCap old hold hg h6 hb) h
theorem int_fits {m : Nat} (hm : m ≤ 140737488355328) : IntKind.i64.wrap (m : Int) = m := by
 have := W_eq (n := (m : Int)) (by omega) (by omega)
 exact this
section appz
variable {t t' ty e : TypeId} {z by_ m : Nat} {k : IntKind} {zv : Value} (ht : P.underlying t = some (.slice e)) (ht' : P.underlying t' = some (.int k)) (hz : cD P e = some z) (hby : dU P e = some by_) (hpos : 0 < z)
 (hzv : ∀ w, (zeroValue e).run P w = .ok zv w) (hm : m ≤ 140737488355328) (hmb : m * by_ ≤ 140737488355328)
include ht ht' hz hby hpos hzv hm hmb
theorem run_appz_in (base : Option Addr) (sLen sCap : Nat) (hroom : sLen + m ≤ sCap) :
  (Builtin.append_ #[t, t'] ty #[.slice base sLen sCap, .int .i64 m]).run P w =
   ((match base with | some a => storeCells (a.add (sLen * z)) (Builtin.zeroCells zv.cells m).toList | none => pure () : Sem Unit).run P w).andThen fun _ w' => .ok (.slice base (sLen + m) sCap) w' := by
 obtain ⟨i, hi, hib⟩ := byOf_inv hby
 have hw := int_fits hm
 have e2 : (2 : Int) ^ 48 = 281474976710656 := by decide
 have n3 : ¬ ((m : Int) * (i.bytes : Int) > 2 ^ 48) := by
  rw [hib, e2, ← Int.natCast_mul]; omega
 have n4 : ¬ ((m : Int) < 0) := by omega
 simp only [Builtin.append_, List.getElem?_toArray, List.getElem?_cons_zero, List.getElem?_cons_succ, Sem.run_bind, run_underlying ht, Result.andThen_ok, run_sizeOf' hz, run_underlying ht', Sem.run_pure, if_true, asInt, asIntOf, hw, if_neg n4, run_typeInfo' hi, if_neg n3, Int.toNat_natCast,
  if_pos hroom, Bool.not_true, Bool.false_eq_true, if_false]
 by_cases hm0 : m * z = 0
 ·have : m = 0 := by
   rcases Nat.mul_eq_zero.1 hm0 with h | h
   ·exact h
   ·omega
  subst this
  have hz0 : (Builtin.zeroCells zv.cells 0).toList = [] := by simp [Builtin.zeroCells]
  rw [hz0]
  simp only [Nat.zero_mul, if_true, Sem.run_pure, Result.andThen_ok]
  cases base <;> rfl
 ·simp only [if_neg hm0, Sem.run_bind, hzv, Result.andThen_ok, Sem.run_pure]
  cases base with
  | none => rfl
  | some a => simp only [Sem.run_bind]; rfl
theorem run_appz_out (base : Option Addr) (sLen sCap : Nat) (old : List Value) (hold : ∀ w', w'.heap = w.heap → (Builtin.firstCells z sLen (.slice base sLen sCap)).run P w' = .ok old.toArray w')
  (hgrow : sCap < sLen + m) (h63 : sLen + m ≤ 140737488355328) (hb : (sLen + m) * by_ ≤ 140737488355328) :
  (Builtin.append_ #[t, t'] ty #[.slice base sLen sCap, .int .i64 m]).run P w =
   .ok (.slice (some ⟨w.heap.size, 0, none⟩) (sLen + m) (grownCap w (sLen + m) sCap e))
    (w.drew.alloc (.cells (old.toArray ++ (Builtin.zeroCells zv.cells m).toList.toArray ++ Builtin.zeroCells zv.cells (grownCap w (sLen + m) sCap e - (sLen + m))) e)) := by
 obtain ⟨i, hi, hib⟩ := byOf_inv hby
 have hw := int_fits hm
 have e2 : (2 : Int) ^ 48 = 281474976710656 := by decide
 have n3 : ¬ ((m : Int) * (i.bytes : Int) > 2 ^ 48) := by
  rw [hib, e2, ← Int.natCast_mul]; omega
 have n4 : ¬ ((m : Int) < 0) := by omega
 have hold' := hold w.drew rfl
 have n1 : ¬ sLen + m ≤ sCap := by omega
 have n2 : ¬ (((sLen + m : Nat) : Int) > IntKind.i64.max ∧ (True ∨ i.bytes = 0)) := by
  have e1 : IntKind.i64.max = 9223372036854775807 := by decide
  rw [e1]; omega
 have n5 : ¬ (Builtin.nextslicecap (sLen + m) sCap * i.bytes > 2 ^ 48) := by
  have := growslice_fits hgrow (bytes := by_) hb
  rw [hib]; have e1 : (2 : Nat) ^ 48 = 281474976710656 := by decide
  omega
 simp only [Builtin.append_, List.getElem?_toArray, List.getElem?_cons_zero, List.getElem?_cons_succ, Sem.run_bind, run_underlying ht, Result.andThen_ok, run_sizeOf' hz, run_underlying ht', Sem.run_pure, if_true, asInt, asIntOf, hw, if_neg n4, run_typeInfo' hi, if_neg n3, Int.toNat_natCast,
  if_neg n1, Bool.not_true, Bool.false_eq_true, if_false]
 rw [if_neg n2]
 simp only [Sem.run_bind, run_typeInfo' hi, Result.andThen_ok, if_neg n5]
 simp only [run_choose, Question.forced, Bool.false_eq_true, if_false, Result.andThen_ok, run_askRoom]
 have e0 : ({ w with drawn := w.drawn + 1 } : World) = w.drew := rfl
 simp only [e0, hold', Result.andThen_ok]
 by_cases hm0 : m * z = 0
 ·have : m = 0 := by
   rcases Nat.mul_eq_zero.1 hm0 with h | h
   ·exact h
   ·omega
  subst this
  have hz0 : Builtin.zeroCells zv.cells 0 = #[] := by simp [Builtin.zeroCells]
  simp only [Nat.zero_mul, if_true, Sem.run_pure, Result.andThen_ok, hzv, newRow, Sem.run_bind, run_newObj, hz0]
  rfl
 ·simp only [if_neg hm0, Sem.run_bind, hzv, Result.andThen_ok, Sem.run_pure, newRow, run_newObj, Array.toArray_toList]
  rfl
end appz
theorem isIntT_inv {t : TypeId} (h : isIntT P t = true) : ∃ k, P.underlying t = some (.int k) := by
 unfold isIntT at h
 split at h
 ·exact ⟨_, ‹_›⟩
 ·cases h
theorem appendZ_sound {t t' ty : TypeId} {x y z0 : AV} {a b : Value} {id : Nat} {hp' : H} (h : appendZ P t x y hp id = some (z0, hp')) (ht' : isIntT P t' = true) (hx : Rel σ I w x a) (hy : Rel σ I w y b)
  (hi : Inv c σ I w hp un) (hu : un id) :
  ∃ v w' σ' I', (Builtin.append_ #[t, t'] ty #[a, b]).run P w = .ok v w' ∧ Rel σ' I' w' z0 v ∧ Inv c σ' I' w' hp' (fun k => un k ∧ k ≠ id) ∧ Grow σ I w σ' I' w' := by
 obtain ⟨k, ht'⟩ := isIntT_inv ht'
 unfold appendZ at h
 split at h
 rotate_left
 ·cases h
 rename_i e ht
 replace h := aJ h; obtain ⟨z, hz, h⟩ := h
 replace h := aJ h; obtain ⟨by_, hby, h⟩ := h
 replace h := aJ h; obtain ⟨zs, hzs, h⟩ := h
 replace h := aP h; obtain ⟨⟨hpos, hzl⟩, h⟩ := h
 replace h := aJ h; obtain ⟨m, hm, h⟩ := h
 replace h := aP h; obtain ⟨⟨hm1, hm2⟩, h⟩ := h
 obtain ⟨zv, hzv, hzs', hze, hzc⟩ := zero_facts (P := P) hzs hzl
 unfold cntA at hm
 split at hm
 rotate_left
 ·cases hm
 rename_i n
 replace hm := aP hm; obtain ⟨hn, hm⟩ := hm
 obtain rfl := Option.some.inj hm
 cases hy
 obtain ⟨m, rfl⟩ := Int.eq_ofNat_of_zero_le hn
 simp only [Int.toNat_natCast] at *
 have hrl : (rep m zs).length = m * z := by rw [rep_length, hzl]
 have hnl : (Builtin.zeroCells zv.cells m).toList.length = m * z := by rw [Array.length_toList, size_zeroCells, hzs']
 have hrc : cV σ I w zs zv.cells := eT hze hzc
 refine append_core (by_ := by_) (e := e) (zv := zv) hi hu (Grow.refl _ _ _) hx ⟨hrl, by rw [hnl, hrl], fun i hi' => ?_⟩ hzs'
  (fun base sLen sCap hroom => run_appz_in (ty := ty) ht ht' hz hby hpos hzv hm1 hm2 base sLen sCap hroom)
  (fun base sLen sCap old hold hg h6 hb => run_appz_out (ty := ty) ht ht' hz hby hpos hzv hm1 hm2 base sLen sCap old hold hg h6 hb) h
 have hg := rep_get hzl hpos m i (by omega)
 rw [List.getElem?_eq_getElem hi'] at hg
 obtain ⟨c1, v, c2, c3⟩ := (cY.1 hrc).2 _ _ hg.symm
 refine ⟨c1, ?_⟩
 have e1 : (Builtin.zeroCells zv.cells m).toList.getD i undef = v := by
  rw [List.getD_eq_getElem?_getD, Array.getElem?_toList, zeroCells_get (by rw [hzs']; omega), hzs', c2]; rfl
 rw [e1]; exact c3
theorem copy_sound {t t' ty : TypeId} {x y z0 : AV} {a b : Value} {hp' : H} (h : copyA P t x y hp = some (z0, hp')) (hx : Rel σ I w x a) (hy : Rel σ I w y b) (hi : Inv c σ I w hp un) :
  ∃ v w', (Builtin.copy_ #[t, t'] ty #[a, b]).run P w = .ok v w' ∧ Rel σ I w' z0 v ∧ Inv c σ I w' hp' un ∧ Grow σ I w σ I w' := by
 unfold copyA at h
 split at h
 rotate_left
 ·cases h
 rename_i e ht
 replace h := aJ h; obtain ⟨z, hz, h⟩ := h
 replace h := aJ h; obtain ⟨my, hmy, h⟩ := h
 obtain ⟨m, ys⟩ := my
 simp only at hmy h
 obtain ⟨news, hsrc⟩ := src_run (P := P) hmy hy hi.own
 split at h
 ·rename_i i off n e' g
  replace h := aJ h; obtain ⟨o, ho, h⟩ := h
  obtain ⟨xs, mt⟩ := o
  simp only at h
  replace h := aP h; obtain ⟨⟨hmt, hez, hend⟩, h⟩ := h
  obtain ⟨rfl, rfl⟩ := Prod.mk.inj (Option.some.inj h)
  subst hmt
  subst hez
  have hown := hi.own i _ ho
  have hlen : (ys.take (min m n * e')).length = min m n * e' := by
   rw [List.length_take, hsrc.size]; exact Nat.min_eq_left (Nat.mul_le_mul_right _ (Nat.min_le_left _ _))
  have hnl : (news.take (min m n * e')).length = min m n * e' := by
   rw [List.length_take, hsrc.nsize, hsrc.size]; exact Nat.min_eq_left (Nat.mul_le_mul_right _ (Nat.min_le_left _ _))
  have hmn : min m n * e' ≤ n * e' := Nat.mul_le_mul_right _ (Nat.min_le_right _ _)
  have hf := hsrc.first w rfl (min m n) (Nat.min_le_left _ _)
  have start : ∀ (base : Option Addr) (cap : Nat), (Builtin.copy_ #[t, t'] ty #[.slice base n cap, b]).run P w =
    ((match base with | some a => storeCells a (news.take (min m n * e')) | none => pure () : Sem Unit).run P w).andThen fun _ w' => .ok (.int .i64 (min m n : Nat)) w' := by
   intro base cap
   have hf' : (Builtin.firstCells e' (Nat.min m n) b).run P w = .ok (news.take (min m n * e')).toArray w := hf
   simp only [Builtin.copy_, List.getElem?_toArray, List.getElem?_cons_zero, List.getElem?_cons_succ, Sem.run_bind, run_underlying ht, Result.andThen_ok, hsrc.len, run_sizeOf' hz, hf', goInt]
   cases base with
   | none => rfl
   | some a => simp only [Sem.run_bind]; rfl
  have hrel : ∀ j (_h : j < (ys.take (min m n * e')).length), (ys.take (min m n * e'))[j].isCell = true ∧ Rel σ I w (ys.take (min m n * e'))[j] ((news.take (min m n * e')).getD j undef) := by
   intro j hj
   have hj' := hj
   rw [hlen] at hj'
   rw [getElem_take']
   have hjy : j < ys.length := by rw [List.length_take] at hj; omega
   have := hsrc.rel j hjy
   refine ⟨this.1, ?_⟩
   rw [List.getD_eq_getElem?_getD, List.getElem?_take_of_lt hj', ← List.getD_eq_getElem?_getD]
   exact this.2
  have zero : ∀ base : Option Addr, n = 0 → ∃ v w', (Builtin.copy_ #[t, t'] ty #[.slice base n 0, b]).run P w = .ok v w' ∧ Rel σ I w' (.i (min m n : Nat)) v ∧ Inv c σ I w' (upd hp i (.cells (cK xs off (ys.take (min m n * e'))) true)) un ∧ Grow σ I w σ I w' := by
   intro base hn
   subst hn
   refine ⟨_, w, by rw [start base 0]; simp only [Nat.min_zero, Nat.zero_mul, List.take_zero]; cases base <;> rfl, .i _, ?_, Grow.refl _ _ _⟩
   have : upd hp i (.cells (cK xs off (ys.take (min m 0 * e'))) true) = hp := by
    funext k
    rw [bJ]
    split
    ·rename_i e; subst e; rw [ho]; simp [cK]
    ·rfl
   rw [this]; exact hi
  cases hx with
  | osnil => exact zero none rfl
  | oszero _ _ _ _ a => exact zero (some a) rfl
  | os _ _ _ _ _ blk base sz cap g1 g2 g3 =>
   obtain ⟨w', r1, r2, r3⟩ := store_own (P := P) hi (off := off) (ys := ys.take (min m n * e')) (zs := cK xs off (ys.take (min m n * e'))) (us := news.take (min m n * e')) ho g1 (by rw [hlen]; omega) (by rw [hlen, hnl])
    (fun j hj => (hrel j hj).1) (fun j hj => (hrel j hj).2) (fN (by rw [hlen]; omega)) (fun j => splice_get (by rw [hlen]; omega))
   refine ⟨_, w', by rw [start]; simp only [r1, Result.andThen_ok], .i _, r2, r3⟩
 ·cases h
theorem clear_sound {t ty : TypeId} {x z0 : AV} {a : Value} {hp' : H} (h : clearA P t x hp = some (z0, hp')) (hx : Rel σ I w x a) (hi : Inv c σ I w hp un) :
  ∃ v w', (Builtin.clear_ #[t] ty #[a]).run P w = .ok v w' ∧ Rel σ I w' z0 v ∧ Inv c σ I w' hp' un ∧ Grow σ I w σ I w' := by
 unfold clearA at h
 split at h
 rotate_left
 ·cases h
 rename_i e ht
 replace h := aJ h; obtain ⟨z, hz, h⟩ := h
 replace h := aJ h; obtain ⟨zs, hzs, h⟩ := h
 replace h := aP h; obtain ⟨⟨hpos, hzl⟩, h⟩ := h
 obtain ⟨zv, hzv, hzs', hze, hzc⟩ := zero_facts (P := P) hzs hzl
 split at h
 ·rename_i i off n e' g
  replace h := aJ h; obtain ⟨o, ho, h⟩ := h
  obtain ⟨xs, mt⟩ := o
  simp only at h
  replace h := aP h; obtain ⟨⟨hmt, hez, hend⟩, h⟩ := h
  obtain ⟨rfl, rfl⟩ := Prod.mk.inj (Option.some.inj h)
  subst hmt
  subst hez
  have hrl : (rep n zs).length = n * e' := by rw [rep_length, hzl]
  have hnl : (Builtin.zeroCells zv.cells n).toList.length = n * e' := by rw [Array.length_toList, size_zeroCells, hzs']
  have hrc : cV σ I w zs zv.cells := eT hze hzc
  have hrel : ∀ j (_h : j < (rep n zs).length), (rep n zs)[j].isCell = true ∧ Rel σ I w (rep n zs)[j] ((Builtin.zeroCells zv.cells n).toList.getD j undef) := by
   intro j hj
   have hg := rep_get hzl hpos n j (by omega)
   rw [List.getElem?_eq_getElem hj] at hg
   obtain ⟨c1, v, c2, c3⟩ := (cY.1 hrc).2 _ _ hg.symm
   refine ⟨c1, ?_⟩
   have e1 : (Builtin.zeroCells zv.cells n).toList.getD j undef = v := by
    rw [List.getD_eq_getElem?_getD, Array.getElem?_toList, zeroCells_get (by rw [hzs']; omega), hzs', c2]; rfl
   rw [e1]; exact c3
  have zero : ∀ base : Option Addr, n = 0 → ∃ v w', (Builtin.clear_ #[t] ty #[.slice base n 0]).run P w = .ok v w' ∧ Rel σ I w' (.tup []) v ∧ Inv c σ I w' (upd hp i (.cells (cK xs off (rep n zs)) true)) un ∧ Grow σ I w σ I w' := by
   intro base hn
   subst hn
   refine ⟨.tuple #[], w, ?_, .tup [] #[] rfl (fun j hj => by simp at hj), ?_, Grow.refl _ _ _⟩
   ·simp only [Builtin.clear_, List.getElem?_toArray, List.getElem?_cons_zero, Sem.run_bind, run_underlying ht, Result.andThen_ok]
    cases base <;> rfl
   have : upd hp i (.cells (cK xs off (rep 0 zs)) true) = hp := by
    funext k
    rw [bJ]
    split
    ·rename_i e; subst e; rw [ho]; simp [cK, rep]
    ·rfl
   rw [this]; exact hi
  cases hx with
  | osnil => exact zero none rfl
  | oszero _ _ _ _ a => exact zero (some a) rfl
  | os _ _ _ _ _ blk base sz cap g1 g2 g3 =>
   rcases Nat.eq_zero_or_pos n with hn | hn
   ·subst hn
    obtain ⟨v, w', r1, r2, r3, r4⟩ := zero (some ⟨blk, base + off, none⟩) rfl
    refine ⟨v, w', ?_, r2, r3, r4⟩
    rw [← r1]
    simp only [Builtin.clear_, List.getElem?_toArray, List.getElem?_cons_zero, Sem.run_bind, run_underlying ht, Result.andThen_ok]
   obtain ⟨w', r1, r2, r3⟩ := store_own (P := P) hi (off := off) (ys := rep n zs) (zs := cK xs off (rep n zs)) (us := (Builtin.zeroCells zv.cells n).toList) ho g1 (by rw [hrl]; omega) (by rw [hrl, hnl])
    (fun j hj => (hrel j hj).1) (fun j hj => (hrel j hj).2) (fN (by rw [hrl]; omega)) (fun j => splice_get (by rw [hrl]; omega))
   refine ⟨.tuple #[], w', ?_, .tup [] #[] rfl (fun j hj => by simp at hj), r2, r3⟩
   obtain ⟨m, rfl⟩ : ∃ m, n = m + 1 := ⟨n - 1, by omega⟩
   simp only [Builtin.clear_, List.getElem?_toArray, List.getElem?_cons_zero, Sem.run_bind, run_underlying ht, Result.andThen_ok, hzv, r1, Sem.run_pure]
 ·cases h
theorem freeze_out {w : World} {blk : Nat} {cs : Array Value} {T : TypeId} {lo hi : Nat} (h : w.heap[blk]? = some (.cells cs T (lo, hi))) (hu : Unfz lo hi cs.size) :
  ∃ lo' hi', (w.freeze ⟨blk, cs.size, none⟩ 1).heap[blk]? = some (.cells cs T (lo', hi')) ∧ Unfz lo' hi' cs.size ∧ (w.freeze ⟨blk, cs.size, none⟩ 1).heap.size = w.heap.size ∧ ∀ k, k ≠ blk → (w.freeze ⟨blk, cs.size, none⟩ 1).heap[k]? = w.heap[k]? := by
 unfold World.freeze
 rw [if_neg (by decide)]
 simp only [Array.size_modify, Array.getElem?_modify, h, if_true, Option.map_some]
 obtain ⟨u1, u2⟩ := hu
 have hlo : lo = hi ∨ cs.size ≤ lo := by
  rcases Nat.lt_or_ge lo cs.size with e | e
  ·left
   have := u2 lo e
   omega
  ·exact .inr e
 by_cases e : lo = hi
 ·subst e
  exact ⟨cs.size, cs.size + 1, by simp, ⟨by omega, fun o ho => by omega⟩, trivial, fun k hk => by rw [if_neg (fun e => hk e.symm)]⟩
 ·have hs : cs.size ≤ lo := hlo.resolve_left e
  have e2 : (lo == hi) = false := by simpa using e
  exact ⟨min lo cs.size, max hi (cs.size + 1), by simp [e2], ⟨by omega, fun o ho => by omega⟩, trivial, fun k hk => by rw [if_neg (fun e => hk e.symm)]⟩
theorem mark_sound {e t : TypeId} {x z0 : AV} {a : Value} {hp' : H} (h : markA P e x hp = some (z0, hp')) (ht : P.underlying t = some (.slice e)) (hx : Rel σ I w x a) (hi : Inv c σ I w hp un) :
  ∃ w', (convert t t a).run P w = .ok a w' ∧ Rel σ I w' z0 a ∧ Inv c σ I w' hp' un ∧ Grow σ I w σ I w' := by
 unfold markA at h
 split at h
 rotate_left
 ·cases h
 rename_i he
 split at h
 rotate_left
 ·cases h
 rename_i i off n e' g
 replace h := aJ h; obtain ⟨o, ho, h⟩ := h
 obtain ⟨xs, mt⟩ := o
 simp only at h
 replace h := aP h; obtain ⟨⟨hmt, hn⟩, h⟩ := h
 obtain ⟨rfl, rfl⟩ := Prod.mk.inj (Option.some.inj h)
 subst hmt
 cases hx with
 | osnil => omega
 | oszero => omega
 | os _ _ _ _ _ blk base sz cap g1 g2 g3 =>
  have hown := hi.own i _ ho
  have hnI : ¬ I blk := by simp only [cF, g1] at hown; exact hown.2.1 trivial
  obtain ⟨⟨cs, T, lo, hi_, q1, q2, q3, q4, q5⟩, q6⟩ := fH hown g1
  subst q2
  obtain ⟨lo', hi', f1, f2, f3, f4⟩ := freeze_out q1 q4
  have hw : ∀ k, I k → (w.freeze ⟨blk, cs.size, none⟩ 1).heap[k]? = w.heap[k]? := fun k hk => f4 k (fun e => hnI (e ▸ hk))
  have hinv : Inv c σ I (w.freeze ⟨blk, cs.size, none⟩ 1) (upd hp i (.cells xs true)) un := by
   refine hi.setRowG ho g1 ?_ ?_ ?_ f3 f4 q6 (fun cs2 T2 lo2 hi2 r1 r2 r3 => ?_)
   ·unfold World.freeze; split <;> rfl
   ·unfold World.freeze; split <;> rfl
   ·unfold World.freeze; split <;> rfl
   ·rw [q1] at r1
    simp only [Option.some.injEq, Obj.cells.injEq, Prod.mk.injEq] at r1
    obtain ⟨rfl, rfl, rfl, rfl⟩ := r1
    exact ⟨cs, lo', hi', f1, rfl, f2, q3, q5⟩
  refine ⟨_, ?_, ?_, hinv, ⟨fun _ _ => rfl, fun _ h => h, hw⟩⟩
  ·have hsh : w.shape? blk = some (T, cs.size) := by unfold World.shape?; rw [q1]
   simp [convert, run_underlying ht, run_underlying he, markStringish, hsh]
  ·exact .os i off n e' g blk base cs.size cap g1 g2 g3
theorem store_sound {t : TypeId} {x : AV} {i off z : Nat} {cs xs : List AV} {mt : Bool} {a v : Value} (ha : Rel σ I w (.op i off) a) (hv : Rel σ I w x v) (hcs : dC x = some cs) (hz : cD P t = some z)
  (ho : hp i = some (.cells xs mt)) (hmt : mt = true) (hl : cs.length = z) (hfit : off + z ≤ xs.length) (hi : Inv c σ I w hp un) :
  ∃ w', (Instr.storeAt t a v).run P w = .ok () w' ∧ Inv c σ I w' (upd hp i (.cells (dV xs off cs) true)) un ∧ Grow σ I w σ I w' := by
 subst hmt
 obtain ⟨blk, base, sz, hloc, rfl⟩ := op_inv ha
 have hc := fT hcs hv
 obtain ⟨w', r1, r2, r3⟩ := store_own (P := P) hi (off := off) (ys := cs) (zs := dV xs off cs) (us := v.cells.toList) ho hloc (by omega) (by simpa using hc.size) hc.cell
  (fun j hj => by have := hc.rel j hj; rwa [← Array.toArray_toList (xs := v.cells), fI] at this) (storeL_length (by omega)) (fun j => storeL_get (by omega))
 refine ⟨w', ?_, r2, r3⟩
 have hne : ¬ (v.cells.size ≠ z) := by rw [hc.size, hl]; simp
 simp only [Instr.storeAt, Instr.sureAddr, storeVar, Sem.run_bind, Sem.run_pure, Result.andThen_ok, run_sizeOf' hz, if_neg hne, r1]
theorem write_sound {o : Oper} {ρA : Operand → AV} {ρ : Operand → Value} {id : Nat} {x : AV} {hp' : H} (h : fR P o.op ρA hp id = some (x, hp')) (hρ : ∀ y, Rel σ I w (ρA y) (ρ y))
  (hi : Inv c σ I w hp un) (hu : un id) :
  ∃ r w' σ' I', (execOp ρ o).run P w = .ok r w' ∧ ((∃ v, r = .value v ∧ Rel σ' I' w' x v) ∨ (r = .skip ∧ x = .junk)) ∧ Inv c σ' I' w' hp' (fun k => un k ∧ k ≠ id) ∧ Grow σ I w σ' I' w' := by
 obtain ⟨dst, op, type, pos, after, guard⟩ := o
 simp only at h
 unfold fR at h
 split at h
 ·rename_i t a y
  have ha := hρ a
  split at h
  ·rename_i i off eq
   rw [eq] at ha
   replace h := aJ h; obtain ⟨cs, hcs, h⟩ := h
   replace h := aJ h; obtain ⟨z, hz, h⟩ := h
   replace h := aJ h; obtain ⟨o, ho, h⟩ := h
   obtain ⟨xs, mt⟩ := o
   simp only at h
   replace h := aP h; obtain ⟨⟨hmt, hl, hfit⟩, h⟩ := h
   obtain ⟨rfl, rfl⟩ := Prod.mk.inj (Option.some.inj h)
   obtain ⟨w', r1, r2, r3⟩ := store_sound (P := P) ha (hρ y) hcs hz ho hmt hl hfit hi
   exact ⟨.skip, w', σ, I, runU r1, .inr ⟨rfl, rfl⟩, r2.mono_un (fun _ h => h.1), r3⟩
  ·cases h
 ·rename_i src dst' y
  replace h := aP h; obtain ⟨hs, h⟩ := h
  subst hs
  split at h
  ·rename_i e ht
   obtain ⟨w', r1, r2, r3, r4⟩ := mark_sound (P := P) h ht (hρ y) hi
   exact ⟨.value (ρ y), w', σ, I, by simp only [execOp, Sem.run_bind, r1, Result.andThen_ok, Sem.run_pure], .inl ⟨_, rfl, r2⟩, r3.mono_un (fun _ h => h.1), r4⟩
  ·cases h
 ·rename_i cl
  obtain ⟨callee, args, argTypes⟩ := cl
  simp only at h
  split at h
  ·rename_i a b t t' e1 e2
   have ea : args = #[a, b] := by rw [← Array.toArray_toList (xs := args), e1]
   have et : argTypes = #[t, t'] := by rw [← Array.toArray_toList (xs := argTypes), e2]
   subst ea; subst et
   split at h
   ·rename_i hni
    obtain ⟨v, w', σ', I', r1, r2, r3, r4⟩ := append_sound (ty := type) h hni (hρ a) (hρ b) hi hu
    refine ⟨.value v, w', σ', I', ?_, .inl ⟨v, rfl, r2⟩, r3, r4⟩
    simp only [execOp, resolve, invoke, builtin, Sem.run_bind, Sem.run_pure, Result.andThen_ok, List.map_toArray, List.map_cons, List.map_nil, r1]
   ·replace h := aP h; obtain ⟨hni, h⟩ := h
    obtain ⟨v, w', σ', I', r1, r2, r3, r4⟩ := appendZ_sound (ty := type) h hni (hρ a) (hρ b) hi hu
    refine ⟨.value v, w', σ', I', ?_, .inl ⟨v, rfl, r2⟩, r3, r4⟩
    simp only [execOp, resolve, invoke, builtin, Sem.run_bind, Sem.run_pure, Result.andThen_ok, List.map_toArray, List.map_cons, List.map_nil, r1]
  ·rename_i a b t t' e1 e2
   have ea : args = #[a, b] := by rw [← Array.toArray_toList (xs := args), e1]
   have et : argTypes = #[t, t'] := by rw [← Array.toArray_toList (xs := argTypes), e2]
   subst ea; subst et
   obtain ⟨v, w', r1, r2, r3, r4⟩ := copy_sound (P := P) (t' := t') (ty := type) h (hρ a) (hρ b) hi
   refine ⟨.value v, w', σ, I, ?_, .inl ⟨v, rfl, r2⟩, r3.mono_un (fun _ h => h.1), r4⟩
   simp only [execOp, resolve, invoke, builtin, Sem.run_bind, Sem.run_pure, Result.andThen_ok, List.map_toArray, List.map_cons, List.map_nil, r1]
  ·rename_i a t e1 e2
   have ea : args = #[a] := by rw [← Array.toArray_toList (xs := args), e1]
   have et : argTypes = #[t] := by rw [← Array.toArray_toList (xs := argTypes), e2]
   subst ea; subst et
   obtain ⟨v, w', r1, r2, r3, r4⟩ := clear_sound (P := P) (ty := type) h (hρ a) hi
   refine ⟨.value v, w', σ, I, ?_, .inl ⟨v, rfl, r2⟩, r3.mono_un (fun _ h => h.1), r4⟩
   simp only [execOp, resolve, invoke, builtin, Sem.run_bind, Sem.run_pure, Result.andThen_ok, List.map_toArray, List.map_cons, List.map_nil, r1]
  ·cases h
 ·cases h
end
end Go.AX
namespace Go.AX
open Go
def dG : List (Nat × AV) → Nat → AV
 | [], _ => .junk
 | (k, x) :: r, t => if k = t then x else dG r t
def ev (GL : Nat → Option (List AV)) (fr : List (Nat × AV)) : Operand → AV
 | .tmp t => dG fr t
 | .const v => ofV v
 | .global g => match GL g with | some xs => .rp xs | none => .junk
 | .func f => .fn f []
def fA (dst : Option Tmp) (x : AV) (fr : List (Nat × AV)) : List (Nat × AV) :=
 match dst with
 | some d => (d, x) :: fr
 | none => fr
inductive Spec where
 | pure (sc : Bool) (g : List AV → Option AV)
 | fresh (sc : Bool) (g : List AV → Option (Nat × Nat × List AV))
 | heap (g : List AV → H → Nat → Option (AV × H × Nat))
abbrev Env := Nat → Option Spec
structure S where
 fr : List (Nat × AV)
 hp : H
 nx : Nat
 cx : Nat
def dD (hp : H) (x : AV) : Option AV :=
 match x with
 | .os id off n e _ => aK (hp id) fun o => match o with | .cells xs _ => aN (off + n * e ≤ xs.length) (some (.sl n ((xs.drop off).take (n * e))))
 | .op id off => aK (hp id) fun o => match o with | .cells xs _ => some (.rp (xs.drop off))
 | x => some x
def fW (hp : H) : List AV → Option (List AV)
 | [] => some []
 | x :: r => aK (dD hp x) fun y => aK (fW hp r) fun l => some (y :: l)
def dB (xs : List AV) : Bool := xs.all fun x => match x with | .os .. => false | .op .. => false | .mp _ => false | .fn .. => false | .agg _ => false | .tup _ => false | .v (.slice none 0 0) => false | _ => true
def immM (f : AV → Option AV) : List AV → Option (List AV)
 | [] => some []
 | x :: r => aK (f x) fun y => aK (immM f r) fun l => some (y :: l)
def immL (f : AV → Option AV) (xs : List AV) : Option (List AV) := if dB xs = true then some xs else immM f xs
def cO : Nat → H → AV → Option AV
 | 0, _, _ => none
 | n + 1, hp, x => match x with
  | .os id off m e _ => aK (hp id) fun o => match o with
   | .cells xs _ => aN (off + m * e ≤ xs.length) (aK (immL (cO n hp) ((xs.drop off).take (m * e))) fun l => some (.sl m l))
  | .op id off => aK (hp id) fun o => match o with
   | .cells xs _ => aK (immL (cO n hp) (xs.drop off)) fun l => some (.rp l)
  | .v (.slice none 0 0) => some (.sl 0 [])
  | .agg xs => aK (immL (cO n hp) xs) fun l => some (.agg l)
  | .tup xs => aK (immL (cO n hp) xs) fun l => some (.tup l)
  | .fn f xs => aK (immL (cO n hp) xs) fun l => some (.fn f l)
  | .mp _ => none
  | x => some x
def gR (hp : H) (xs : List AV) : Option (List AV) := immM (cO 4 hp) xs
def dW (hp : H) (x : AV) : Option (AV × H) :=
 match x with
 | .os id off n e _ => aK (hp id) fun o => match o with | .cells xs _ => aN (off + n * e ≤ xs.length) (some (.sl n ((xs.drop off).take (n * e)), upd hp id (.cells xs false)))
 | .op id off => aK (hp id) fun o => match o with | .cells xs _ => some (.rp (xs.drop off), upd hp id (.cells xs false))
 | .v (.slice none 0 0) => some (.sl 0 [], hp)
 | x => some (x, hp)
def fV (hp : H) : List AV → Option (List AV × H)
 | [] => some ([], hp)
 | x :: r => aK (dW hp x) fun y => aK (fV y.2 r) fun l => some (y.1 :: l.1, l.2)
def hsel (m nx n : Nat) (hp : H) : H :=
 match m with
 | 0 => hp
 | 1 => fun _ => none
 | _ => fun id => if nx ≤ id ∧ id < nx + n ∧ (m / 2 - 1).testBit (id - nx) = false then none else hp id
def callA (Γ : Env) (f : FuncId) (args : List AV) (m nx n : Nat) (hp : H) (id cx : Nat) : Option (AV × H × Nat) :=
 match Γ f with
 | some (.pure true g) => aK (gR (hsel m nx n hp) args) fun as_ => aK (g as_) fun r => aN (r.noMem = true) (some (r, hp, cx))
 | some (.pure false g) => if m = 0 then aK (fV hp args) fun ah => aK (g ah.1) fun r => some (r, ah.2, cx)
   else aK (fW (fun _ => none) args) fun as_ => aK (g as_) fun r => some (r, hp, cx)
 | some (.fresh true g) => aK (gR (hsel m nx n hp) args) fun as_ => aK (g as_) fun r => aN (AV.noMem.noMemL r.2.2 = true) (some (.os id 0 r.1 r.2.1 true, upd hp id (.cells r.2.2 true), cx))
 | some (.fresh false g) => if m = 0 then aK (fV hp args) fun ah => aK (g ah.1) fun r => some (.os id 0 r.1 r.2.1 true, upd ah.2 id (.cells r.2.2 true), cx)
   else aK (fW (fun _ => none) args) fun as_ => aK (g as_) fun r => some (.os id 0 r.1 r.2.1 true, upd hp id (.cells r.2.2 true), cx)
 | some (.heap g) => aN (m = 0) (g args hp cx)
 | none => none
def callOp (Γ : Env) (op : Op) (ρ : Operand → AV) (m nx n : Nat) (hp : H) (id cx : Nat) : Option (AV × H × Nat) :=
 match op with
 | .call c => match c.callee with
  | .value f => match ρ f with
   | .fn f caps => callA Γ f (c.args.toList.map ρ ++ caps) m nx n hp id cx
   | _ => none
  | _ => none
 | _ => none
def eff (P : Program) (Γ : Env) (op : Op) (ρ : Operand → AV) (m nx n : Nat) (hp : H) (id cx : Nat) : Option (AV × H × Nat) :=
 match cls P op with
 | .pure => aK (dI P op ρ) fun x => some (x, hp, cx)
 | .read => aK (readOp P op ρ (hsel m nx n hp)) fun x => some (x, hp, cx)
 | .new => aK (newOp P op ρ id) fun p => some (p.1, upd hp id (.cells p.2 true), cx)
 | .write => aK (fR P op ρ hp id) fun p => some (p.1, p.2, cx)
 | .call => callOp Γ op ρ m nx n hp id cx
def guardB (want : Bool) : AV → Option Bool
 | .b x => some (x == want)
 | .tup [] => some false
 | _ => none
def gdO (ops : Array Oper) (fr : List (Nat × AV)) (o : Oper) : Option Bool :=
 match o.guard with
 | none => some true
 | some (j, want) => match (ops[j]?).bind (·.dst) with
  | some t => guardB want (dG fr t)
  | none => none
def stepO (P : Program) (Γ : Env) (GL : Nat → Option (List AV)) (md : Nat → Nat) (ops : Array Oper) (k : Nat) (o : Oper) (s : S) : Option S :=
 aK (gdO ops s.fr o) fun b => match b with
  | true => aK (eff P Γ o.op (ev GL s.fr) (md k) s.nx ops.size s.hp (s.nx + k) s.cx) fun r => some { fr := fA o.dst r.1 s.fr, hp := r.2.1, nx := s.nx, cx := r.2.2 }
  | false => some { s with fr := fA o.dst (.tup []) s.fr }
structure R (c : Ctx) (σ0 : Nat → Loc) (I0 : Nat → Prop) (w0 : World) (rem : Nat → Prop) (s : S) (a : Act) (w : World) : Prop where
 ex : ∃ σ I, Inv c σ I w s.hp (fun id => s.cx ≤ id ∨ (∃ k, rem k ∧ id = s.nx + k) ∨ c.u0 id) ∧ Grow σ0 I0 w0 σ I w ∧ (∀ t, Rel σ I w (dG s.fr t) (a.tmps.getD t undef))
 defers : a.defers = c.df
 size : a.tmps.size = c.nt
 lt : ∀ k, rem k → s.nx + k < s.cx
 lt0 : ∀ id, c.u0 id → id < s.nx ∧ id < s.cx
theorem ev_rel {c : Ctx} {σ : Nat → Loc} {I : Nat → Prop} {w : World} {hp : H} {un : Nat → Prop} {fr : List (Nat × AV)} {a : Act} (hi : Inv c σ I w hp un) (hf : ∀ t, Rel σ I w (dG fr t) (a.tmps.getD t undef)) :
  ∀ y, Rel σ I w (ev c.GL fr y) (a.eval y) := by
 intro y
 cases y with
 | tmp t => exact hf t
 | const v => exact rel_ofV v
 | global g =>
  simp only [ev, Act.eval]
  split
  ·rename_i xs h; exact hi.glob g xs h
  ·exact .junk _
 | func f => exact .fn f [] #[] rfl (fun i h => by simp at h)
theorem put_rel {σ : Nat → Loc} {I : Nat → Prop} {w : World} {fr : List (Nat × AV)} {a : Act} {dst : Option Tmp} {x : AV} {v : Value} {n : Nat} (hn : a.tmps.size = n) (hd : ∀ d, dst = some d → d < n)
  (hx : dst.isSome = true → Rel σ I w x v) (hf : ∀ t, Rel σ I w (dG fr t) (a.tmps.getD t undef)) : ∀ t, Rel σ I w (dG (fA dst x fr) t) ((a.put dst v).tmps.getD t undef) := by
 intro t
 cases dst with
 | none => exact hf t
 | some d =>
  simp only [fA, dG, Act.put]
  have hlt := hd d rfl
  split
  ·rename_i e; subst e
   have : (a.tmps.setIfInBounds d v).getD d undef = v := by
    rw [Array.getD_eq_getD_getElem?, Array.getElem?_setIfInBounds_self_of_lt (by rw [hn]; exact hlt)]; rfl
   rw [this]; exact hx rfl
  ·rename_i e
   have : (a.tmps.setIfInBounds d v).getD t undef = a.tmps.getD t undef := by
    rw [Array.getD_eq_getD_getElem?, Array.getElem?_setIfInBounds_ne e, ← Array.getD_eq_getD_getElem?]
   rw [this]; exact hf t
theorem size_put (a : Act) (dst : Option Tmp) (v : Value) : (a.put dst v).tmps.size = a.tmps.size := by
 cases dst <;> simp [Act.put]
theorem defers_put (a : Act) (dst : Option Tmp) (v : Value) : (a.put dst v).defers = a.defers := by
 cases dst <;> rfl
def cJ (P : Program) (f : FuncId) : Prop := ∃ fn, P.funcs[f]? = some fn ∧ (fn.name == "runtime.NumGoroutine") = false ∧ fn.body.isNone = false
def cL (P : Program) (GL : Nat → Option (List AV)) (f : FuncId) (g : List AV → Option AV) : Prop :=
 ∀ (σ : Nat → Loc) (I : Nat → Prop) (w : World) (nx : Nat) (args : List AV) (vals : Array Value) (r : AV),
  (∀ id, nx ≤ id → σ id = .unset) → (∀ k, I k → k < w.heap.size) → (∀ g xs, GL g = some xs → Rel σ I w (.rp xs) (.pointer (some ⟨g, 0, none⟩))) →
  vals.size = args.length → (∀ i (_h : i < args.length), Rel σ I w args[i] (vals.getD i undef)) → g args = some r →
  Calls P f vals w fun e w' => ∃ v σ' I', e = .returned v ∧ w'.os = w.os ∧ w'.tape = w.tape ∧ w'.output = w.output ∧ w.heap.size ≤ w'.heap.size ∧ (∀ k, k < w.heap.size → w'.heap[k]? = w.heap[k]?) ∧
   (∀ id, id < nx → σ' id = σ id) ∧ (∀ k, I' k → I k ∨ w.heap.size ≤ k) ∧ (∀ k, I' k → k < w'.heap.size) ∧ Rel σ' I' w' r v
def dH (P : Program) (GL : Nat → Option (List AV)) (f : FuncId) (g : List AV → Option (Nat × Nat × List AV)) : Prop :=
 ∀ (σ : Nat → Loc) (I : Nat → Prop) (w : World) (nx : Nat) (args : List AV) (vals : Array Value) (n e : Nat) (xs : List AV),
  (∀ id, nx ≤ id → σ id = .unset) → (∀ k, I k → k < w.heap.size) → (∀ g xs, GL g = some xs → Rel σ I w (.rp xs) (.pointer (some ⟨g, 0, none⟩))) →
  vals.size = args.length → (∀ i (_h : i < args.length), Rel σ I w args[i] (vals.getD i undef)) → g args = some (n, e, xs) →
  Calls P f vals w fun e' w' => ∃ v σ' I', e' = .returned v ∧ w'.os = w.os ∧ w'.tape = w.tape ∧ w'.output = w.output ∧ w.heap.size ≤ w'.heap.size ∧ (∀ k, k < w.heap.size → w'.heap[k]? = w.heap[k]?) ∧
   (∀ id, id < nx → σ' id = σ id) ∧ (∀ k, I' k → I k ∨ w.heap.size ≤ k) ∧ (∀ k, I' k → k < w'.heap.size) ∧
   (((v = .slice none 0 0 ∨ ∃ a, v = .slice (some a) 0 0) ∧ n = 0 ∧ xs = []) ∨ ∃ blk base sz cap, v = .slice (some ⟨blk, base, none⟩) n cap ∧ n ≤ cap ∧ base + cap * e ≤ sz ∧ w.heap.size ≤ blk ∧ ¬ I' blk ∧ RowAt σ' I' w' xs blk base sz)
def cQ (P : Program) (GL : Nat → Option (List AV)) (f : FuncId) (g : List AV → H → Nat → Option (AV × H × Nat)) : Prop :=
 ∀ (c : Ctx) (σ : Nat → Loc) (I : Nat → Prop) (w : World) (hp : H) (nx : Nat) (args : List AV) (vals : Array Value) (r : AV) (hp' : H) (nx' : Nat),
  c.GL = GL → Inv c σ I w hp (fun id => nx ≤ id) → vals.size = args.length → (∀ i (_h : i < args.length), Rel σ I w args[i] (vals.getD i undef)) → g args hp nx = some (r, hp', nx') →
  nx ≤ nx' ∧ Calls P f vals w fun e w' => ∃ v σ' I', e = .returned v ∧ Inv c σ' I' w' hp' (fun id => nx' ≤ id) ∧ Rel σ' I' w' r v ∧ Grow σ I w σ' I' w' ∧ (∀ id, id < nx → σ id = .unset → σ' id = .unset)
def eJ (P : Program) (GL : Nat → Option (List AV)) (Γ : Env) : Prop :=
 ∀ f s, Γ f = some s → cJ P f ∧ match s with
  | .pure _ g => cL P GL f g
  | .fresh _ g => dH P GL f g
  | .heap g => cQ P GL f g
section
variable {P : Program} {c : Ctx} {σ : Nat → Loc} {I : Nat → Prop} {w : World} {hp : H} {un : Nat → Prop}
theorem Inv.extend {w' : World} (h : Inv c σ I w hp un) (hos : w'.os = w.os) (ht : w'.tape = w.tape) (ho : w'.output = w.output) (hs : w.heap.size ≤ w'.heap.size) (hk : ∀ k, k < w.heap.size → w'.heap[k]? = w.heap[k]?)
  (I' : Nat → Prop) (hI : ∀ k, I k → I' k) (hI2 : ∀ k, I' k → I k ∨ (w.heap.size ≤ k ∧ k < w'.heap.size)) : Inv c σ I' w' hp un := by
 have hw : ∀ k, I k → w'.heap[k]? = w.heap[k]? := fun k hi => hk k (h.ilt k hi)
 refine ⟨h.ext, fun k hk => hI k (h.imm k hk), fun k hi => by rw [hw k (h.imm k hi)]; exact h.iw k hi, by rw [hos]; exact h.os, by rw [ht]; exact h.tape, by rw [ho]; exact h.output, Nat.le_trans h.size hs,
  fun k h1 h2 => by rw [hk k (by have := h.size; omega)]; exact h.old k h1 h2, fun k hi => ?_, fun id o hid => ?_, h.inj, h.lim, h.un, fun g xs hg => (h.glob g xs hg).mono (fun _ _ => rfl) hI hw, fun k hi => ?_⟩
 ·rcases hI2 k hi with hi | hi
  ·have := h.ilt k hi; omega
  ·exact hi.2
 ·exact (h.own id o hid).mono (fun _ _ => rfl) hI hw fun blk base sz e => by
   have hlt := (h.own id o hid).lt e
   exact ⟨hk blk hlt, fun _ hn hb => by
    rcases hI2 blk hb with hb | hb
    ·exact hn hb
    ·omega⟩
 ·rcases hI2 k hi with hi | hi
  ·exact h.inew k hi
  ·exact .inr (.inl (by have := h.size; omega))
theorem hsel_sub (m nx n : Nat) (hp : H) : ∀ id o, hsel m nx n hp id = some o → hp id = some o := by
 intro id o h
 unfold hsel at h
 split at h
 ·exact h
 ·cases h
 ·replace h : (if nx ≤ id ∧ id < nx + n ∧ (m / 2 - 1).testBit (id - nx) = false then none else hp id) = some o := h
  split at h
  ·cases h
  ·exact h
theorem Inv.adopt (h : Inv c σ I w hp un) {id : Nat} (hu : un id) {xs : List AV} {blk base sz : Nat} (hrow : RowAt σ I w xs blk base sz) (hnI : ¬ I blk) (hlim : c.w0.heap.size ≤ blk)
  (hother : ∀ k o blk' base' sz', hp k = some o → σ k = .at_ blk' base' sz' → blk' ≠ blk) :
  Inv c (cE σ id (.at_ blk base sz)) I w (upd hp id (.cells xs true)) (fun k => un k ∧ k ≠ id) := by
 have hσ := dM (l := .at_ blk base sz) (h.un id hu)
 have get : ∀ k o, upd hp id (.cells xs true) k = some o → (k = id ∧ o = .cells xs true) ∨ (k ≠ id ∧ hp k = some o) := by
  intro k o hk
  rw [bJ] at hk
  split at hk
  ·rename_i e; exact .inl ⟨e, (Option.some.inj hk).symm⟩
  ·rename_i e; exact .inr ⟨e, hk⟩
 refine { h with ext := fun k hk => ?_, own := fun k o hk => ?_, inj := ?_, lim := ?_, un := ?_, glob := fun g ys hg => (h.glob g ys hg).mono hσ (fun _ h => h) fun _ _ => rfl }
 ·have := h.ext k hk
  rw [hσ k (by rw [this]; exact hk), this]
 ·rcases get k o hk with ⟨rfl, rfl⟩ | ⟨e1, e2⟩
  ·simp only [cF, cE, if_true]
   exact ⟨hrow.mono hσ (fun _ h => h) (fun _ _ => rfl) rfl, fun _ => hnI, fun hm => by simp at hm⟩
  ·exact (h.own k o e2).mono hσ (fun _ h => h) (fun _ _ => rfl) fun _ _ _ _ => ⟨rfl, fun _ h => h⟩
 ·intro k k' xs' o' blk1 base1 sz1 base2 sz2 h1 h2 hn e1 e2
  rcases get k _ h1 with ⟨rfl, _⟩ | ⟨a1, a2⟩
  ·rcases get k' _ h2 with ⟨rfl, _⟩ | ⟨b1, b2⟩
   ·exact hn rfl
   ·simp only [cE, if_true, Loc.at_.injEq] at e1
    simp only [cE, if_neg b1] at e2
    exact hother k' o' blk1 base2 sz2 b2 e2 e1.1.symm
  ·simp only [cE, if_neg a1] at e1
   rcases get k' _ h2 with ⟨rfl, _⟩ | ⟨b1, b2⟩
   ·simp only [cE, if_true, Loc.at_.injEq] at e2
    exact hother k _ blk1 base1 sz1 a2 e1 e2.1.symm
   ·simp only [cE, if_neg b1] at e2
    exact h.inj k k' xs' o' blk1 base1 sz1 base2 sz2 a2 b2 hn e1 e2
 ·intro k xs' blk1 base1 sz1 h1 e1
  rcases get k _ h1 with ⟨rfl, _⟩ | ⟨a1, a2⟩
  ·simp only [cE, if_true, Loc.at_.injEq] at e1
   rw [← e1.1]; exact .inl hlim
  ·simp only [cE, if_neg a1] at e1
   exact h.lim k xs' blk1 base1 sz1 a2 e1
 ·intro k ⟨hk, hn⟩
  simp only [cE, if_neg hn]
  exact h.un k hk
theorem borrow_sound {Ib : Nat → Prop} (hi : Inv c σ I w hp un) (hIb : ∀ k, I k → Ib k) (hIb2 : ∀ id o blk base sz, hp id = some o → σ id = .at_ blk base sz → Ib blk) :
  ∀ {x y : AV} {v : Value}, dD hp x = some y → Rel σ I w x v → Rel σ Ib w y v := by
 intro x y v h hr
 have hmono : Rel σ Ib w x v := hr.mono (fun _ _ => rfl) hIb (fun _ _ => rfl)
 unfold dD at h
 split at h
 ·rename_i id off n e g
  replace h := aJ h; obtain ⟨o, ho, h⟩ := h
  obtain ⟨xs, mt⟩ := o
  simp only at h
  replace h := aP h; obtain ⟨hfit, h⟩ := h
  obtain rfl := Option.some.inj h
  have hown := hi.own id _ ho
  have hlen : ((xs.drop off).take (n * e)).length = n * e := by simp; omega
  cases hr with
  | os _ _ _ _ _ blk base sz cap g1 g2 g3 =>
   have hrow := fH hown g1
   refine .sl n _ blk (base + off) cap (fun i => (w.cell? ⟨blk, base + off + i, none⟩).getD undef) (hIb2 id _ _ _ _ ho g1) g2 (fun i hi => ?_) (fun i hi => ?_) (fun i hi => ?_)
   ·rw [hlen] at hi
    obtain ⟨v, hv, _⟩ := hrow.get (off + i) (by omega)
    rw [← Nat.add_assoc] at hv; rw [hv]; rfl
   ·rw [hlen] at hi
    rw [getElem_take', getElem_drop']; exact (hrow.get (off + i) (by omega)).choose_spec.2.1
   ·rw [hlen] at hi
    rw [getElem_take', getElem_drop']
    obtain ⟨v, hv, _, hrel⟩ := hrow.get (off + i) (by omega)
    rw [← Nat.add_assoc] at hv; rw [hv]; exact hrel.mono (fun _ _ => rfl) hIb (fun _ _ => rfl)
  | osnil => simp only [Nat.zero_mul, List.take_zero]; exact .slnil
  | oszero _ _ _ _ a => simp only [Nat.zero_mul, List.take_zero]; exact .slzero a
 ·rename_i id off
  replace h := aJ h; obtain ⟨o, ho, h⟩ := h
  obtain ⟨xs, mt⟩ := o
  simp only at h
  obtain rfl := Option.some.inj h
  have hown := hi.own id _ ho
  obtain ⟨blk, base, sz, g1, rfl⟩ := op_inv hr
  have hrow := fH hown g1
  refine .rp _ blk (base + off) (fun i => (w.cell? ⟨blk, base + off + i, none⟩).getD undef) (hIb2 id _ _ _ _ ho g1) (fun i hi => ?_) (fun i hi => ?_) (fun i hi => ?_)
  ·simp at hi
   obtain ⟨v, hv, _⟩ := hrow.get (off + i) (by omega)
   rw [← Nat.add_assoc] at hv; rw [hv]; rfl
  ·simp at hi
   rw [getElem_drop']; exact (hrow.get (off + i) (by omega)).choose_spec.2.1
  ·simp at hi
   rw [getElem_drop']
   obtain ⟨v, hv, _, hrel⟩ := hrow.get (off + i) (by omega)
   rw [← Nat.add_assoc] at hv; rw [hv]; exact hrel.mono (fun _ _ => rfl) hIb (fun _ _ => rfl)
 ·obtain rfl := Option.some.inj h
  exact hmono
theorem borrowL_sound {Ib : Nat → Prop} (hi : Inv c σ I w hp un) (hIb : ∀ k, I k → Ib k) (hIb2 : ∀ id o blk base sz, hp id = some o → σ id = .at_ blk base sz → Ib blk) :
  ∀ (xs : List AV) {ys : List AV} (vs : Nat → Value), fW hp xs = some ys → (∀ i (_h : i < xs.length), Rel σ I w xs[i] (vs i)) → ys.length = xs.length ∧ ∀ i (_h : i < ys.length), Rel σ Ib w ys[i] (vs i)
 | [], ys, vs, h, _ => by obtain rfl := Option.some.inj h; exact ⟨rfl, fun i h => by simp at h⟩
 | x :: r, ys, vs, h, hr => by
  simp only [fW] at h
  replace h := aJ h; obtain ⟨y, hy, h⟩ := h
  replace h := aJ h; obtain ⟨l, hl, h⟩ := h
  obtain rfl := Option.some.inj h
  have h0 := hr 0 (by simp)
  obtain ⟨e1, e2⟩ := borrowL_sound hi hIb hIb2 r (fun i => vs (i + 1)) hl (fun i hi => by have := hr (i + 1) (by simpa using hi); simpa using this)
  refine ⟨by simp [e1], fun i hi' => ?_⟩
  cases i with
  | zero => exact borrow_sound hi hIb hIb2 hy h0
  | succ k => exact e2 k (by simpa using hi')
theorem imm_sound {c : Ctx} {σ : Nat → Loc} {I I' : Nat → Prop} {w : World} {hp : H} {un : Nat → Prop} (hi : Inv c σ I w hp un) (hI : ∀ k, I k → I' k) (hI2 : ∀ id o blk base sz, hp id = some o → σ id = .at_ blk base sz → I' blk) :
  ∀ (n : Nat) {x y : AV} {v : Value}, cO n hp x = some y → Rel σ I w x v → Rel σ I' w y v ∧ (x.isCell = true → y.isCell = true) := by
 intro n
 induction n with
 | zero => intro x y v h; simp [cO] at h
 | succ n ih =>
  intro x y v h hr
  have hmono : ∀ {x : AV} {v : Value}, Rel σ I w x v → Rel σ I' w x v := fun h => h.mono (fun _ _ => rfl) hI (fun _ _ => rfl)
  have immMs : ∀ (xs : List AV) {ys : List AV}, immM (cO n hp) xs = some ys → ys.length = xs.length ∧ ∀ (f : Nat → Value), (∀ i (_h : i < xs.length), Rel σ I w xs[i] (f i)) → ∀ i (_h : i < ys.length), Rel σ I' w ys[i] (f i) ∧ ∀ h2 : i < xs.length, xs[i].isCell = true → ys[i].isCell = true := by
   intro xs
   induction xs with
   | nil => intro ys h; obtain rfl := Option.some.inj h; exact ⟨rfl, fun f _ i h => by simp at h⟩
   | cons a r ihr =>
    intro ys h
    simp only [immM] at h
    replace h := aJ h; obtain ⟨b, hb, h⟩ := h
    replace h := aJ h; obtain ⟨l, hl, h⟩ := h
    obtain rfl := Option.some.inj h
    obtain ⟨e1, e2⟩ := ihr hl
    refine ⟨by simp [e1], fun f hf i hi' => ?_⟩
    cases i with
    | zero => exact ⟨(ih hb (hf 0 (by simp))).1, fun _ hc => (ih hb (hf 0 (by simp))).2 hc⟩
    | succ k =>
     have := e2 (fun i => f (i + 1)) (fun i hi => by have := hf (i + 1) (by simpa using hi); simpa using this) k (by simpa using hi')
     exact ⟨this.1, fun h2 hc => this.2 (by simpa using h2) (by simpa using hc)⟩
  have immLs : ∀ (xs : List AV) {ys : List AV}, immL (cO n hp) xs = some ys → ys.length = xs.length ∧ ∀ (f : Nat → Value), (∀ i (_h : i < xs.length), Rel σ I w xs[i] (f i)) → ∀ i (_h : i < ys.length), Rel σ I' w ys[i] (f i) ∧ ∀ h2 : i < xs.length, xs[i].isCell = true → ys[i].isCell = true := by
   intro xs ys h
   unfold immL at h
   split at h
   ·obtain rfl := Option.some.inj h
    exact ⟨rfl, fun f hf i hi => ⟨hmono (hf i hi), fun _ h => h⟩⟩
   ·exact immMs xs h
  have id_case : some x = some y → Rel σ I' w y v ∧ (x.isCell = true → y.isCell = true) := by
   intro h; obtain rfl := Option.some.inj h; exact ⟨hmono hr, fun h => h⟩
  simp only [cO] at h
  split at h
  ·rename_i id off m e g
   replace h := aJ h; obtain ⟨o, ho, h⟩ := h
   obtain ⟨xs, mt⟩ := o
   simp only at h
   replace h := aP h; obtain ⟨hfit, h⟩ := h
   replace h := aJ h; obtain ⟨l, hl, h⟩ := h
   obtain rfl := Option.some.inj h
   refine ⟨?_, fun _ => rfl⟩
   obtain ⟨e1, e2⟩ := immLs _ hl
   have hown := hi.own id _ ho
   have hlen : ((xs.drop off).take (m * e)).length = m * e := by simp; omega
   cases hr with
   | os _ _ _ _ _ blk base sz cap g1 g2 g3 =>
    have hrow := fH hown g1
    have hget : ∀ i (_h : i < ((xs.drop off).take (m * e)).length), Rel σ I w ((xs.drop off).take (m * e))[i] ((w.cell? ⟨blk, base + off + i, none⟩).getD undef) ∧ w.cell? ⟨blk, base + off + i, none⟩ = some ((w.cell? ⟨blk, base + off + i, none⟩).getD undef) ∧ ((xs.drop off).take (m * e))[i].isCell = true := by
     intro i hi
     rw [hlen] at hi
     rw [getElem_take', getElem_drop']
     obtain ⟨v, hv, hc, hrel⟩ := hrow.get (off + i) (by omega)
     rw [← Nat.add_assoc] at hv
     rw [hv]; exact ⟨hrel, rfl, hc⟩
    have := e2 (fun i => (w.cell? ⟨blk, base + off + i, none⟩).getD undef) (fun i hi => (hget i hi).1)
    exact .sl m l blk (base + off) cap _ (hI2 id _ _ _ _ ho g1) g2 (fun i hi => (hget i (by rw [← e1]; exact hi)).2.1) (fun i hi => (this i hi).2 (by rw [← e1]; exact hi) (hget i (by rw [← e1]; exact hi)).2.2) (fun i hi => (this i hi).1)
   | osnil =>
    have : l = [] := List.eq_nil_of_length_eq_zero (by rw [e1]; simp)
    subst this; exact .slnil
   | oszero _ _ _ _ a =>
    have : l = [] := List.eq_nil_of_length_eq_zero (by rw [e1]; simp)
    subst this; exact .slzero a
  ·rename_i id off
   replace h := aJ h; obtain ⟨o, ho, h⟩ := h
   obtain ⟨xs, mt⟩ := o
   simp only at h
   replace h := aJ h; obtain ⟨l, hl, h⟩ := h
   obtain rfl := Option.some.inj h
   refine ⟨?_, fun _ => rfl⟩
   obtain ⟨e1, e2⟩ := immLs _ hl
   have hown := hi.own id _ ho
   obtain ⟨blk, base, sz, g1, rfl⟩ := op_inv hr
   have hrow := fH hown g1
   have hget : ∀ i (_h : i < (xs.drop off).length), Rel σ I w (xs.drop off)[i] ((w.cell? ⟨blk, base + off + i, none⟩).getD undef) ∧ w.cell? ⟨blk, base + off + i, none⟩ = some ((w.cell? ⟨blk, base + off + i, none⟩).getD undef) ∧ (xs.drop off)[i].isCell = true := by
    intro i hi
    rw [getElem_drop']
    simp at hi
    obtain ⟨v, hv, hc, hrel⟩ := hrow.get (off + i) (by omega)
    rw [← Nat.add_assoc] at hv
    rw [hv]; exact ⟨hrel, rfl, hc⟩
   have := e2 (fun i => (w.cell? ⟨blk, base + off + i, none⟩).getD undef) (fun i hi => (hget i hi).1)
   exact .rp l blk (base + off) _ (hI2 id _ _ _ _ ho g1) (fun i hi => (hget i (by rw [← e1]; exact hi)).2.1) (fun i hi => (this i hi).2 (by rw [← e1]; exact hi) (hget i (by rw [← e1]; exact hi)).2.2) (fun i hi => (this i hi).1)
  ·obtain rfl := Option.some.inj h
   cases hr; exact ⟨.slnil, fun _ => rfl⟩
  ·rename_i xs
   replace h := aJ h; obtain ⟨l, hl, h⟩ := h
   obtain rfl := Option.some.inj h
   obtain ⟨e1, e2⟩ := immLs _ hl
   refine ⟨?_, fun h => h⟩
   cases hr with
   | agg _ vs h1 h2 h3 =>
    have := e2 (fun i => vs.getD i undef) h3
    exact .agg _ vs (by rw [h1, e1]) (fun i hi => (this i hi).2 (by rw [← e1]; exact hi) (h2 i (by rw [← e1]; exact hi))) (fun i hi => (this i hi).1)
  ·rename_i xs
   replace h := aJ h; obtain ⟨l, hl, h⟩ := h
   obtain rfl := Option.some.inj h
   obtain ⟨e1, e2⟩ := immLs _ hl
   refine ⟨?_, fun h => h⟩
   cases hr with
   | tup _ vs h1 h3 =>
    have := e2 (fun i => vs.getD i undef) h3
    exact .tup _ vs (by rw [h1, e1]) (fun i hi => (this i hi).1)
  ·rename_i f xs
   replace h := aJ h; obtain ⟨l, hl, h⟩ := h
   obtain rfl := Option.some.inj h
   obtain ⟨e1, e2⟩ := immLs _ hl
   refine ⟨?_, fun _ => rfl⟩
   cases hr with
   | fn _ _ vs h1 h3 =>
    have := e2 (fun i => vs.getD i undef) h3
    exact .fn _ _ vs (by rw [h1, e1]) (fun i hi => (this i hi).1)
  ·cases h
  ·exact id_case h
theorem borrowD_sound {Ib : Nat → Prop} (hi : Inv c σ I w hp un) (hIb : ∀ k, I k → Ib k) (hIb2 : ∀ id o blk base sz, hp id = some o → σ id = .at_ blk base sz → Ib blk) :
  ∀ (xs : List AV) {ys : List AV} (vs : Nat → Value), gR hp xs = some ys → (∀ i (_h : i < xs.length), Rel σ I w xs[i] (vs i)) → ys.length = xs.length ∧ ∀ i (_h : i < ys.length), Rel σ Ib w ys[i] (vs i)
 | [], ys, vs, h, _ => by obtain rfl := Option.some.inj h; exact ⟨rfl, fun i h => by simp at h⟩
 | x :: r, ys, vs, h, hr => by
  simp only [gR, immM] at h
  replace h := aJ h; obtain ⟨y, hy, h⟩ := h
  replace h := aJ h; obtain ⟨l, hl, h⟩ := h
  obtain rfl := Option.some.inj h
  have h0 := hr 0 (by simp)
  obtain ⟨e1, e2⟩ := borrowD_sound hi hIb hIb2 r (fun i => vs (i + 1)) hl (fun i hi => by have := hr (i + 1) (by simpa using hi); simpa using this)
  refine ⟨by simp [e1], fun i hi' => ?_⟩
  cases i with
  | zero => exact (imm_sound hi hIb hIb2 4 hy h0).1
  | succ k => exact e2 k (by simpa using hi')
theorem Inv.freeze' (h : Inv c σ I w hp un) {id : Nat} {xs : List AV} {mt : Bool} (ho : hp id = some (.cells xs mt)) :
  ∃ I', (∀ k, I k → I' k) ∧ Inv c σ I' w (upd hp id (.cells xs false)) un := by
 cases mt with
 | true => obtain ⟨I', a, _, b⟩ := h.freeze ho; exact ⟨I', a, b⟩
 | false =>
  refine ⟨I, fun _ h => h, ?_⟩
  have : upd hp id (.cells xs false) = hp := by
   funext k; rw [bJ]; split
   ·rename_i e; rw [e, ho]
   ·rfl
  rw [this]; exact h
theorem gN {x : AV} {v : Value} {p : AV × H} (h : dW hp x = some p) (hi : Inv c σ I w hp un) (hr : Rel σ I w x v) :
  ∃ I', (∀ k, I k → I' k) ∧ Inv c σ I' w p.2 un ∧ Rel σ I' w p.1 v := by
 have key : ∀ id xs mt, hp id = some (.cells xs mt) → ∀ y, dD hp x = some y → p = (y, upd hp id (.cells xs false)) → ((∃ off n e g, x = .os id off n e g) ∨ (∃ off, x = .op id off)) →
   ∃ I', (∀ k, I k → I' k) ∧ Inv c σ I' w p.2 un ∧ Rel σ I' w p.1 v := by
  intro id xs mt ho y hy hp' hx
  subst hp'
  obtain ⟨I', a1, a2⟩ := hi.freeze' ho
  refine ⟨I', a1, a2, ?_⟩
  have hpid : upd hp id (.cells xs false) id = some (.cells xs false) := by rw [bJ, if_pos rfl]
  have hy' : dD (fun k => if k = id then some (.cells xs false) else none) x = some y := by
   rcases hx with ⟨off, n, e, g, rfl⟩ | ⟨off, rfl⟩
   ·simp only [dD, ho, aX, if_pos] at hy ⊢; exact hy
   ·simp only [dD, ho, aX, if_pos] at hy ⊢; exact hy
  have hsub : Inv c σ I' w (fun k => if k = id then some (.cells xs false) else none) un := a2.sub (fun k o hk => by
   split at hk
   ·rename_i e; rw [bJ, if_pos e]; exact hk
   ·cases hk)
  refine borrow_sound hsub (fun _ h => h) (fun id' o blk base sz e1 e2 => ?_) hy' (hr.mono (fun _ _ => rfl) a1 (fun _ _ => rfl))
  split at e1
  ·rename_i e; subst e
   obtain rfl := Option.some.inj e1
   have := hsub.own id' (.cells xs false) (by simp only [if_pos])
   simp only [cF, e2] at this
   exact this.2.2 trivial
  ·cases e1
 unfold dW at h
 split at h
 ·rename_i id off n e g
  replace h := aJ h; obtain ⟨o, ho, h⟩ := h
  obtain ⟨xs, mt⟩ := o
  simp only at h
  replace h := aP h; obtain ⟨hfit, h⟩ := h
  obtain rfl := Option.some.inj h
  exact key id xs mt ho _ (by simp only [dD, ho, aX]; rw [cU _ hfit]) rfl (.inl ⟨_, _, _, _, rfl⟩)
 ·rename_i id off
  replace h := aJ h; obtain ⟨o, ho, h⟩ := h
  obtain ⟨xs, mt⟩ := o
  simp only at h
  obtain rfl := Option.some.inj h
  exact key id xs mt ho _ (by simp only [dD, ho, aX]) rfl (.inr ⟨_, rfl⟩)
 ·obtain rfl := Option.some.inj h
  cases hr; exact ⟨I, fun _ h => h, hi, .slnil⟩
 ·obtain rfl := Option.some.inj h
  exact ⟨I, fun _ h => h, hi, hr⟩
theorem frzArgs_sound : ∀ (xs : List AV) {hp : H} {I : Nat → Prop} {p : List AV × H} (vs : Nat → Value), fV hp xs = some p → Inv c σ I w hp un → (∀ i (_h : i < xs.length), Rel σ I w xs[i] (vs i)) →
  ∃ I', (∀ k, I k → I' k) ∧ Inv c σ I' w p.2 un ∧ p.1.length = xs.length ∧ ∀ i (_h : i < p.1.length), Rel σ I' w p.1[i] (vs i)
 | [], hp, I, p, vs, h, hi, _ => by obtain rfl := Option.some.inj h; exact ⟨I, fun _ h => h, hi, rfl, fun i h => by simp at h⟩
 | x :: r, hp, I, p, vs, h, hi, hr => by
  simp only [fV] at h
  replace h := aJ h; obtain ⟨y, hy, h⟩ := h
  replace h := aJ h; obtain ⟨l, hl, h⟩ := h
  obtain rfl := Option.some.inj h
  obtain ⟨I1, a1, a2, a3⟩ := gN hy hi (hr 0 (by simp))
  obtain ⟨I2, b1, b2, b3, b4⟩ := frzArgs_sound r (fun i => vs (i + 1)) hl a2 (fun i hi => by have := hr (i + 1) (by simpa using hi); simp only [List.getElem_cons_succ] at this; exact this.mono (fun _ _ => rfl) a1 (fun _ _ => rfl))
  refine ⟨I2, fun k hk => b1 k (a1 k hk), b2, by simp [b3], fun i hi' => ?_⟩
  cases i with
  | zero => exact a3.mono (fun _ _ => rfl) b1 (fun _ _ => rfl)
  | succ k => exact b4 k (by simpa using hi')
end
end Go.AX
