/-
  AX, part G: plain operations, and those that read, say what the model's do. AX, part Gm: maps: where a key stands, what is read off them, what is written into them. AX, part H: operations that read say what the model's do. AX, part J: operations that make memory say what the model's do. AX, part K: operations that write say what the model's do. AX, part Km: maps: what is laid into them, deleted, cleared, made. AX, part L: store, append, copy. AX, part M: states, steps, calls.
-/
import Derived.Test.YtkpgebeipmedeaaDoorBA
namespace Go.AX
open Go
section
variable {P : Program} {σ : Nat → Loc} {I : Nat → Prop} {w : World}

theorem b_inv {t : Bool} {v : Value} (h : Rel σ I w (.b t) v) : v = .bool t := by cases h; rfl
theorem s_inv {l : List (BitVec 8)} {v : Value} (h : Rel σ I w (.s l) v) : v = .string (encS l) := by cases h; rfl

theorem ix_run {x : AV} {v : Value} {n : Int} (h : ix x = some n) (hr : Rel σ I w x v) : ∃ k, (asIntOf v).run P w = .ok (k, n) w := by
  obtain ⟨k, rfl⟩ := ix_inv h hr; exact ⟨k, rfl⟩

inductive OptRel (σ : Nat → Loc) (I : Nat → Prop) (w : World) : Option AV → Option Value → Prop
  | none : OptRel σ I w .none .none
  | some {x : AV} {y : Value} : Rel σ I w x y → OptRel σ I w (.some x) (.some y)

theorem optRel_map {ρA : Operand → AV} {ρ : Operand → Value} (hρ : ∀ y, Rel σ I w (ρA y) (ρ y)) (l : Option Operand) : OptRel σ I w (l.map ρA) (l.map ρ) := by
  cases l with
  | none => exact .none
  | some x => exact .some (hρ x)

theorem bounds_run {vl vh : Option AV} {ul uh : Option Value} {isS : Bool} {len cap : Nat} {l h : Int} (hl : loIx vl = some l) (hh : hiIx vh len = some h)
    (rl : OptRel σ I w vl ul) (rh : OptRel σ I w vh uh)
    (h0 : 0 ≤ l) (h1 : l ≤ h) (h2 : h ≤ cap) :
    (Instr.sliceBounds isS len cap ul uh none).run P w = .ok (l.toNat, h.toNat, cap) w := by
  have e : (h.toNat : Int) = h := Int.toNat_of_nonneg (by omega)
  cases rl with
  | none =>
    simp only [loIx] at hl
    obtain rfl := Option.some.inj hl
    cases rh with
    | none =>
      simp only [hiIx] at hh
      obtain rfl := Option.some.inj hh
      rfl
    | some hr =>
      obtain ⟨k, rfl⟩ := ix_inv hh hr
      simp only [Instr.sliceBounds, Sem.run_bind, Sem.run_pure, Result.andThen_ok]
      rw [run_sliceBound w k h cap _ (by omega) h2]; rfl
  | some hr1 =>
    obtain ⟨k1, rfl⟩ := ix_inv hl hr1
    cases rh with
    | none =>
      simp only [hiIx] at hh
      obtain rfl := Option.some.inj hh
      simp only [Instr.sliceBounds, Sem.run_bind, Sem.run_pure, Result.andThen_ok, Option.isSome_none, Bool.false_eq_true, if_false]
      rw [run_sliceBound w k1 l len _ h0 h1]; simp only [Result.andThen_ok, Int.toNat_natCast]
    | some hr =>
      obtain ⟨k, rfl⟩ := ix_inv hh hr
      simp only [Instr.sliceBounds, Sem.run_bind, Sem.run_pure, Result.andThen_ok, Option.isSome_none, Bool.false_eq_true, if_false]
      rw [run_sliceBound w k h cap _ (by omega) h2, Result.andThen_ok, run_sliceBound w k1 l h.toNat _ h0 (by omega)]; rfl

theorem rel_sl_sub {xs : List AV} {n blk o cap l h z : Nat} {f : Nat → Value} (hb : I blk) (hc : ∀ i (_h : i < xs.length), w.cell? ⟨blk, o + i, none⟩ = some (f i))
    (h1 : ∀ i (_h : i < xs.length), xs[i].isCell = true) (h2 : ∀ i (_h : i < xs.length), Rel σ I w xs[i] (f i)) (hlh : l ≤ h) (hn : h ≤ n) (hcap : n ≤ cap) :
    Rel σ I w (.sl (h - l) ((xs.drop (l * z)).take ((h - l) * z))) (.slice (if cap = l then some ⟨blk, o, none⟩ else (some (⟨blk, o, none⟩ : Addr)).map (·.add (l * z))) (h - l) (cap - l)) := by
  by_cases e : cap = l
  · have e0 : h - l = 0 := by omega
    have e1 : cap - l = 0 := by omega
    rw [if_pos e, e0, e1]; simp only [Nat.zero_mul, List.take_zero]
    exact .slzero _
  · rw [if_neg e]
    simp only [Option.map_some, add_off]
    refine .sl _ _ blk (o + l * z) _ (fun i => f (l * z + i)) hb (by omega) (fun i hi => ?_) (fun i hi => ?_) (fun i hi => ?_)
    · simp at hi; rw [Nat.add_assoc]; exact hc _ (by omega)
    · rw [getElem_take', getElem_drop']; exact h1 _ _
    · rw [getElem_take', getElem_drop']; exact h2 _ _

theorem slice3_sound {t : TypeId} {x y mx : AV} {v um : Value} {vl vh : Option AV} {ul uh : Option Value} (h : sliceA3 P t x vl vh mx = some y) (hx : Rel σ I w x v)
    (rl : OptRel σ I w vl ul) (rh : OptRel σ I w vh uh) (rm : Rel σ I w mx um) :
    ∃ u, (Instr.sliceAt t v ul uh (some um)).run P w = .ok u w ∧ Rel σ I w y u := by
  unfold sliceA3 at h
  split at h
  · rename_i e hu
    obtain ⟨z, hz, h⟩ := obind_inv h
    have start : (Instr.sliceAt t v ul uh (some um)).run P w = (Instr.slice t v ul uh (some um)).run P w := by
      simp only [Instr.sliceAt, Sem.run_bind, run_underlying hu, Result.andThen_ok]
    cases x with
    | os id off n e' g =>
      obtain ⟨l, hl, h⟩ := obind_inv h
      obtain ⟨hh, hhh, h⟩ := obind_inv h
      obtain ⟨m, hm, h⟩ := obind_inv h
      obtain ⟨⟨c9, c0, c1, c2, c3, c4⟩, h⟩ := guardO_inv h
      obtain rfl := Option.some.inj h
      obtain ⟨km, rfl⟩ := ix_inv hm rm
      have bnd : ∀ cap : Nat, n ≤ cap → (Instr.sliceBounds true n cap ul uh (some (.int km m))).run P w = .ok (l.toNat, hh.toNat, m.toNat) w := by
        intro cap hcap
        have hm0 : (m.toNat : Int) = m := Int.toNat_of_nonneg (by omega)
        have hh0 : (hh.toNat : Int) = hh := Int.toNat_of_nonneg (by omega)
        cases rh with
        | none => cases c9
        | some hr =>
          obtain ⟨k, rfl⟩ := ix_inv hhh hr
          cases rl with
          | none =>
            simp only [loIx] at hl
            obtain rfl := Option.some.inj hl
            simp only [Instr.sliceBounds, Sem.run_bind, Sem.run_pure, Result.andThen_ok]
            rw [run_sliceBound w km m cap _ (by omega) (by omega), Result.andThen_ok, run_sliceBound w k hh m.toNat _ (by omega) (by omega)]; rfl
          | some hr1 =>
            obtain ⟨k1, rfl⟩ := ix_inv hl hr1
            simp only [Instr.sliceBounds, Sem.run_bind, Sem.run_pure]
            rw [run_sliceBound w km m cap _ (by omega) (by omega), Result.andThen_ok, run_sliceBound w k hh m.toNat _ (by omega) (by omega), Result.andThen_ok, run_sliceBound w k1 l hh.toNat _ c1 (by omega)]; rfl
      cases hx with
      | os _ _ _ _ _ blk base sz cap g1 g2 g3 =>
        have r := bnd cap g2
        refine ⟨_, by rw [start]; simp only [Instr.slice, Sem.run_bind, run_underlying hu, Result.andThen_ok, r, run_sizeOf' hz, Sem.run_pure]; rfl, ?_⟩
        by_cases e : m.toNat = l.toNat
        · have e0 : hh.toNat - l.toNat = 0 := by omega
          have e1 : m.toNat - l.toNat = 0 := by omega
          rw [if_pos e, e0, e1]
          exact .oszero _ _ _ _ _ (by rw [g1]; simp)
        · rw [if_neg e]
          simp only [Option.map_some, add_off]
          rw [Nat.add_assoc]
          refine .os _ _ _ _ _ blk base sz (m.toNat - l.toNat) g1 (by omega) (fun hg => ?_)
          replace g3 := g3 hg
          have h5 : l.toNat * z ≤ m.toNat * z := Nat.mul_le_mul_right _ (by omega)
          have h6 : m.toNat * z ≤ cap * z := Nat.mul_le_mul_right _ (by omega)
          rw [c0] at g3
          rw [Nat.sub_mul]; omega
      | osnil _ _ _ g1 =>
        have r := bnd 0 (Nat.le_refl _)
        have e1 : hh.toNat = 0 := by omega
        have e2 : l.toNat = 0 := by omega
        have e3 : m.toNat = 0 := by omega
        refine ⟨.slice none 0 0, ?_, ?_⟩
        · rw [start]
          simp only [Instr.slice, Sem.run_bind, run_underlying hu, Result.andThen_ok, r, run_sizeOf' hz, Sem.run_pure, e1, e2, e3]; rfl
        · rw [e1, e2]; simp only [Nat.sub_self, Nat.zero_mul, Nat.add_zero]; exact .osnil _ _ _ g1
      | oszero _ _ _ _ a g1 =>
        have r := bnd 0 (Nat.le_refl _)
        have e1 : hh.toNat = 0 := by omega
        have e2 : l.toNat = 0 := by omega
        have e3 : m.toNat = 0 := by omega
        refine ⟨.slice (some a) 0 0, ?_, ?_⟩
        · rw [start]
          simp only [Instr.slice, Sem.run_bind, run_underlying hu, Result.andThen_ok, r, run_sizeOf' hz, Sem.run_pure, e1, e2, e3]; rfl
        · rw [e1, e2]; exact .oszero _ _ _ _ _ g1
    | _ => cases h
  · cases h

theorem slice_sound {t : TypeId} {x y : AV} {v : Value} {vl vh : Option AV} {ul uh : Option Value} (h : sliceA P t x vl vh = some y) (hx : Rel σ I w x v)
    (rl : OptRel σ I w vl ul) (rh : OptRel σ I w vh uh) :
    ∃ u, (Instr.sliceAt t v ul uh none).run P w = .ok u w ∧ Rel σ I w y u := by
  unfold sliceA at h
  split at h
  · rename_i e hu
    obtain ⟨z, hz, h⟩ := obind_inv h
    have start : (Instr.sliceAt t v ul uh none).run P w = (Instr.slice t v ul uh none).run P w := by
      simp only [Instr.sliceAt, Sem.run_bind, run_underlying hu, Result.andThen_ok]
    split at h
    · rename_i n xs
      obtain ⟨l, hl, h⟩ := obind_inv h
      obtain ⟨hh, hhh, h⟩ := obind_inv h
      obtain ⟨⟨c1, c2, c3⟩, h⟩ := guardO_inv h
      obtain rfl := Option.some.inj h
      cases hx with
      | sl _ _ blk o cap f hb hle hc h1 h2 =>
        have r := bounds_run (P := P) (isS := true) hl hhh rl rh c1 c2 (cap := cap) (by omega)
        refine ⟨_, ?_, rel_sl_sub (z := z) hb hc h1 h2 (l := l.toNat) (h := hh.toNat) (by omega) (by omega) hle⟩
        rw [start]
        simp only [Instr.slice, Sem.run_bind, run_underlying hu, Result.andThen_ok, r, run_sizeOf' hz, Sem.run_pure]
      | slnil =>
        have r := bounds_run (P := P) (isS := true) hl hhh rl rh c1 c2 (cap := 0) (by omega)
        have e1 : hh.toNat = 0 := by omega
        have e2 : l.toNat = 0 := by omega
        refine ⟨.slice none 0 0, ?_, ?_⟩
        · rw [start]
          simp only [Instr.slice, Sem.run_bind, run_underlying hu, Result.andThen_ok, r, run_sizeOf' hz, Sem.run_pure, e1, e2]; rfl
        · rw [e1, e2]; simp only [Nat.sub_self, Nat.zero_mul, List.take_zero]; exact .slnil
      | slzero a =>
        have r := bounds_run (P := P) (isS := true) hl hhh rl rh c1 c2 (cap := 0) (by omega)
        have e1 : hh.toNat = 0 := by omega
        have e2 : l.toNat = 0 := by omega
        refine ⟨.slice (some a) 0 0, ?_, ?_⟩
        · rw [start]
          simp only [Instr.slice, Sem.run_bind, run_underlying hu, Result.andThen_ok, r, run_sizeOf' hz, Sem.run_pure, e1, e2]; rfl
        · rw [e1, e2]; simp only [Nat.sub_self, Nat.zero_mul, List.take_zero]; exact .slzero _
    · rename_i id off n e' g
      obtain ⟨l, hl, h⟩ := obind_inv h
      obtain ⟨hh, hhh, h⟩ := obind_inv h
      obtain ⟨⟨c0, c1, c2, c3⟩, h⟩ := guardO_inv h
      obtain rfl := Option.some.inj h
      cases hx with
      | os _ _ _ _ _ blk base sz cap g1 g2 g3 =>
        have r := bounds_run (P := P) (isS := true) hl hhh rl rh c1 c2 (cap := cap) (by omega)
        refine ⟨_, by rw [start]; simp only [Instr.slice, Sem.run_bind, run_underlying hu, Result.andThen_ok, r, run_sizeOf' hz, Sem.run_pure]; rfl, ?_⟩
        by_cases e : cap = l.toNat
        · have e0 : hh.toNat - l.toNat = 0 := by omega
          have e1 : cap - l.toNat = 0 := by omega
          rw [if_pos e, e0, e1]
          exact .oszero _ _ _ _ _ (by rw [g1]; simp)
        · rw [if_neg e]
          simp only [Option.map_some, add_off]
          rw [Nat.add_assoc]
          refine .os _ _ _ _ _ blk base sz (cap - l.toNat) g1 (by omega) (fun hg => ?_)
          replace g3 := g3 hg
          have h5 : l.toNat * z ≤ cap * z := Nat.mul_le_mul_right _ (by omega)
          rw [c0] at g3
          rw [Nat.sub_mul]; omega
      | osnil _ _ _ g1 =>
        have r := bounds_run (P := P) (isS := true) hl hhh rl rh c1 c2 (cap := 0) (by omega)
        have e1 : hh.toNat = 0 := by omega
        have e2 : l.toNat = 0 := by omega
        refine ⟨.slice none 0 0, ?_, ?_⟩
        · rw [start]
          simp only [Instr.slice, Sem.run_bind, run_underlying hu, Result.andThen_ok, r, run_sizeOf' hz, Sem.run_pure, e1, e2]; rfl
        · rw [e1, e2]; simp only [Nat.sub_self, Nat.zero_mul, Nat.add_zero]; exact .osnil _ _ _ g1
      | oszero _ _ _ _ a g1 =>
        have r := bounds_run (P := P) (isS := true) hl hhh rl rh c1 c2 (cap := 0) (by omega)
        have e1 : hh.toNat = 0 := by omega
        have e2 : l.toNat = 0 := by omega
        refine ⟨.slice (some a) 0 0, ?_, ?_⟩
        · rw [start]
          simp only [Instr.slice, Sem.run_bind, run_underlying hu, Result.andThen_ok, r, run_sizeOf' hz, Sem.run_pure, e1, e2]; rfl
        · rw [e1, e2]; exact .oszero _ _ _ _ _ g1
    · obtain ⟨l, hl, h⟩ := obind_inv h
      obtain ⟨hh, hhh, h⟩ := obind_inv h
      obtain ⟨⟨c1, c2, c3⟩, h⟩ := guardO_inv h
      obtain rfl := Option.some.inj h
      cases hx with
      | v _ =>
        have r := bounds_run (P := P) (isS := true) hl hhh rl rh c1 c2 (cap := 0) (by omega)
        have e1 : hh.toNat = 0 := by omega
        have e2 : l.toNat = 0 := by omega
        refine ⟨.slice none 0 0, ?_, .v _⟩
        rw [start]
        simp only [Instr.slice, Sem.run_bind, run_underlying hu, Result.andThen_ok, r, run_sizeOf' hz, Sem.run_pure, e1, e2]; rfl
    · cases h
  · rename_i n e hu
    obtain ⟨z, hz, h⟩ := obind_inv h
    obtain ⟨l, hl, h⟩ := obind_inv h
    obtain ⟨hh, hhh, h⟩ := obind_inv h
    obtain ⟨⟨c1, c2, c3⟩, h⟩ := guardO_inv h
    have r := bounds_run (P := P) (isS := false) hl hhh rl rh c1 c2 (cap := n) (by omega)
    split at h
    · rename_i xs
      obtain rfl := Option.some.inj h
      obtain ⟨blk, o, rfl⟩ := rp_inv hx
      cases hx with
      | rp _ _ _ f hb hc h1 h2 =>
        have := rel_sl_sub (σ := σ) (I := I) (w := w) (z := z) hb hc h1 h2 (l := l.toNat) (h := hh.toNat) (n := n) (cap := n) (by omega) (by omega) (Nat.le_refl _)
        refine ⟨_, ?_, this⟩
        simp only [Instr.sliceAt, Instr.sureAddr, Sem.run_bind, run_underlying hu, Result.andThen_ok, Sem.run_pure, r, run_sizeOf' hz]
        split <;> rfl
    · rename_i id off
      obtain rfl := Option.some.inj h
      obtain ⟨blk, base, sz, g1, rfl⟩ := op_inv hx
      refine ⟨_, by simp only [Instr.sliceAt, Instr.sureAddr, Sem.run_bind, run_underlying hu, Result.andThen_ok, Sem.run_pure, r, run_sizeOf' hz]; rfl, ?_⟩
      by_cases e : n = l.toNat
      · have e0 : hh.toNat - l.toNat = 0 := by omega
        have e1 : n - l.toNat = 0 := by omega
        rw [if_pos e, e0, e1]
        exact .oszero _ _ _ _ _ (by rw [g1]; simp)
      · rw [if_neg e, add_off, Nat.add_assoc]
        exact .os _ _ _ _ _ blk base sz (n - l.toNat) g1 (by omega) (fun hg => by cases hg)
    · cases h
  · rename_i hu
    split at h
    · rename_i c
      obtain ⟨l, hl, h⟩ := obind_inv h
      obtain ⟨hh, hhh, h⟩ := obind_inv h
      obtain ⟨⟨c1, c2, c3⟩, h⟩ := guardO_inv h
      obtain rfl := Option.some.inj h
      obtain rfl := s_inv hx
      have r := bounds_run (P := P) (isS := false) hl hhh rl rh c1 c2 (cap := c.length) c3
      refine ⟨.string ((encS c).extract l.toNat hh.toNat), ?_, ?_⟩
      · simp only [Instr.sliceAt, Sem.run_bind, run_underlying hu, Result.andThen_ok, Instr.slice, Option.isSome_none, Bool.false_eq_true, if_false, encS_size, r, Sem.run_pure]
      · have : (encS c).extract l.toNat hh.toNat = encS ((c.drop l.toNat).take (hh.toNat - l.toNat)) := by
          apply ByteArray.ext
          rw [ByteArray.data_extract]
          apply Array.ext'
          simp [encS, List.map_drop, List.map_take]
        rw [this]; exact .s _
    · cases h
  · cases h

theorem min2_inv {x y z : AV} {u v : Value} (h : min2A x y = some z) (hx : Rel σ I w x u) (hy : Rel σ I w y v) :
    ∃ k m n, u = .int k m ∧ v = .int k n ∧ Rel σ I w z (.int k (if n < m then n else m)) := by
  unfold min2A at h
  split at h
  · cases hx; cases hy; obtain rfl := Option.some.inj h; exact ⟨_, _, _, rfl, rfl, .i _⟩
  · rename_i a b
    cases hx; cases hy; obtain rfl := Option.some.inj h; refine ⟨_, _, _, rfl, rfl, ?_⟩
    have := Rel.w8 (σ := σ) (I := I) (w := w) (if b < a then b else a)
    rw [apply_ite BitVec.toNat, apply_ite (Nat.cast (R := Int))] at this
    simpa only [BitVec.lt_def, gt_iff_lt, Int.ofNat_lt] using this
  · rename_i a b
    cases hx; cases hy; obtain rfl := Option.some.inj h; refine ⟨_, _, _, rfl, rfl, ?_⟩
    have := Rel.w16 (σ := σ) (I := I) (w := w) (if b < a then b else a)
    rw [apply_ite BitVec.toNat, apply_ite (Nat.cast (R := Int))] at this
    simpa only [BitVec.lt_def, gt_iff_lt, Int.ofNat_lt] using this
  · rename_i a b
    cases hx; cases hy; obtain rfl := Option.some.inj h; refine ⟨_, _, _, rfl, rfl, ?_⟩
    have := Rel.w32 (σ := σ) (I := I) (w := w) (if b < a then b else a)
    rw [apply_ite BitVec.toNat, apply_ite (Nat.cast (R := Int))] at this
    simpa only [BitVec.lt_def, gt_iff_lt, Int.ofNat_lt] using this
  · rename_i a b
    cases hx; cases hy; obtain rfl := Option.some.inj h; refine ⟨_, _, _, rfl, rfl, ?_⟩
    have := Rel.w64 (σ := σ) (I := I) (w := w) (if b < a then b else a)
    rw [apply_ite BitVec.toNat, apply_ite (Nat.cast (R := Int))] at this
    simpa only [BitVec.lt_def, gt_iff_lt, Int.ofNat_lt] using this
  · cases h

theorem max2_inv {x y z : AV} {u v : Value} (h : max2A x y = some z) (hx : Rel σ I w x u) (hy : Rel σ I w y v) :
    ∃ k m n, u = .int k m ∧ v = .int k n ∧ Rel σ I w z (.int k (if n > m then n else m)) := by
  unfold max2A at h
  split at h
  · cases hx; cases hy; obtain rfl := Option.some.inj h; exact ⟨_, _, _, rfl, rfl, .i _⟩
  · rename_i a b
    cases hx; cases hy; obtain rfl := Option.some.inj h; refine ⟨_, _, _, rfl, rfl, ?_⟩
    have := Rel.w8 (σ := σ) (I := I) (w := w) (if a < b then b else a)
    rw [apply_ite BitVec.toNat, apply_ite (Nat.cast (R := Int))] at this
    simpa only [BitVec.lt_def, gt_iff_lt, Int.ofNat_lt] using this
  · rename_i a b
    cases hx; cases hy; obtain rfl := Option.some.inj h; refine ⟨_, _, _, rfl, rfl, ?_⟩
    have := Rel.w16 (σ := σ) (I := I) (w := w) (if a < b then b else a)
    rw [apply_ite BitVec.toNat, apply_ite (Nat.cast (R := Int))] at this
    simpa only [BitVec.lt_def, gt_iff_lt, Int.ofNat_lt] using this
  · rename_i a b
    cases hx; cases hy; obtain rfl := Option.some.inj h; refine ⟨_, _, _, rfl, rfl, ?_⟩
    have := Rel.w32 (σ := σ) (I := I) (w := w) (if a < b then b else a)
    rw [apply_ite BitVec.toNat, apply_ite (Nat.cast (R := Int))] at this
    simpa only [BitVec.lt_def, gt_iff_lt, Int.ofNat_lt] using this
  · rename_i a b
    cases hx; cases hy; obtain rfl := Option.some.inj h; refine ⟨_, _, _, rfl, rfl, ?_⟩
    have := Rel.w64 (σ := σ) (I := I) (w := w) (if a < b then b else a)
    rw [apply_ite BitVec.toNat, apply_ite (Nat.cast (R := Int))] at this
    simpa only [BitVec.lt_def, gt_iff_lt, Int.ofNat_lt] using this
  · cases h

theorem pure_sound {o : Oper} {ρA : Operand → AV} {ρ : Operand → Value} {x : AV} (h : pureOp P o.op ρA = some x) (hρ : ∀ y, Rel σ I w (ρA y) (ρ y)) :
    ∃ v, (execOp ρ o).run P w = .ok (.value v) w ∧ Rel σ I w x v := by
  obtain ⟨dst, op, type, pos, after, guard⟩ := o
  simp only at h
  unfold pureOp at h
  split at h
  case h_1 y => obtain rfl := Option.some.inj h; exact ⟨_, rfl, hρ _⟩
  case h_2 y => obtain rfl := Option.some.inj h; exact ⟨_, rfl, hρ _⟩
  case h_3 c a b =>
    split at h
    · rename_i t ht
      obtain rfl := Option.some.inj h
      have hc := hρ c; rw [ht] at hc
      have e : ρ c = .bool t := b_inv hc
      refine ⟨if t then ρ a else ρ b, ?_, ?_⟩
      · simp only [execOp, e, asBool, Sem.run_bind, Sem.run_pure, Result.andThen_ok]
      · cases t
        · exact hρ b
        · exact hρ a
    · cases h
  case h_4 y =>
    have hy := hρ y
    split at h
    · rename_i id off e
      obtain rfl := Option.some.inj h
      rw [e] at hy
      obtain ⟨blk, base, sz, _, hv⟩ := op_inv hy
      exact ⟨ρ y, by simp only [execOp, hv, Sem.run_pure], hy⟩
    · rename_i xs e
      obtain rfl := Option.some.inj h
      rw [e] at hy
      obtain ⟨blk, o, hv⟩ := rp_inv hy
      exact ⟨ρ y, by simp only [execOp, hv, Sem.run_pure], hy⟩
    · cases h
  case h_5 op t a b u =>
    obtain ⟨v, hv, hr⟩ := binT_sound (P := P) a b h (hρ a) (hρ b)
    exact ⟨v, runV hv, hr⟩
  case h_6 op u a =>
    obtain ⟨v, hv, hr⟩ := un_sound (P := P) h (hρ a)
    exact ⟨v, runV hv, hr⟩
  case h_7 src dst a =>
    obtain ⟨d, hd, h⟩ := obind_inv h
    split at h
    · rename_i k hk
      obtain ⟨k', m, v, hv, hrun, hr⟩ := toK_sound (P := P) h (hρ a)
      refine ⟨v, runV ?_, hr⟩
      rw [hv]
      simp only [convert, Sem.run_bind, run_underlying hd, run_underlying hk, Result.andThen_ok]
      cases d <;> exact hrun
    · rename_i hk
      split at h
      · rename_i l e
        obtain rfl := Option.some.inj h
        have ha := hρ a; rw [e] at ha
        have ev : ρ a = .string (encS l) := s_inv ha
        refine ⟨ρ a, runV ?_, ha⟩
        rw [ev]
        simp only [convert, Sem.run_bind, run_underlying hd, run_underlying hk, Result.andThen_ok]
        cases d <;> rfl
      · cases h
    · cases h
  case h_8 t a =>
    split at h
    · rename_i n e hu
      obtain ⟨hn, h⟩ := guardO_inv h
      have ha := hρ a
      split at h
      · rename_i m xs eq
        obtain ⟨hm, h⟩ := guardO_inv h
        obtain rfl := Option.some.inj h
        rw [eq] at ha
        cases hv : ρ a with
        | slice a0 len cap =>
          rw [hv] at ha
          cases ha with
          | sl _ _ blk o _ f hI hle hc h1 h2 =>
            refine ⟨_, runV ?_, .rp xs blk o f hI hc h1 h2⟩
            simp only [hv, Instr.arrayAt, Sem.run_bind, run_underlying hu, Result.andThen_ok]
            rw [Sem.run_ite, if_neg (by omega)]; rfl
          | slnil => omega
          | slzero => omega
        | _ => rw [hv] at ha; cases ha
      · rename_i id off m e' g eq
        obtain ⟨hm, h⟩ := guardO_inv h
        obtain rfl := Option.some.inj h
        rw [eq] at ha
        cases hv : ρ a with
        | slice a0 len cap =>
          rw [hv] at ha
          cases ha with
          | os _ _ _ _ _ blk base sz _ h1 h2 h3 =>
            refine ⟨_, runV ?_, .op id off blk base sz h1⟩
            simp only [hv, Instr.arrayAt, Sem.run_bind, run_underlying hu, Result.andThen_ok]
            rw [Sem.run_ite, if_neg (by omega)]; rfl
          | osnil => omega
          | oszero => omega
        | _ => rw [hv] at ha; cases ha
      · cases h
    · cases h
  case h_9 s a f =>
    split at h
    · rename_i fs hu
      obtain ⟨fd, hfd, h⟩ := obind_inv h
      obtain ⟨n, hn, h⟩ := obind_inv h
      obtain ⟨hpos, h⟩ := guardO_inv h
      have ha := hρ a
      have hne : ¬ n = 0 := by omega
      split at h
      · rename_i id off eq
        obtain rfl := Option.some.inj h
        rw [eq] at ha
        obtain ⟨blk, base, sz, hl, hv⟩ := op_inv ha
        refine ⟨_, runV ?_, .op id (off + fd.offset) blk base sz hl⟩
        simp only [hv, Instr.fieldAt, Instr.sureAddr, fieldPlace, Sem.run_bind, run_underlying hu, hfd, Result.andThen_ok, Sem.run_pure, run_sizeOf' hn, Sem.run_ite, if_neg hne, add_off, Nat.add_assoc]
      · rename_i xs eq
        obtain rfl := Option.some.inj h
        rw [eq] at ha
        obtain ⟨blk, o, hv⟩ := rp_inv ha
        rw [hv] at ha
        refine ⟨_, runV ?_, rel_rp_drop (k := fd.offset) ha⟩
        simp only [hv, Instr.fieldAt, Instr.sureAddr, fieldPlace, Sem.run_bind, run_underlying hu, hfd, Result.andThen_ok, Sem.run_pure, run_sizeOf' hn, Sem.run_ite, if_neg hne, add_off]
      · cases h
    · cases h
  case h_10 s a f =>
    split at h
    · rename_i fs hu
      obtain ⟨fd, hfd, h⟩ := obind_inv h
      have ha := hρ a
      split at h
      · rename_i cs eq
        rw [eq] at ha
        cases hv : ρ a with
        | agg vs =>
          rw [hv] at ha
          obtain ⟨v, hrun, hr⟩ := ldV_part h ha
          refine ⟨v, runV ?_, hr⟩
          simp only [hv, Instr.field, asAgg, Sem.run_bind, run_underlying hu, hfd, Result.andThen_ok, Sem.run_pure, hrun]
        | _ => rw [hv] at ha; cases ha
      · cases h
    · cases h
  case h_11 t a j =>
    obtain ⟨jn, hj, h⟩ := obind_inv h
    obtain ⟨k, hrj⟩ := ix_run (P := P) hj (hρ j)
    have ha := hρ a
    split at h
    · rename_i e hu
      obtain ⟨z, hz, h⟩ := obind_inv h
      split at h
      · rename_i n xs eq
        obtain ⟨hb, h⟩ := guardO_inv h
        obtain rfl := Option.some.inj h
        rw [eq] at ha
        cases hv : ρ a with
        | slice a0 len cap =>
          rw [hv] at ha
          cases ha with
          | sl _ _ blk o _ f hI hle hc h1 h2 =>
            refine ⟨_, runV ?_, rel_rp_drop (.rp xs blk o f hI hc h1 h2)⟩
            simp only [hv, Instr.indexAt, Sem.run_bind, hrj, Result.andThen_ok, run_underlying hu, Sem.run_pure]
            rw [Sem.run_ite, if_pos hb]
            simp only [Sem.run_bind, run_sizeOf' hz, Result.andThen_ok, Sem.run_pure, add_off]
          | slnil => omega
          | slzero => omega
        | _ => rw [hv] at ha; cases ha
      · rename_i id off n e' g eq
        obtain ⟨⟨he, hb⟩, h⟩ := guardO_inv h
        obtain rfl := Option.some.inj h
        rw [eq] at ha
        cases hv : ρ a with
        | slice a0 len cap =>
          rw [hv] at ha
          cases ha with
          | os _ _ _ _ _ blk base sz _ h1 h2 h3 =>
            refine ⟨_, runV ?_, .op id (off + jn.toNat * z) blk base sz h1⟩
            simp only [hv, Instr.indexAt, Sem.run_bind, hrj, Result.andThen_ok, run_underlying hu, Sem.run_pure]
            rw [Sem.run_ite, if_pos hb]
            simp only [Sem.run_bind, run_sizeOf' hz, Result.andThen_ok, Sem.run_pure, add_off, Nat.add_assoc]
          | osnil => omega
          | oszero => omega
        | _ => rw [hv] at ha; cases ha
      · cases h
    · rename_i n e hu
      obtain ⟨z, hz, h⟩ := obind_inv h
      obtain ⟨hb, h⟩ := guardO_inv h
      split at h
      · rename_i xs eq
        obtain rfl := Option.some.inj h
        rw [eq] at ha
        obtain ⟨blk, o, hv⟩ := rp_inv ha
        rw [hv] at ha
        refine ⟨_, runV ?_, rel_rp_drop ha⟩
        simp only [hv, Instr.indexAt, Instr.sureAddr, Sem.run_bind, hrj, Result.andThen_ok, run_underlying hu, Sem.run_pure]
        rw [Sem.run_ite, if_pos hb]
        simp only [Sem.run_bind, run_sizeOf' hz, Result.andThen_ok, Sem.run_pure, add_off]
      · rename_i id off eq
        obtain rfl := Option.some.inj h
        rw [eq] at ha
        obtain ⟨blk, base, sz, hl, hv⟩ := op_inv ha
        refine ⟨_, runV ?_, .op id (off + jn.toNat * z) blk base sz hl⟩
        simp only [hv, Instr.indexAt, Instr.sureAddr, Sem.run_bind, hrj, Result.andThen_ok, run_underlying hu, Sem.run_pure]
        rw [Sem.run_ite, if_pos hb]
        simp only [Sem.run_bind, run_sizeOf' hz, Result.andThen_ok, Sem.run_pure, add_off, Nat.add_assoc]
      · cases h
    · cases h
  case h_12 t a j =>
    obtain ⟨jn, hj, h⟩ := obind_inv h
    obtain ⟨k, hrj⟩ := ix_run (P := P) hj (hρ j)
    have ha := hρ a
    split at h
    · rename_i n e hu
      obtain ⟨z, hz, h⟩ := obind_inv h
      obtain ⟨hb, h⟩ := guardO_inv h
      split at h
      · rename_i cs eq
        rw [eq] at ha
        cases hv : ρ a with
        | agg vs =>
          rw [hv] at ha
          obtain ⟨v, hrun, hr⟩ := ldV_part h ha
          refine ⟨v, runV ?_, hr⟩
          simp only [hv, Instr.index, Sem.run_bind, hrj, Result.andThen_ok, run_underlying hu]
          rw [Sem.run_ite, if_pos hb]
          simp only [Sem.run_bind, run_sizeOf' hz, Result.andThen_ok, hrun]
        | _ => rw [hv] at ha; cases ha
      · cases h
    · rename_i hu
      split at h
      · rename_i l eq
        obtain ⟨hb, h⟩ := guardO_inv h
        obtain ⟨c, hc, h⟩ := obind_inv h
        obtain rfl := Option.some.inj h
        rw [eq] at ha
        have hv : ρ a = .string (encS l) := s_inv ha
        refine ⟨_, runV ?_, .w8 c⟩
        have hget : (encS l)[jn.toNat]? = some (UInt8.ofBitVec c) := by
          show (if h : jn.toNat < (encS l).size then some ((encS l)[jn.toNat]) else none) = _
          obtain ⟨hlt, hcc⟩ := List.getElem?_eq_some_iff.1 hc
          rw [dif_pos (by rw [encS_size]; exact hlt)]
          congr 1
          show (encS l).data[jn.toNat]'_ = _
          simp only [encS, List.getElem_toArray, List.getElem_map, hcc]
        simp only [hv, Instr.index, Sem.run_bind, hrj, Result.andThen_ok, run_underlying hu, if_pos hb, hget]
        rfl
      · cases h
    · cases h
  case h_13 t parts =>
    obtain ⟨zs, hzs, h⟩ := obind_inv h
    obtain ⟨z, hz, _, he, h1⟩ := run_zeroValue' hzs w
    have hzc : RelCells σ I w zs z.cells := relCells_zero he h1
    split at h
    · rename_i fs hu
      obtain ⟨cs, hcs, h⟩ := obind_inv h
      obtain ⟨hall, h⟩ := guardO_inv h
      obtain rfl := Option.some.inj h
      have hmap : (fs.mapM (fun f => do pure (f.offset, ← sizeOf f.type) : Field → Sem (Nat × Nat))).run P w = .ok (fs.map fun f => (f.offset, (szOf P f.type).getD 0)) w := by
        rw [Array.mapM_eq_mapM_toList]
        have hl : ∀ (l : List Field), (∀ f ∈ l, (szOf P f.type).isSome = true) → (l.mapM (fun f => do pure (f.offset, ← sizeOf f.type) : Field → Sem (Nat × Nat))).run P w = .ok (l.map fun f => (f.offset, (szOf P f.type).getD 0)) w := by
          intro l
          induction l with
          | nil => intro _; rfl
          | cons f r ih =>
            intro hr
            obtain ⟨n, hn⟩ := Option.isSome_iff_exists.1 (hr f (by simp))
            rw [List.mapM_cons]
            simp only [Sem.run_bind, run_sizeOf' hn, Result.andThen_ok, Sem.run_pure, ih (fun g hg => hr g (by simp [hg])), hn, List.map_cons, Option.getD_some]
        rw [Sem.run_map, hl fs.toList (fun f hf => List.all_eq_true.1 hall f hf)]
        simp only [Result.andThen_ok, ← Array.toList_map, Array.toArray_toList]
      have hplace : ∀ (k : Nat) (o : Nat × Nat), (obind fs[k]? fun fd => obind (szOf P fd.type) fun n => some (fd.offset, n)) = some o → (fs.map fun f => (f.offset, (szOf P f.type).getD 0))[k]? = some o := by
        intro k o hk
        obtain ⟨fd, hfd, hk⟩ := obind_inv hk
        obtain ⟨n, hn, hk⟩ := obind_inv hk
        rw [Array.getElem?_map, hfd]
        simp [hn, Option.some.inj hk]
      obtain ⟨us, hus, hrel⟩ := fill_sound hplace _ (parts.map fun (i, x) => (i, ρ x)).toList _ _ _ (by simp) (parts_rel hρ) hzc hcs
      refine ⟨_, runV ?_, hrel.agg⟩
      simp only [Instr.build, Sem.run_bind, hz, Result.andThen_ok, run_underlying hu, hmap, hus, Sem.run_pure]
    · rename_i n e hu
      obtain ⟨z1, hz1, h⟩ := obind_inv h
      have fin : ∀ cs, (∃ us, Instr.fill (fun i => some (i * z1, z1)) z.cells (parts.map fun (i, x) => (i, ρ x)).toList = some us ∧ RelCells σ I w cs us) → x = .agg cs →
          ∃ v, (execOp ρ { dst := dst, op := .build t parts, type := type, pos := pos, after := after, guard := guard }).run P w = .ok (.value v) w ∧ Rel σ I w x v := by
        rintro cs ⟨us, hus, hrel⟩ rfl
        refine ⟨_, runV ?_, hrel.agg⟩
        simp only [Instr.build, Sem.run_bind, hz, Result.andThen_ok, run_underlying hu, run_sizeOf' hz1, hus, Sem.run_pure]
      split at h
      · rename_i cs hcs
        obtain rfl := Option.some.inj h
        split at hcs
        · rename_i hc
          refine fin cs ?_ rfl
          obtain ⟨us, hus, hrel⟩ := seqA_sound hc.1 (placeM := fun i => some (i * z1, z1)) (fun k => rfl) _ (parts.map fun (i, x) => (i, ρ x)).toList 0 cs [] z.cells (by simp) (parts_rel hρ) ⟨zs, by simpa using hzc, by simp [hc.2]⟩ rfl hcs
          exact ⟨us, hus, by simpa using hrel⟩
        · cases hcs
      · obtain ⟨cs, hcs, h⟩ := obind_inv h
        obtain ⟨_, h⟩ := guardO_inv h
        obtain rfl := Option.some.inj h
        refine fin cs ?_ rfl
        exact fill_sound (placeM := fun i => some (i * z1, z1)) (fun k o hk => hk) _ (parts.map fun (i, x) => (i, ρ x)).toList _ _ _ (by simp) (parts_rel hρ) hzc hcs
    · cases h
  case h_14 f first captured =>
    obtain ⟨h0, h⟩ := guardO_inv h
    obtain rfl := Option.some.inj h
    have e0 : first = #[] := Array.eq_empty_of_size_eq_zero h0
    subst e0
    have hm : captured.map ρ = (captured.toList.map ρ).toArray := by rw [← Array.toList_map, Array.toArray_toList]
    refine ⟨.func (.func f) #[] (captured.map ρ), runV (by simp [Instr.makeFunc]), ?_⟩
    rw [hm]
    exact .fn f _ _ (by simp) (map_rel hρ)
  case h_15 t k =>
    split at h
    · rename_i xs eq
      have ha := hρ t
      rw [eq] at ha
      cases hv : ρ t with
      | tuple vs =>
        rw [hv] at ha
        cases ha with
        | tup _ _ h1 h2 =>
          obtain ⟨hlt, rfl⟩ := List.getElem?_eq_some_iff.1 h
          have hg : vs[k]? = some (vs.getD k undef) := by rw [Array.getD_eq_getD_getElem?, Array.getElem?_eq_getElem (by omega)]; rfl
          refine ⟨_, runV ?_, h2 k hlt⟩
          simp only [hv, Instr.extract, hg, Sem.run_pure]
      | _ => rw [hv] at ha; cases ha
    · cases h
  case h_16 t y lo hi =>
    obtain ⟨u, hrun, hr⟩ := slice_sound (P := P) (ul := lo.map ρ) (uh := hi.map ρ) h (hρ y)
      (optRel_map hρ lo) (optRel_map hρ hi)
    exact ⟨u, runV hrun, hr⟩
  case h_17 t y lo hi mx =>
    obtain ⟨u, hrun, hr⟩ := slice3_sound (P := P) (ul := lo.map ρ) (uh := hi.map ρ) h (hρ y)
      (optRel_map hρ lo) (optRel_map hρ hi) (hρ mx)
    exact ⟨u, runV hrun, hr⟩
  case h_18 c =>
    unfold callLen at h
    obtain ⟨callee, args, argTypes⟩ := c
    simp only at h
    split at h
    · rename_i y t ts e1 e2
      have ea : args = #[y] := by rw [← Array.toArray_toList (xs := args), e1]
      have et : argTypes[0]? = some t := by rw [← Array.getElem?_toList, e2]; rfl
      subst ea
      have hy := hρ y
      have start : ∀ v, (Builtin.len_ argTypes type #[ρ y]).run P w = .ok v w →
          (execOp ρ { dst := dst, op := .call { callee := .builtin .len, args := #[y], argTypes := argTypes }, type := type, pos := pos, after := after, guard := guard }).run P w = .ok (.value v) w := by
        intro v hv
        simp only [execOp, resolve, invoke, builtin, Sem.run_bind, Sem.run_pure, Result.andThen_ok, List.map_toArray, List.map_cons, List.map_nil, hv]
      unfold lenA at h
      split at h
      · rename_i e hu
        have fin : ∀ n cap (a : Option Addr), ρ y = .slice a n cap → x = .i n → ∃ v, (execOp ρ { dst := dst, op := .call { callee := .builtin .len, args := #[y], argTypes := argTypes }, type := type, pos := pos, after := after, guard := guard }).run P w = .ok (.value v) w ∧ Rel σ I w x v := by
          rintro n cap a hv rfl
          refine ⟨_, start _ ?_, .i n⟩
          simp only [Builtin.len_, et, List.getElem?_toArray, List.getElem?_cons_zero, hv, Sem.run_bind, run_underlying hu, Result.andThen_ok, Sem.run_pure, goInt]
        split at h
        · rename_i n xs eq
          rw [eq] at hy
          obtain rfl := Option.some.inj h
          cases hv : ρ y with
          | slice a len cap =>
            rw [hv] at hy
            have : len = n := by cases hy <;> rfl
            exact fin n cap a (by rw [hv, this]) rfl
          | _ => rw [hv] at hy; cases hy
        · rename_i id off n e' g eq
          rw [eq] at hy
          obtain rfl := Option.some.inj h
          cases hv : ρ y with
          | slice a len cap =>
            rw [hv] at hy
            have : len = n := by cases hy <;> rfl
            exact fin n cap a (by rw [hv, this]) rfl
          | _ => rw [hv] at hy; cases hy
        · rename_i eq
          rw [eq] at hy
          obtain rfl := Option.some.inj h
          have hv : ρ y = .slice none 0 0 := by generalize ρ y = u at hy; cases hy; rfl
          exact fin 0 0 none hv rfl
        · cases h
      · rename_i hu
        split at h
        · rename_i l eq
          rw [eq] at hy
          obtain rfl := Option.some.inj h
          refine ⟨_, start _ ?_, .i _⟩
          simp only [Builtin.len_, et, List.getElem?_toArray, List.getElem?_cons_zero, s_inv hy, Sem.run_bind, run_underlying hu, Result.andThen_ok, Sem.run_pure, goInt, encS_size]
        · cases h
      · rename_i n e hu
        obtain rfl := Option.some.inj h
        refine ⟨_, start _ ?_, .i _⟩
        simp only [Builtin.len_, et, List.getElem?_toArray, List.getElem?_cons_zero, Sem.run_bind, run_underlying hu, Result.andThen_ok, Sem.run_pure, goInt]
      · cases h
    · rename_i a b e1
      have ea : args = #[a, b] := by rw [← Array.toArray_toList (xs := args), e1]
      subst ea
      obtain ⟨k, m, n, h1, h2, hr⟩ := min2_inv h (hρ a) (hρ b)
      refine ⟨_, ?_, hr⟩
      simp only [execOp, resolve, invoke, builtin, Sem.run_bind, Sem.run_pure, Result.andThen_ok, List.map_toArray, List.map_cons, List.map_nil, h1, h2]
      rw [run_min_int2]; rfl
    · rename_i a b e1
      have ea : args = #[a, b] := by rw [← Array.toArray_toList (xs := args), e1]
      subst ea
      obtain ⟨k, m, n, h1, h2, hr⟩ := max2_inv h (hρ a) (hρ b)
      refine ⟨_, ?_, hr⟩
      simp only [execOp, resolve, invoke, builtin, Sem.run_bind, Sem.run_pure, Result.andThen_ok, List.map_toArray, List.map_cons, List.map_nil, h1, h2]
      rw [run_max_int2]; rfl
    · rename_i y t ts e1 e2
      have ea : args = #[y] := by rw [← Array.toArray_toList (xs := args), e1]
      have et : argTypes[0]? = some t := by rw [← Array.getElem?_toList, e2]; rfl
      subst ea
      have hy := hρ y
      unfold capA at h
      split at h
      · rename_i e hu eq
        rw [eq] at hy
        obtain rfl := Option.some.inj h
        have hv : ρ y = .slice none 0 0 := by generalize ρ y = u at hy; cases hy; rfl
        refine ⟨_, ?_, .i 0⟩
        simp only [execOp, resolve, invoke, builtin, Sem.run_bind, Sem.run_pure, Result.andThen_ok, List.map_toArray, List.map_cons, List.map_nil, hv, Builtin.cap_, et, List.getElem?_toArray, List.getElem?_cons_zero, run_underlying hu, goInt]
        rfl
      · cases h
    · cases h
  case h_19 y _ t =>
    split at h
    · rename_i t' v' hy
      replace h := guardO_inv h; obtain ⟨⟨rfl, hif, hun⟩, h⟩ := h
      obtain rfl := Option.some.inj h
      have hv := hρ y; rw [hy] at hv
      have e : ρ y = .iface t' v' := by generalize ρ y = u at hv; cases hv; rfl
      obtain ⟨u, hu⟩ := Option.isSome_iff_exists.1 hun
      refine ⟨.tuple #[v', .bool true], ?_, .tup _ _ rfl (fun i hi => ?_)⟩
      · simp only [execOp, e, Instr.typeAssert, Sem.run_bind, run_underlying hu, Result.andThen_ok]
        unfold isIfT at hif
        rw [hu] at hif
        cases u <;> first | (simp at hif; done) | (simp only [if_true, Sem.run_pure, Result.andThen_ok])
      · match i, hi with
        | 0, _ => exact rel_ofV _
        | 1, _ => exact .b _
    · cases h
  case h_20 => cases h
end
end Go.AX

namespace Go.AX
open Go
open Go.MapKept (IsKey bytes_beq sameNow_of_keys run_checkKey run_findKey)
section
variable {P : Program} {σ : Nat → Loc} {I : Nat → Prop} {w : World}

theorem encS_eq {a b : List (BitVec 8)} (h : encS a = encS b) : a = b := encS_inj (by rw [← encS_toList, ← encS_toList, h])
theorem keyD_isKey {d : TypeDesc} {x : AV} {a : Value} (h : keyD d x = true) (hx : Rel σ I w x a) : IsKey d a := by
  unfold keyD at h
  split at h <;> first | (cases h; done) | (cases hx; first | rfl | trivial)
theorem kEq_keyD {x y : AV} {r : Bool} (h : kEq x y = some r) {d : TypeDesc} (hd : keyD d x = true) : keyD d y = true := by
  unfold kEq at h
  split at h
  all_goals first | (cases h; done) | skip
  all_goals (cases d with
    | int k => cases k <;> first | exact hd | (cases hd; done)
    | _ => first | exact hd | (cases hd; done))
theorem kEq_iff {x y : AV} {a b : Value} {r : Bool} (h : kEq x y = some r) (hx : Rel σ I w x a) (hy : Rel σ I w y b) : r = true ↔ a = b := by
  unfold kEq at h
  split at h
  all_goals first | (cases h; done) | (obtain rfl := Option.some.inj h; cases hx; cases hy; rw [decide_eq_true_eq])
  · exact ⟨fun h => by rw [h], fun h => by cases h; rfl⟩
  · exact ⟨fun h => by rw [h], fun h => BitVec.eq_of_toNat_eq (Int.ofNat.inj (Value.int.inj h).2)⟩
  · exact ⟨fun h => by rw [h], fun h => BitVec.eq_of_toNat_eq (Int.ofNat.inj (Value.int.inj h).2)⟩
  · exact ⟨fun h => by rw [h], fun h => BitVec.eq_of_toNat_eq (Int.ofNat.inj (Value.int.inj h).2)⟩
  · exact ⟨fun h => by rw [h], fun h => BitVec.eq_of_toNat_eq (Int.ofNat.inj (Value.int.inj h).2)⟩
  · exact ⟨fun h => by rw [h], fun h => encS_eq (Value.string.inj h)⟩
theorem kEq_val {x y : AV} {a b : Value} {r : Bool} (h : kEq x y = some r) (hx : Rel σ I w x a) (hy : Rel σ I w y b) {d : TypeDesc} (hd : keyD d x = true) : Instr.sameNow d a b = some r ∧ (r = true ↔ a = b) := by
  obtain ⟨r', h1, h2⟩ := sameNow_of_keys (keyD_isKey hd hx) (keyD_isKey (kEq_keyD h hd) hy)
  have h3 := kEq_iff h hx hy
  have : r' = r := by rw [Bool.eq_iff_iff, h2, h3]
  rw [← this]; exact ⟨h1, h2⟩
theorem find_sound {d : TypeDesc} {k : AV} {key : Value} (hd : keyD d k = true) (hk : Rel σ I w k key) : ∀ (es : List (AV × AV)) (l : List MapEntry) (i : Nat) (r : Option Nat), l.length = es.length →
    (∀ j (h : j < es.length), Rel σ I w es[j].1 (l.getD j default).key) → midx k es = some r →
    (r = none ∧ Instr.findNow d key l i = some none ∧ ∀ x ∈ l, x.key ≠ key) ∨ ∃ j e, r = some j ∧ j < es.length ∧ Instr.findNow d key l i = some (some (i + j, e.val)) ∧ l[j]? = some e ∧ e.key = key
  | [], [], i, r, _, _, h => by
    obtain rfl := Option.some.inj h
    exact .inl ⟨rfl, rfl, fun x hx => by cases hx⟩
  | p :: es, e :: l, i, r, hl, hr, h => by
    rw [midx] at h
    replace h := obind_inv h; obtain ⟨b, hb, h⟩ := h
    have h0 := hr 0 (by simp)
    obtain ⟨s1, s2⟩ := kEq_val hb hk h0 hd
    cases b with
    | true =>
      obtain rfl := Option.some.inj h
      exact .inr ⟨0, e, rfl, by simp, by simp only [Instr.findNow]; rw [show Instr.sameNow d key e.key = some true from s1]; rfl, rfl, (s2.1 rfl).symm⟩
    | false =>
      simp only at h
      replace h := obind_inv h; obtain ⟨o, ho, h⟩ := h
      obtain rfl := Option.some.inj h
      have hne : e.key ≠ key := fun q => by have := s2.2 q.symm; cases this
      have hf : Instr.findNow d key (e :: l) i = Instr.findNow d key l (i + 1) := by
        simp only [Instr.findNow]; rw [show Instr.sameNow d key e.key = some false from s1]
      rcases find_sound hd hk es l (i + 1) o (by simpa using hl) (fun j hj => by have := hr (j + 1) (by simpa using hj); simpa using this) ho with ⟨rfl, f1, f2⟩ | ⟨j, e', rfl, f1, f2, f3, f4⟩
      · refine .inl ⟨rfl, by rw [hf]; exact f1, fun x hx => ?_⟩
        rcases List.mem_cons.1 hx with rfl | hx
        · exact hne
        · exact f2 x hx
      · exact .inr ⟨j + 1, e', rfl, by simpa using f1, by rw [hf, f2]; congr 3; omega, by simpa using f3, f4⟩
/-- A map's entries, and what they are in the world. -/
theorem mp_own {hp : H} {x : AV} {v : Value} {es : List (AV × AV)} (h : mpOf hp x = some es) (hx : Rel σ I w x v) (hown : ∀ id o, hp id = some o → OwnRel σ I w id o) :
    (v = .map none ∧ es = []) ∨ ∃ blk, v = .map (some blk) ∧ MapRow σ I w es blk := by
  unfold mpOf at h
  split at h
  · rename_i id
    replace h := obind_inv h; obtain ⟨o, ho, h⟩ := h
    cases o with
    | cells xs mt => cases h
    | mapo es' mt =>
      obtain rfl := Option.some.inj h
      obtain ⟨blk, b1, b2, _⟩ := hown id _ ho
      cases hx with
      | mp _ blk' e =>
        rw [e] at b1; cases b1
        exact .inr ⟨blk, rfl, b2⟩
  · obtain rfl := Option.some.inj h
    cases hx
    exact .inl ⟨rfl, rfl⟩
  · cases h
theorem getD_toList (a : Array MapEntry) (i : Nat) : a.toList.getD i default = a.getD i default := by
  rw [Array.getD_eq_getD_getElem?, List.getD_eq_getElem?_getD, Array.getElem?_toList]
theorem zv_run {t : TypeId} {z : AV} (h : zvA P t = some z) (w : World) : ∃ v, (zeroValue t).run P w = .ok v w ∧ ∀ (σ : Nat → Loc) (I : Nat → Prop) (w : World), Rel σ I w z v := by
  unfold zvA at h
  cases hi : P.info? t with
  | none => simp [hi] at h
  | some i =>
    cases hz : i.zero with
    | none => simp [hi, hz] at h
    | some v =>
      simp only [hi, Option.bind_some, hz, Option.map_some, Option.some.injEq] at h
      subst h
      exact ⟨v, by simp [zeroValue, run_typeInfo' hi, hz], fun σ I w => rel_ofV v⟩
theorem rel_pair {x : AV} {v : Value} {b : Bool} (h : Rel σ I w x v) : Rel σ I w (.tup [x, .b b]) (.tuple #[v, .bool b]) := by
  refine .tup _ _ rfl fun i hi => ?_
  match i, hi with
  | 0, _ => exact h
  | 1, _ => exact .b b
theorem lookup_sound {t : TypeId} {x k y : AV} {ok : Bool} {hp : H} {a key : Value} (h : lookA P t x k ok hp = some y) (hx : Rel σ I w x a) (hk : Rel σ I w k key) (hown : ∀ id o, hp id = some o → OwnRel σ I w id o) :
    ∃ v, (Instr.lookup t a key ok).run P w = .ok v w ∧ Rel σ I w y v := by
  unfold lookA at h
  split at h
  rotate_left
  · cases h
  rename_i kt et hm
  replace h := obind_inv h; obtain ⟨d, hd, h⟩ := h
  replace h := guardO_inv h; obtain ⟨hkd, h⟩ := h
  replace h := obind_inv h; obtain ⟨z, hz, h⟩ := h
  replace h := obind_inv h; obtain ⟨es, hes, h⟩ := h
  replace h := obind_inv h; obtain ⟨r, hr, h⟩ := h
  obtain rfl := Option.some.inj h
  obtain ⟨zv, hzr, hzrel⟩ := zv_run (P := P) hz w
  have hik := keyD_isKey hkd hk
  unfold mget at hr
  replace hr := obind_inv hr; obtain ⟨o, ho, hr⟩ := hr
  obtain rfl := Option.some.inj hr
  have hck := fun e => run_checkKey (w := w) hd hik e 9999
  rcases mp_own hes hx hown with ⟨rfl, rfl⟩ | ⟨blk, rfl, ⟨⟨ents, cl, g1, g2, g3, g4⟩⟩⟩
  · obtain rfl := Option.some.inj ho
    have hf : (Instr.findKey kt key []).run P w = .ok none w := run_findKey hd rfl
    cases ok with
    | true =>
      refine ⟨.tuple #[zv, .bool false], ?_, rel_pair (hzrel _ _ _)⟩
      simp [Instr.lookup, run_underlying hm, hck, hf, hzr, Result.andThen]
    | false =>
      refine ⟨zv, ?_, hzrel _ _ _⟩
      simp [Instr.lookup, run_underlying hm, hck, hf, hzr, Result.andThen]
  · have hl : ents.toList.length = es.length := by simpa using g2
    rcases find_sound hkd hk es ents.toList 0 o hl (fun j hj => by rw [getD_toList]; exact (g4 j hj).2.1) ho with ⟨rfl, f1, f2⟩ | ⟨j, e, rfl, hj, f1, f2, f3⟩
    · have hf := run_findKey (P := P) (w := w) hd f1
      cases ok with
      | true =>
        refine ⟨.tuple #[zv, .bool false], ?_, rel_pair (hzrel _ _ _)⟩
        simp [Instr.lookup, run_underlying hm, Go.MapKept.run_getObj_map g1, hck, hf, hzr, Result.andThen]
      | false =>
        refine ⟨zv, ?_, hzrel _ _ _⟩
        simp [Instr.lookup, run_underlying hm, Go.MapKept.run_getObj_map g1, hck, hf, hzr, Result.andThen]
    · have hf := run_findKey (P := P) (w := w) hd f1
      have hv : Rel σ I w es[j].2 e.val := by
        have := (g4 j hj).2.2
        rw [← getD_toList, List.getD_eq_getElem?_getD, f2] at this
        exact this
      have e1 : (Option.bind (some j) fun j => (es[j]?).map (·.2)) = some es[j].2 := by
        show (es[j]?).map (·.2) = _
        rw [List.getElem?_eq_getElem hj]; rfl
      rw [e1]
      cases ok with
      | true =>
        refine ⟨.tuple #[e.val, .bool true], ?_, rel_pair hv⟩
        simp [Instr.lookup, run_underlying hm, Go.MapKept.run_getObj_map g1, hck, hf, Result.andThen]
      | false =>
        refine ⟨e.val, ?_, hv⟩
        simp [Instr.lookup, run_underlying hm, Go.MapKept.run_getObj_map g1, hck, hf, Result.andThen]
theorem lenM_sound {t ty : TypeId} {x y : AV} {hp : H} {a : Value} (h : lenMA P t x hp = some y) (hx : Rel σ I w x a) (hown : ∀ id o, hp id = some o → OwnRel σ I w id o) :
    ∃ v, (Builtin.len_ #[t] ty #[a]).run P w = .ok v w ∧ Rel σ I w y v := by
  unfold lenMA at h
  split at h
  rotate_left
  · cases h
  rename_i kt et hm
  replace h := obind_inv h; obtain ⟨es, hes, h⟩ := h
  obtain rfl := Option.some.inj h
  rcases mp_own hes hx hown with ⟨rfl, rfl⟩ | ⟨blk, rfl, ⟨⟨ents, cl, g1, g2, g3, g4⟩⟩⟩
  · exact ⟨goInt 0, by simp [Builtin.len_, run_underlying hm, Result.andThen], .i 0⟩
  · refine ⟨goInt ents.size, by simp [Builtin.len_, run_underlying hm, Go.MapKept.run_getObj_map g1, Result.andThen], ?_⟩
    rw [g2]; exact .i _
end
end Go.AX

namespace Go.AX
open Go
section
variable {P : Program} {σ : Nat → Loc} {I : Nat → Prop} {w : World}

theorem RowAt.get {xs : List AV} {blk base sz : Nat} (h : RowAt σ I w xs blk base sz) (i : Nat) (hi : i < xs.length) :
    ∃ v, w.cell? ⟨blk, base + i, none⟩ = some v ∧ xs[i].isCell = true ∧ Rel σ I w xs[i] v := by
  obtain ⟨⟨c, T, lo, hi', h1, h2, h3, _, h5⟩, h6⟩ := h
  have hlt : base + i < c.size := by omega
  refine ⟨c.getD (base + i) undef, ?_, h6 i hi, h5 i hi⟩
  simp only [World.cell?, h1, Option.isSome_none, Bool.false_eq_true, if_false]
  rw [Array.getElem?_eq_getElem hlt, Array.getD_eq_getD_getElem?, Array.getElem?_eq_getElem hlt]; rfl

theorem own_row {id : Nat} {xs : List AV} {mt : Bool} {blk base sz : Nat} (h : OwnRel σ I w id (.cells xs mt)) (e : σ id = .at_ blk base sz) : RowAt σ I w xs blk base sz := by
  simp only [OwnRel, e] at h; exact h.1
theorem own_len {id : Nat} {xs : List AV} {mt : Bool} {blk base sz : Nat} (h : OwnRel σ I w id (.cells xs mt)) (e : σ id = .at_ blk base sz) : base + xs.length ≤ sz := by
  obtain ⟨⟨_, _, _, _, _, _, h3, _⟩, _⟩ := own_row h e; exact h3
theorem own_nil {id : Nat} {xs : List AV} {mt : Bool} (h : OwnRel σ I w id (.cells xs mt)) (e : σ id = .nil) : xs = [] := by
  simpa only [OwnRel, e] using h

theorem rp_get {xs : List AV} {blk o : Nat} (h : Rel σ I w (.rp xs) (.pointer (some ⟨blk, o, none⟩))) (i : Nat) (hi : i < xs.length) :
    ∃ v, w.cell? ⟨blk, o + i, none⟩ = some v ∧ xs[i].isCell = true ∧ Rel σ I w xs[i] v := by
  cases h with
  | rp _ _ _ f hb hc h1 h2 => exact ⟨f i, hc i hi, h1 i hi, h2 i hi⟩

theorem unW8_inv : ∀ {xs : List AV} {l : List (BitVec 8)}, unW8 xs = some l → xs = l.map .w8
  | [], l, h => by obtain rfl := Option.some.inj h; rfl
  | .w8 x :: r, l, h => by
    simp only [unW8] at h
    obtain ⟨l', h1, h⟩ := obind_inv h
    obtain rfl := Option.some.inj h
    rw [unW8_inv h1]; rfl
  | .w16 _ :: _, _, h | .w32 _ :: _, _, h | .w64 _ :: _, _, h | .i _ :: _, _, h | .b _ :: _, _, h | .s _ :: _, _, h | .v _ :: _, _, h | .agg _ :: _, _, h | .tup _ :: _, _, h | .sl _ _ :: _, _, h
  | .rp _ :: _, _, h | .os _ _ _ _ _ :: _, _, h | .op _ _ :: _, _, h | .mp _ :: _, _, h | .fn _ _ :: _, _, h | .junk :: _, _, h => by cases h

/-- A slice's cells as the model reads them. -/
theorem slCells_run {hp : H} {z n : Nat} {x : AV} {xs : List AV} {v : Value} (h : slCells hp z x = some (n, xs)) (hx : Rel σ I w x v) (hown : ∀ id o, hp id = some o → OwnRel σ I w id o) :
    xs.length = n * z ∧ (∀ i (_h : i < xs.length), xs[i].isCell = true) ∧ ∃ (a : Option Addr) (cap : Nat) (vs : Array Value), v = .slice a n cap ∧ vs.size = xs.length ∧ (∀ i (_h : i < xs.length), Rel σ I w xs[i] (vs.getD i undef)) ∧
      (match a with | some a => ∀ k (vv : Value), vs.toList[k]? = some vv → w.cell? (a.add k) = some vv | none => n = 0) := by
  have mk : ∀ (blk o : Nat) (hc : ∀ i (_h : i < xs.length), ∃ v, w.cell? ⟨blk, o + i, none⟩ = some v ∧ xs[i].isCell = true ∧ Rel σ I w xs[i] v),
      ∃ vs : Array Value, vs.size = xs.length ∧ (∀ i (_h : i < xs.length), Rel σ I w xs[i] (vs.getD i undef)) ∧ ∀ k (vv : Value), vs.toList[k]? = some vv → w.cell? ((⟨blk, o, none⟩ : Addr).add k) = some vv := by
    intro blk o hc
    refine ⟨((List.range xs.length).map fun i => (w.cell? ⟨blk, o + i, none⟩).getD undef).toArray, by simp, fun i hi => ?_, fun k vv hk => ?_⟩
    · obtain ⟨v, hv, _, hr⟩ := hc i hi
      rw [getD_list, List.getD_eq_getElem?_getD, List.getElem?_map, List.getElem?_range hi]
      simp [hv, hr]
    · simp only [List.getElem?_map] at hk
      obtain ⟨m, hm, rfl⟩ := Option.map_eq_some_iff.1 hk
      rw [List.getElem?_eq_some_iff] at hm
      obtain ⟨hlt, hm⟩ := hm
      simp at hlt hm
      subst hm
      obtain ⟨v, hv, _, _⟩ := hc k hlt
      rw [add_off, hv]; rfl
  unfold slCells at h
  split at h
  · rename_i n' ys
    obtain ⟨hl, h⟩ := guardO_inv h
    obtain ⟨rfl, rfl⟩ := Prod.mk.inj (Option.some.inj h)
    cases hx with
    | sl _ _ blk o cap f hb hle hc h1 h2 =>
      obtain ⟨vs, e1, e2, e3⟩ := mk blk o (fun i hi => ⟨f i, hc i hi, h1 i hi, h2 i hi⟩)
      exact ⟨hl, h1, _, cap, vs, rfl, e1, e2, e3⟩
    | slnil => exact ⟨hl, fun i hi => by simp at hi, _, 0, #[], rfl, rfl, fun i hi => by simp at hi, rfl⟩
    | slzero a => exact ⟨hl, fun i hi => by simp at hi, _, 0, #[], rfl, rfl, fun i hi => by simp at hi, fun k vv hk => by simp at hk⟩
  · rename_i id off n' e g
    obtain ⟨o, ho, h⟩ := obind_inv h
    split at h
    rotate_left
    · cases h
    rename_i ys mt
    obtain ⟨⟨he, hl⟩, h⟩ := guardO_inv h
    obtain ⟨rfl, rfl⟩ := Prod.mk.inj (Option.some.inj h)
    have hlen : ((ys.drop off).take (n' * z)).length = n' * z := by simp; omega
    cases hx with
    | os _ _ _ _ _ blk base sz cap g1 g2 g3 =>
      have hrow := own_row (hown id _ ho) g1
      have hget : ∀ i (_h : i < ((ys.drop off).take (n' * z)).length), ∃ v, w.cell? ⟨blk, base + off + i, none⟩ = some v ∧ ((ys.drop off).take (n' * z))[i].isCell = true ∧ Rel σ I w ((ys.drop off).take (n' * z))[i] v := by
        intro i hi
        rw [getElem_take', getElem_drop']
        rw [hlen] at hi
        have := hrow.get (off + i) (by omega)
        rwa [← Nat.add_assoc] at this
      obtain ⟨vs, e1, e2, e3⟩ := mk blk (base + off) hget
      exact ⟨hlen, fun i hi => (hget i hi).choose_spec.2.1, _, cap, vs, rfl, e1, e2, e3⟩
    | osnil => exact ⟨hlen, fun i hi => by simp at hi, _, 0, #[], rfl, by simp, fun i hi => by simp at hi, rfl⟩
    | oszero _ _ _ _ a => exact ⟨hlen, fun i hi => by simp at hi, _, 0, #[], rfl, by simp, fun i hi => by simp at hi, fun k vv hk => by simp at hk⟩
  · obtain ⟨rfl, rfl⟩ := Prod.mk.inj (Option.some.inj h)
    cases hx
    exact ⟨by simp, fun i hi => by simp at hi, _, 0, #[], rfl, rfl, fun i hi => by simp at hi, rfl⟩
  · cases h

theorem bytes_sound {hp : H} {x : AV} {n : Nat} {xs : List AV} {l : List (BitVec 8)} {v : Value} (h : slCells hp 1 x = some (n, xs)) (hu : unW8 xs = some l) (hx : Rel σ I w x v)
    (hown : ∀ id o, hp id = some o → OwnRel σ I w id o) : (Conv.bytesToString v).run P w = .ok (.string (encS l)) w := by
  obtain ⟨hl, _, a, cap, vs, rfl, hs, hr, hc⟩ := slCells_run h hx hown
  have hxs := unW8_inv hu
  have hlen : l.length = n := by rw [hxs] at hl; simpa using hl
  cases a with
  | none =>
    simp only at hc
    have : l = [] := List.eq_nil_of_length_eq_zero (by omega)
    subst this; rfl
  | some a =>
    simp only at hc
    have hvs : vs.toList = (l.map fun x => ((x.toNat : Nat) : Int)).map (Value.int .u8) := by
      apply List.ext_getElem
      · simp [hs, hxs]
      · intro i h1 h2
        have hi : i < xs.length := by simpa [hs] using h1
        have := hr i hi
        have hil : i < l.length := by rw [hxs] at hi; simpa using hi
        have hx' : xs[i] = .w8 l[i] := by simp [hxs]
        rw [hx'] at this
        have e : vs.getD i undef = .int .u8 (l[i].toNat : Int) := by
          generalize vs.getD i undef = u at this
          cases this; rfl
        rw [Array.getD_eq_getD_getElem?, Array.getElem?_eq_getElem (by rw [hs]; exact hi)] at e
        simp only [Option.getD_some] at e
        rw [Array.getElem_toList, e]; simp
    have hload := run_loadCells_list (P := P) w a vs.toList hc
    rw [Array.length_toList, hs, hl, Nat.mul_one] at hload
    rw [hvs] at hload
    rw [run_bytesToString w a n cap _ hload, foldl_push_bytes]
    simp only [ByteArray.data_empty, List.map_map, Function.comp_def, Int.toNat_natCast]
    have : (fun x : BitVec 8 => UInt8.ofNat x.toNat) = UInt8.ofBitVec := by
      funext x
      apply UInt8.toBitVec_inj.1
      simp
    rw [this]; simp [encS]

theorem read_sound {o : Oper} {ρA : Operand → AV} {ρ : Operand → Value} {hp : H} {x : AV} (h : readOp P o.op ρA hp = some x) (hρ : ∀ y, Rel σ I w (ρA y) (ρ y))
    (hown : ∀ id o, hp id = some o → OwnRel σ I w id o) :
    ∃ v, (execOp ρ o).run P w = .ok (.value v) w ∧ Rel σ I w x v := by
  obtain ⟨dst, op, type, pos, after, guard⟩ := o
  simp only at h
  unfold readOp at h
  split at h
  · rename_i t y
    have hy := hρ y
    split at h
    · rename_i ys e
      rw [e] at hy
      obtain ⟨blk, o, hv⟩ := rp_inv hy
      rw [hv] at hy
      obtain ⟨v, hrun, hr⟩ := ldV_load (P := P) h (fun i hi => rp_get hy i hi)
      exact ⟨v, runV (by simp only [Instr.loadAt, Instr.sureAddr, hv, Sem.run_bind, Sem.run_pure, Result.andThen_ok, hrun]), hr⟩
    · rename_i id off e
      obtain ⟨o, ho, h⟩ := obind_inv h
      split at h
      rotate_left
      · cases h
      rename_i xs mt
      rw [e] at hy
      obtain ⟨blk, base, sz, g1, hv⟩ := op_inv hy
      have hrow := own_row (hown id _ ho) g1
      obtain ⟨v, hrun, hr⟩ := ldV_load (P := P) (blk := blk) (o := base + off) h (fun i hi => by
        rw [getElem_drop']
        simp at hi
        have := hrow.get (off + i) (by omega)
        rwa [← Nat.add_assoc] at this)
      exact ⟨v, runV (by simp only [Instr.loadAt, Instr.sureAddr, hv, Sem.run_bind, Sem.run_pure, Result.andThen_ok, hrun]), hr⟩
    · cases h
  · rename_i t y k ok
    obtain ⟨v, h1, h2⟩ := lookup_sound (P := P) h (hρ y) (hρ k) hown
    exact ⟨v, runV h1, h2⟩
  · rename_i cl
    obtain ⟨callee, args, argTypes⟩ := cl
    simp only at h
    split at h
    · rename_i a t e1 e2
      have ea : args = #[a] := by rw [← Array.toArray_toList (xs := args), e1]
      have et : argTypes = #[t] := by rw [← Array.toArray_toList (xs := argTypes), e2]
      subst ea; subst et
      obtain ⟨v, h1, h2⟩ := lenM_sound (P := P) (ty := type) h (hρ a) hown
      refine ⟨v, ?_, h2⟩
      simp only [execOp, resolve, invoke, builtin, Sem.run_bind, Sem.run_pure, Result.andThen_ok, List.map_toArray, List.map_cons, List.map_nil, h1]
    · cases h
  · rename_i src dst' y
    split at h
    · rename_i e hs hd
      split at h
      · rename_i he
        obtain ⟨nl, hnl, h⟩ := obind_inv h
        obtain ⟨l, hl, h⟩ := obind_inv h
        obtain rfl := Option.some.inj h
        have hrun := bytes_sound (P := P) hnl hl (hρ y) hown
        refine ⟨_, runV ?_, .s l⟩
        obtain ⟨_, _, a, cap, vs, hv, _⟩ := slCells_run hnl (hρ y) hown
        rw [hv] at hrun ⊢
        rw [run_convert_bytes_string w src dst' e a _ cap hs he hd, hrun]
      · cases h
    · cases h
  · cases h
end
end Go.AX

namespace Go.AX
open Go

/-- How a run goes on: names of own objects stay, what is not written any more stays. -/
structure Grow (σ : Nat → Loc) (I : Nat → Prop) (w : World) (σ' : Nat → Loc) (I' : Nat → Prop) (w' : World) : Prop where
  loc : ∀ id, σ id ≠ .unset → σ' id = σ id
  imm : ∀ k, I k → I' k
  heap : ∀ k, I k → w'.heap[k]? = w.heap[k]?

theorem Grow.refl (σ : Nat → Loc) (I : Nat → Prop) (w : World) : Grow σ I w σ I w := ⟨fun _ _ => rfl, fun _ h => h, fun _ _ => rfl⟩
theorem Grow.trans {σ σ' σ'' : Nat → Loc} {I I' I'' : Nat → Prop} {w w' w'' : World} (a : Grow σ I w σ' I' w') (b : Grow σ' I' w' σ'' I'' w'') : Grow σ I w σ'' I'' w'' :=
  ⟨fun id h => by have := a.loc id h; rw [b.loc id (by rw [this]; exact h), this], fun k h => b.imm k (a.imm k h), fun k h => by rw [b.heap k (a.imm k h), a.heap k h]⟩
theorem Rel.grow {σ σ' : Nat → Loc} {I I' : Nat → Prop} {w w' : World} {x : AV} {y : Value} (h : Rel σ I w x y) (g : Grow σ I w σ' I' w') : Rel σ' I' w' x y := h.mono g.loc g.imm g.heap

section
variable {P : Program} {c : Ctx} {σ : Nat → Loc} {I : Nat → Prop} {w : World} {hp : H} {un : Nat → Prop}

/-- A new block with cells that are known: what comes of it. -/
theorem make_new (h : Inv c σ I w hp un) {id : Nat} (hu : un id) (w0 : World) (hw0 : w0.heap = w.heap ∧ w0.os = w.os ∧ w0.tape = w.tape ∧ w0.output = w.output)
    (cs : Array Value) (T : TypeId) (fr : Nat × Nat) (hfr : Unfz fr.1 fr.2 cs.size) (xs : List AV) (hl : xs.length ≤ cs.size)
    (hr : ∀ (i : Nat) (x : AV), xs[i]? = some x → x.isCell = true ∧ ∃ v, cs[i]? = some v ∧ Rel σ I w x v) :
    ∃ σ', Inv c σ' I (w0.alloc (.cells cs T fr)) (upd hp id (.cells xs true)) (fun k => un k ∧ k ≠ id) ∧ σ' id = .at_ w.heap.size 0 cs.size ∧ Grow σ I w σ' I (w0.alloc (.cells cs T fr)) := by
  have h0 := h.world (w' := w0) hw0.1 hw0.2.1 hw0.2.2.1 hw0.2.2.2
  have key := h0.alloc hu cs T fr hfr xs hl (fun i hi => (hr i _ (List.getElem?_eq_getElem hi)).1) (fun i hi => by
    obtain ⟨_, v, hv, hrel⟩ := hr i _ (List.getElem?_eq_getElem hi)
    rw [Array.getD_eq_getD_getElem?, hv]; exact hrel.world hw0.1)
  refine ⟨_, key, by simp [setLoc, hw0.1], ⟨setLoc_ext (h.un id hu), fun _ h => h, fun k hk => ?_⟩⟩
  rw [heap_push_old _ _ k (by rw [hw0.1]; exact h.ilt k hk), hw0.1]

theorem rep_get {zs : List AV} {z : Nat} (hz : zs.length = z) (hpos : 0 < z) : ∀ (n i : Nat), i < n * z → (rep n zs)[i]? = zs[i % z]?
  | 0, i, h => by simp at h
  | n + 1, i, h => by
    have ih := rep_get hz hpos n
    unfold rep at ih ⊢
    rw [List.replicate_succ, List.flatten_cons, List.getElem?_append]
    split
    · rename_i hlt; rw [hz] at hlt; rw [Nat.mod_eq_of_lt hlt]
    · rename_i hge
      rw [hz] at hge ⊢
      rw [Nat.add_mul, Nat.one_mul] at h
      rw [ih (i - z) (by omega), Nat.mod_eq_sub_mod (a := i) (by omega)]
theorem rep_length {zs : List AV} (n : Nat) : (rep n zs).length = n * zs.length := by
  unfold rep; simp

theorem made_get {z : Array Value} {n i : Nat} (h : i < n) (hz : 0 < z.size) : (Go.madeCells z n)[i]? = z[i % z.size]? := by
  unfold Go.madeCells
  rw [Array.getElem?_map, Array.getElem?_range, if_pos h]
  simp only [Option.map_some]
  rw [Array.getElem?_eq_getElem (Nat.mod_lt _ hz), getElem!_pos z (i % z.size) (Nat.mod_lt _ hz)]

theorem rep_made {zs : List AV} {z : Array Value} (hzc : RelCells σ I w zs z) (hpos : 0 < zs.length) (n m : Nat) (hm : n * zs.length ≤ m) :
    ∀ (i : Nat) (x : AV), (rep n zs)[i]? = some x → x.isCell = true ∧ ∃ v, (Go.madeCells z m)[i]? = some v ∧ Rel σ I w x v := by
  intro i x hx
  have hlt : i < n * zs.length := by
    have := (List.getElem?_eq_some_iff.1 hx).1; rwa [rep_length] at this
  rw [rep_get rfl hpos n i hlt] at hx
  rw [made_get (by omega) (by rw [hzc.size]; exact hpos), hzc.size]
  exact (relCells_iff.1 hzc).2 _ x hx

theorem new_sound {o : Oper} {ρA : Operand → AV} {ρ : Operand → Value} {id : Nat} {x : AV} {xs : List AV} (h : newOp P o.op ρA id = some (x, xs)) (hρ : ∀ y, Rel σ I w (ρA y) (ρ y))
    (hi : Inv c σ I w hp un) (hu : un id) :
    ∃ v w' σ', (execOp ρ o).run P w = .ok (.value v) w' ∧ Inv c σ' I w' (upd hp id (.cells xs true)) (fun k => un k ∧ k ≠ id) ∧ Rel σ' I w' x v ∧ Grow σ I w σ' I w' := by
  obtain ⟨dst, op, type, pos, after, guard⟩ := o
  simp only at h
  unfold newOp at h
  split at h
  · rename_i t
    obtain ⟨zs, hzs, h⟩ := obind_inv h
    obtain ⟨rfl, rfl⟩ := Prod.mk.inj (Option.some.inj h)
    obtain ⟨z, hz, _, he, h1⟩ := run_zeroValue' hzs w
    have hzc : RelCells σ I w zs z.cells := relCells_zero he h1
    obtain ⟨σ', hinv, hloc, hg⟩ := make_new hi hu w ⟨rfl, rfl, rfl, rfl⟩ z.cells t (0, 0) ⟨Nat.le_refl _, fun _ _ => by omega⟩ zs (by rw [hzc.size]; omega) (relCells_iff.1 hzc).2
    refine ⟨.pointer (some ⟨w.heap.size, 0, none⟩), _, σ', runV ?_, hinv, .op id 0 _ _ _ hloc, hg⟩
    simp only [Instr.alloc, newVar, newRow, Sem.run_bind, hz, Result.andThen_ok, run_newObj, Sem.run_pure]
    rfl
  · rename_i t y
    obtain ⟨cs, hcs, h⟩ := obind_inv h
    obtain ⟨rfl, rfl⟩ := Prod.mk.inj (Option.some.inj h)
    have hc := relCells_cellsV hcs (hρ y)
    obtain ⟨σ', hinv, hloc, hg⟩ := make_new hi hu w ⟨rfl, rfl, rfl, rfl⟩ (ρ y).cells t (0, 0) ⟨Nat.le_refl _, fun _ _ => by omega⟩ cs (by rw [hc.size]; omega) (relCells_iff.1 hc).2
    refine ⟨.pointer (some ⟨w.heap.size, 0, none⟩), _, σ', runV ?_, hinv, .op id 0 _ _ _ hloc, hg⟩
    simp only [Instr.box, newVar, newRow, Sem.run_bind, Result.andThen_ok, run_newObj, Sem.run_pure]
    rfl
  · rename_i t len parts
    split at h
    · rename_i e hue
      obtain ⟨z, hz, h⟩ := obind_inv h
      obtain ⟨⟨hpos, hlim⟩, h⟩ := guardO_inv h
      obtain ⟨zs, hzs, h⟩ := obind_inv h
      obtain ⟨hzl, h⟩ := guardO_inv h
      obtain ⟨cs, hcs, h⟩ := obind_inv h
      obtain ⟨rfl, rfl⟩ := Prod.mk.inj (Option.some.inj h)
      obtain ⟨zv, hzv, _, he, h1⟩ := run_zeroValue' hzs w
      have hzc : RelCells σ I w zs zv.cells := relCells_zero he h1
      have hmade : RelCells σ I w (rep len zs) (Go.madeCells zv.cells (len * z)) := by
        rw [relCells_iff]
        exact ⟨by rw [Go.size_madeCells, rep_length, hzl], rep_made hzc (by omega) len (len * z) (by rw [hzl]; exact Nat.le_refl _)⟩
      obtain ⟨us, hus, hrel⟩ := fill_sound (placeM := fun i => some (i * z, z)) (fun k o hk => hk) _ (parts.map fun (i, x) => (i, ρ x)).toList _ _ _ (by simp) (parts_rel hρ) hmade hcs
      have hlen : cs.length = len * z := by
        have h2 : ∀ (parts : List (Nat × AV)) (place : Nat → Option (Nat × Nat)) (a b : List AV), fillA place a parts = some b → b.length = a.length := by
          intro parts
          induction parts with
          | nil => intro place a b hh; obtain rfl := Option.some.inj hh; rfl
          | cons p r ih =>
            intro place a b hh
            obtain ⟨k, v⟩ := p
            simp only [fillA] at hh
            obtain ⟨os, _, hh⟩ := obind_inv hh
            obtain ⟨vc, _, hh⟩ := obind_inv hh
            obtain ⟨⟨g1, g2⟩, hh⟩ := guardO_inv hh
            rw [ih _ _ _ hh, splice_length (by omega)]
        rw [h2 _ _ _ _ hcs, rep_length, hzl]
      obtain ⟨σ', hinv, hloc, hg⟩ := make_new hi hu w ⟨rfl, rfl, rfl, rfl⟩ us e (0, 0) ⟨Nat.le_refl _, fun _ _ => by omega⟩ cs (by rw [hrel.size]; omega) (relCells_iff.1 hrel).2
      have hne : ¬ (len * z > 2 ^ 24) := by have : (2 : Nat) ^ 24 = 16777216 := by decide
                                            omega
      refine ⟨.slice (some ⟨w.heap.size, 0, none⟩) len len, _, σ', runV ?_, hinv, ?_, hg⟩
      · simp only [Instr.buildSlice, newRow, Sem.run_bind, run_underlying hue, Result.andThen_ok, run_sizeOf' hz, if_neg hne]
        by_cases h0 : len * z = 0
        · have hm0 : Go.madeCells zv.cells (len * z) = (Array.range (len * z)).map (fun i => (#[] : Array Value)[i % (#[] : Array Value).size]!) := by
            rw [h0]; simp [Go.madeCells]
          simp only [if_pos h0]
          rw [hm0] at hus
          simp only [hus, Sem.run_bind, run_newObj, Result.andThen_ok, Sem.run_pure]
          rfl
        · simp only [if_neg h0, Sem.run_bind, hzv, Result.andThen_ok, Sem.run_pure]
          unfold Go.madeCells at hus
          simp only [hus, Sem.run_bind, run_newObj, Result.andThen_ok, Sem.run_pure]
          rfl
      · refine .os id 0 len z true _ 0 _ len hloc (Nat.le_refl _) (fun _ => ?_)
        rw [hrel.size, hlen]; omega
    · cases h
  · rename_i t l' c'
    split at h
    · rename_i e hue
      obtain ⟨z, hz, h⟩ := obind_inv h
      obtain ⟨by_, hby, h⟩ := obind_inv h
      obtain ⟨zs, hzs, h⟩ := obind_inv h
      obtain ⟨l, hl, h⟩ := obind_inv h
      obtain ⟨cc, hcc, h⟩ := obind_inv h
      obtain ⟨⟨hpos, hzl, h0, hlc, hc1, hc2⟩, h⟩ := guardO_inv h
      obtain ⟨rfl, rfl⟩ := Prod.mk.inj (Option.some.inj h)
      obtain ⟨zv, _, hzero, he, h1⟩ := run_zeroValue' hzs w
      have hzc : RelCells σ I w zs zv.cells := relCells_zero he h1
      obtain ⟨i, hinfo, hsz⟩ := szOf_inv hz
      obtain ⟨i', hinfo', hbz⟩ := byOf_inv hby
      rw [hinfo] at hinfo'
      obtain rfl := Option.some.inj hinfo'
      have hiz : i.zero = some zv := by rw [hinfo] at hzero; exact hzero
      obtain ⟨k1, hk1⟩ := ix_inv hl (hρ l')
      obtain ⟨k2, hk2⟩ := ix_inv hcc (hρ c')
      have hle : l.toNat * zs.length ≤ cc.toNat * i.size := by rw [hzl, hsz]; exact Nat.mul_le_mul_right _ (by omega)
      obtain ⟨σ', hinv, hloc, hg⟩ := make_new hi hu w ⟨rfl, rfl, rfl, rfl⟩ (Go.madeCells zv.cells (cc.toNat * i.size)) e (0, 0) ⟨Nat.le_refl _, fun _ _ => by omega⟩ (rep l.toNat zs)
        (by rw [Go.size_madeCells, rep_length]; exact hle) (rep_made hzc (by omega) _ _ hle)
      refine ⟨.slice (some ⟨w.heap.size, 0, none⟩) l.toNat cc.toNat, _, σ', runV (s := Instr.makeSlice t (ρ l') (ρ c')) ?_, hinv, ?_, hg⟩
      · rw [hk1, hk2, run_make w t e i zv hue hinfo hiz k1 k2 l cc h0 hlc (by rw [hbz, Int.mul_comm]; omega) (by omega)]
      · refine .os id 0 l.toNat z true _ 0 _ cc.toNat hloc (by omega) (fun _ => ?_)
        rw [Go.size_madeCells, hsz]; omega
    · cases h
  · rename_i src dst' y
    split at h
    · rename_i e hs hd
      split at h
      · rename_i l he eq
        obtain ⟨hlen, h⟩ := guardO_inv h
        obtain ⟨rfl, rfl⟩ := Prod.mk.inj (Option.some.inj h)
        have hy := hρ y
        rw [eq] at hy
        have hsv := s_inv hy
        have hrun := run_bytes_of_string (P := P) w src dst' e (encS l) hs hd he
        have hge : l.length ≤ grownCap w (encS l).size 0 e := by have := grownCap_ge w (encS l).size 0 e; have e2 := encS_size l; omega
        have hbs : (bytesRow (encS l) (grownCap w (encS l).size 0 e)).size = grownCap w (encS l).size 0 e := by
          simp only [bytesRow, Array.size_append, Array.size_map, Array.size_replicate, encS_size]
          have : (encS l).data.size = l.length := by simp [encS]
          rw [this]; simp only [encS_size] at hge ⊢; omega
        obtain ⟨σ', hinv, hloc, hg⟩ := make_new hi hu w.drew ⟨rfl, rfl, rfl, rfl⟩ (bytesRow (encS l) (grownCap w (encS l).size 0 e)) e ((bytesRow (encS l) (grownCap w (encS l).size 0 e)).size, (bytesRow (encS l) (grownCap w (encS l).size 0 e)).size + 1) ⟨Nat.le_succ _, fun _ _ => by omega⟩ (l.map .w8)
          (by rw [hbs, List.length_map]; exact hge) (fun i x hx => by
            rw [List.getElem?_map] at hx
            obtain ⟨b, hb, rfl⟩ := Option.map_eq_some_iff.1 hx
            obtain ⟨hlt, rfl⟩ := List.getElem?_eq_some_iff.1 hb
            refine ⟨rfl, .int .u8 (l[i].toNat : Int), ?_, .w8 _⟩
            simp only [bytesRow]
            rw [Array.getElem?_append_left (by simp [encS]; exact hlt)]
            simp [encS, List.getElem?_eq_getElem hlt])
        refine ⟨_, _, σ', runV (s := convert src dst' (ρ y)) (by rw [hsv]; exact hrun), hinv, ?_, hg⟩
        have := Rel.os (σ := σ') (I := I) (w := (w.drew.alloc (.cells (bytesRow (encS l) (grownCap w (encS l).size 0 e)) e ((bytesRow (encS l) (grownCap w (encS l).size 0 e)).size, (bytesRow (encS l) (grownCap w (encS l).size 0 e)).size + 1)))) id 0 l.length 1 true _ 0 _ (grownCap w (encS l).size 0 e) hloc hge (fun _ => by rw [hbs]; omega)
        rw [encS_size] at this ⊢
        exact this
      · cases h
    · cases h
  · cases h
end
end Go.AX

namespace Go.AX
open Go
section
variable {P : Program} {c : Ctx} {σ : Nat → Loc} {I : Nat → Prop} {w : World} {hp : H} {un : Nat → Prop}

/-- Cells laid into a block, marks or not. -/
theorem run_storeCells_row (g o : Nat) (t : TypeId) (lo hi : Nat) : ∀ (vs : List Value) (i : Nat) (cur : Array Value) (w : World), w.heap[g]? = some (.cells cur t (lo, hi)) → (∀ k, k < cur.size → ¬ (lo ≤ k ∧ k < hi)) →
    o + i + vs.length ≤ cur.size → (∀ v ∈ vs, v.oneCell' = true) →
    ∃ w', (storeCells ⟨g, o, none⟩ vs i).run P w = .ok () w' ∧ w'.os = w.os ∧ w'.tape = w.tape ∧ w'.output = w.output ∧ w'.heap.size = w.heap.size ∧ (∀ k, k ≠ g → w'.heap[k]? = w.heap[k]?) ∧
      ∃ cur', w'.heap[g]? = some (.cells cur' t (lo, hi)) ∧ cur'.size = cur.size ∧ ∀ k, cur'[k]? = if k < o + i then cur[k]? else if k < o + i + vs.length then vs[k - (o + i)]? else cur[k]?
  | [], i, cur, w, hg, _, _, _ => ⟨w, rfl, rfl, rfl, rfl, rfl, fun _ _ => rfl, cur, hg, rfl, fun k => by
      by_cases h1 : k < o + i
      · rw [if_pos h1]
      · rw [if_neg h1, if_neg (by simpa using h1)]⟩
  | v :: rest, i, cur, w, hg, hm, hl, h1 => by
    simp only [List.length_cons] at hl
    have hi' : o + i < cur.size := by omega
    have hcell : w.cell? ⟨g, o + i, none⟩ = some cur[o + i] := by simp [World.cell?, hg, hi']
    have hfro : w.frozen? ⟨g, o + i, none⟩ = false := by
      have := hm (o + i) hi'
      simp only [World.frozen?, hg]
      rw [Bool.and_eq_false_iff, decide_eq_false_iff_not, decide_eq_false_iff_not]
      rcases Nat.lt_or_ge (o + i) lo with h | h
      · left; omega
      · right; intro h2; exact this ⟨h, h2⟩
    have hst : (store ((⟨g, o, none⟩ : Addr).add i) v).run P w = .ok () (w.setCell ⟨g, o + i, none⟩ v) := by
      rw [add_off, run_store P w _ v _ (h1 v (by simp)), hcell]
      simp [hfro]
    have hset : (w.setCell ⟨g, o + i, none⟩ v).heap[g]? = some (.cells (cur.setIfInBounds (o + i) v) t (lo, hi)) := by
      simp only [World.setCell, Array.getElem?_modify, if_true, hg, Option.map_some]; rfl
    obtain ⟨w', r1, r2, r3, r4, r5, r6, cur', r7, r8, r9⟩ := run_storeCells_row g o t lo hi rest (i + 1) (cur.setIfInBounds (o + i) v) (w.setCell ⟨g, o + i, none⟩ v) hset (by simpa using hm) (by simp; omega) (fun x hx => h1 x (by simp [hx]))
    refine ⟨w', ?_, r2, r3, r4, by rw [r5]; simp, fun k hk => ?_, cur', r7, by rw [r8]; simp, fun k => ?_⟩
    · simp only [storeCells, Sem.run_bind, hst, Result.andThen_ok, r1]
    · rw [r6 k hk]; exact Go.RowKit.Below.heap_setCell _ _ _ _ hk
    · rw [r9 k, Array.getElem?_setIfInBounds]
      simp only [List.length_cons]
      by_cases a : k < o + i
      · rw [if_pos (by omega), if_neg (by omega), if_pos a]
      · by_cases b : k = o + i
        · subst b
          rw [if_pos (by omega), if_pos rfl, if_pos hi', if_neg (by omega), if_pos (by omega)]; simp
        · rw [if_neg (show ¬ k < o + (i + 1) by omega), if_neg a]
          by_cases d : k < o + (i + 1) + rest.length
          · rw [if_pos d, if_pos (by omega), show k - (o + i) = k - (o + (i + 1)) + 1 from by omega]; simp
          · rw [if_neg d, if_neg (by omega), if_neg (by omega)]

theorem storeL_length {xs cs : List AV} {off : Nat} (h : off + cs.length ≤ xs.length) : (storeL xs off cs).length = xs.length := by
  unfold storeL
  split
  · simp
  · exact splice_length h
theorem storeL_get {xs cs : List AV} {off i : Nat} (h : off + cs.length ≤ xs.length) : (storeL xs off cs)[i]? = if i < off then xs[i]? else if i < off + cs.length then cs[i - off]? else xs[i]? := by
  unfold storeL
  split
  · rename_i c
    simp only [List.length_singleton] at h ⊢
    rw [List.getElem?_set]
    by_cases a : i < off
    · rw [if_pos a, if_neg (by omega)]
    · by_cases b : off = i
      · subst b; rw [if_pos rfl, if_pos (by omega), if_neg a, if_pos (by omega)]; simp
      · rw [if_neg b, if_neg a, if_neg (by omega)]
  · exact splice_get h

/-- Cells of a known row laid into an own object. -/
theorem store_own (h : Inv c σ I w hp un) {id off : Nat} {xs ys zs : List AV} {us : List Value} (ho : hp id = some (.cells xs true)) {blk base sz : Nat} (hl : σ id = .at_ blk base sz)
    (hfit : off + ys.length ≤ xs.length) (hu : us.length = ys.length) (hc : ∀ i (_h : i < ys.length), ys[i].isCell = true) (hr : ∀ i (_h : i < ys.length), Rel σ I w ys[i] (us.getD i undef))
    (hzl : zs.length = xs.length) (hz : ∀ i : Nat, zs[i]? = if i < off then xs[i]? else if i < off + ys.length then ys[i - off]? else xs[i]?) :
    ∃ w', (storeCells ⟨blk, base + off, none⟩ us 0).run P w = .ok () w' ∧ Inv c σ I w' (upd hp id (.cells zs true)) un ∧ Grow σ I w σ I w' := by
  have hown := h.own id _ ho
  have hrow := own_row hown hl
  simp only [OwnRel, hl] at hown
  obtain ⟨⟨⟨cs, T, lo, hi, g1, g2, g3, g4, g5⟩, g6⟩, g7, _⟩ := hown
  have hnI := g7 trivial
  have h1 : ∀ v ∈ us, v.oneCell' = true := by
    intro v hv
    obtain ⟨i, hi, rfl⟩ := List.getElem_of_mem hv
    have := hr i (by omega)
    rw [List.getD_eq_getElem?_getD, List.getElem?_eq_getElem hi] at this
    exact this.oneCell (hc i (by omega))
  obtain ⟨w', r1, r2, r3, r4, r5, r6, cur', r7, r8, r9⟩ := run_storeCells_row (P := P) blk (base + off) T lo hi us 0 cs w g1 (by rw [g2]; exact g4.out) (by omega) h1
  have hw : ∀ k, I k → w'.heap[k]? = w.heap[k]? := fun k hk => r6 k (fun e => hnI (e ▸ hk))
  refine ⟨w', r1, h.setRow ho hl r2 r3 r4 r5 r6 (fun i hi => ?_) (fun cs2 T2 lo2 hi2 e1 e2 => ?_), ⟨fun _ _ => rfl, fun _ h => h, hw⟩⟩
  · have := hz i
    rw [List.getElem?_eq_getElem hi] at this
    split at this
    · obtain ⟨hlt, e⟩ := List.getElem?_eq_some_iff.1 this.symm
      rw [← e]; exact g6 i hlt
    · split at this
      · obtain ⟨hlt, e⟩ := List.getElem?_eq_some_iff.1 this.symm
        rw [← e]; exact hc _ hlt
      · obtain ⟨hlt, e⟩ := List.getElem?_eq_some_iff.1 this.symm
        rw [← e]; exact g6 i hlt
  · rw [g1] at e1
    obtain ⟨rfl, rfl, e3⟩ := Obj.cells.inj (Option.some.inj e1)
    obtain ⟨rfl, rfl⟩ := Prod.mk.inj e3
    refine ⟨cur', r7, by rw [r8]; exact e2, by omega, fun i hi => ?_⟩
    have := hz i
    rw [List.getElem?_eq_getElem hi] at this
    rw [Array.getD_eq_getD_getElem?, r9 (base + i)]
    have old : ∀ (hlt : i < xs.length), zs[i] = xs[i] → (base + i < base + off + 0 ∨ ¬ base + i < base + off + 0 + us.length) → Rel σ I w zs[i] ((if base + i < base + off + 0 then cs[base + i]? else if base + i < base + off + 0 + us.length then us[base + i - (base + off + 0)]? else cs[base + i]?).getD undef) := by
      intro hlt e hh
      have g := g5 i hlt
      rw [Array.getD_eq_getD_getElem?] at g
      rw [e]
      rcases hh with hh | hh
      · rw [if_pos hh]; exact g
      · rw [if_neg (by omega), if_neg hh]; exact g
    split at this
    · obtain ⟨hlt, e⟩ := List.getElem?_eq_some_iff.1 this.symm
      exact old hlt e.symm (.inl (by omega))
    · split at this
      · obtain ⟨hlt, e⟩ := List.getElem?_eq_some_iff.1 this.symm
        have g := hr _ hlt
        rw [List.getD_eq_getElem?_getD] at g
        rw [if_neg (by omega), if_pos (by omega), show base + i - (base + off + 0) = i - off from by omega, ← e]; exact g
      · obtain ⟨hlt, e⟩ := List.getElem?_eq_some_iff.1 this.symm
        exact old hlt e.symm (.inr (by omega))

theorem del_sub (hp : H) (id : Nat) : ∀ k o, del hp id k = some o → hp k = some o := by
  intro k o h; rw [del_apply] at h; split at h
  · cases h
  · exact h

/-- An own slice that is laid into another object: from then on a plain one. -/
theorem frz_sound : ∀ (ys : List AV) {hp : H} {I : Nat → Prop} (us : Nat → Value) {p : List AV × H}, frzRec hp ys = some p → Inv c σ I w hp un → (∀ i (_h : i < ys.length), ys[i].isCell = true ∧ Rel σ I w ys[i] (us i)) →
    ∃ I', Inv c σ I' w p.2 un ∧ Grow σ I w σ I' w ∧ p.1.length = ys.length ∧ (∀ i (_h : i < p.1.length), p.1[i].isCell = true ∧ Rel σ I' w p.1[i] (us i)) ∧ (∀ k, I' k → I k ∨ ∃ id xs mt base sz, hp id = some (.cells xs mt) ∧ σ id = .at_ k base sz) ∧ (∀ id, p.2 id = none → hp id = none)
  | [], hp, I, us, p, h, hi, hr => by
    obtain rfl := Option.some.inj h
    exact ⟨I, hi, Grow.refl _ _ _, rfl, hr, fun k hk => .inl hk, fun _ h => h⟩
  | x :: r, hp, I, us, p, h, hi, hr => by
    simp only [frzRec] at h
    have h0 := hr 0 (by simp)
    simp only [List.getElem_cons_zero] at h0
    have other : ∀ (hx : obind (frzRec hp r) (fun p => some (x :: p.1, p.2)) = some p), ∃ I', Inv c σ I' w p.2 un ∧ Grow σ I w σ I' w ∧ p.1.length = (x :: r).length ∧ (∀ i (_h : i < p.1.length), p.1[i].isCell = true ∧ Rel σ I' w p.1[i] (us i)) ∧ (∀ k, I' k → I k ∨ ∃ id xs mt base sz, hp id = some (.cells xs mt) ∧ σ id = .at_ k base sz) ∧ (∀ id, p.2 id = none → hp id = none) := by
      intro hx
      obtain ⟨q, hq, hx⟩ := obind_inv hx
      obtain rfl := Option.some.inj hx
      obtain ⟨I', a1, a2, a3, a4, a5, a6⟩ := frz_sound r (fun i => us (i + 1)) hq hi (fun i hi => by have := hr (i + 1) (by simpa using hi); simpa using this)
      refine ⟨I', a1, a2, by simp [a3], fun i hi => ?_, a5, a6⟩
      cases i with
      | zero => exact ⟨h0.1, h0.2.grow a2⟩
      | succ k => exact a4 k (by simpa using hi)
    split at h
    · rename_i id off n e g
      obtain ⟨o, ho, h⟩ := obind_inv h
      obtain ⟨xs, mt, rfl⟩ : ∃ a b, o = AO.cells a b := by cases o <;> first | exact ⟨_, _, rfl⟩ | (simp at h)
      simp only at h
      obtain ⟨hfit, h⟩ := guardO_inv h
      obtain ⟨q, hq, h⟩ := obind_inv h
      obtain rfl := Option.some.inj h
      have hfz : ∃ I1, (∀ k, I k → I1 k) ∧ (∀ k, I1 k → I k ∨ ∃ base sz, σ id = .at_ k base sz) ∧ Inv c σ I1 w (upd hp id (.cells xs false)) un := by
        cases mt with
        | true => exact hi.freeze ho
        | false =>
          refine ⟨I, fun _ h => h, fun k hk => .inl hk, ?_⟩
          have : upd hp id (.cells xs false) = hp := by funext k; rw [upd_apply]; split
                                                        · rename_i e; rw [e, ho]
                                                        · rfl
          rw [this]; exact hi
      obtain ⟨I1, f1, f2, f3⟩ := hfz
      have hg1 : Grow σ I w σ I1 w := ⟨fun _ _ => rfl, f1, fun _ _ => rfl⟩
      obtain ⟨I', a1, a2, a3, a4, a5, a6⟩ := frz_sound r (fun i => us (i + 1)) hq f3 (fun i hi => by
        have := hr (i + 1) (by simpa using hi)
        simp only [List.getElem_cons_succ] at this
        exact ⟨this.1, this.2.grow hg1⟩)
      refine ⟨I', a1, hg1.trans a2, by simp [a3], fun i hi => ?_, fun k hk => ?_, fun k hk => ?_⟩
      · cases i with
        | succ k => exact a4 k (by simpa using hi)
        | zero =>
          refine ⟨rfl, ?_⟩
          simp only [List.getElem_cons_zero]
          have hown := f3.own id (.cells xs false) (by rw [upd_apply, if_pos rfl])
          have hlen : ((xs.drop off).take (n * e)).length = n * e := by simp; omega
          generalize hus : us 0 = u0 at h0 ⊢
          cases h0.2 with
          | os _ _ _ _ _ blk base sz cap g1 g2 g3 =>
            have hrow := own_row hown g1
            simp only [OwnRel, g1] at hown
            have hI1 := hown.2.2 trivial
            refine Rel.grow (.sl n _ blk (base + off) cap (fun i => (w.cell? ⟨blk, base + off + i, none⟩).getD undef) hI1 g2 (fun i hi => ?_) (fun i hi => ?_) (fun i hi => ?_)) a2
            · rw [hlen] at hi
              obtain ⟨v, hv, _⟩ := hrow.get (off + i) (by omega)
              rw [← Nat.add_assoc] at hv; rw [hv]; rfl
            · rw [hlen] at hi
              rw [getElem_take', getElem_drop']; exact (hrow.get (off + i) (by omega)).choose_spec.2.1
            · rw [hlen] at hi
              rw [getElem_take', getElem_drop']
              obtain ⟨v, hv, _, hrel⟩ := hrow.get (off + i) (by omega)
              rw [← Nat.add_assoc] at hv; rw [hv]; exact hrel
          | osnil _ _ _ g1 => simp only [Nat.zero_mul, List.take_zero]; exact .slnil
          | oszero _ _ _ _ a g1 => simp only [Nat.zero_mul, List.take_zero]; exact .slzero a
      · rcases a5 k hk with hk | ⟨id', xs', mt', base, sz, e1, e2⟩
        · rcases f2 k hk with hk | ⟨base, sz, e2⟩
          · exact .inl hk
          · exact .inr ⟨id, xs, mt, base, sz, ho, e2⟩
        · rw [upd_apply] at e1
          split at e1
          · rename_i e; subst e; exact .inr ⟨id', xs, mt, base, sz, ho, e2⟩
          · exact .inr ⟨id', xs', mt', base, sz, e1, e2⟩
      · have := a6 k hk
        rw [upd_apply] at this
        split at this
        · cases this
        · exact this
    · exact other h

end
end Go.AX

namespace Go.AX
open Go
open Go.MapKept (run_checkKey run_findKey run_keyThatStays stamped_push stamped_modify stamped_erase stamped_empty Stamped)
section
variable {P : Program} {c : Ctx} {σ : Nat → Loc} {I : Nat → Prop} {w : World} {hp : H} {un : Nat → Prop}

theorem keyD_noMem {d : TypeDesc} {x : AV} (h : keyD d x = true) : x.noMem = true := by
  unfold keyD at h
  split at h <;> first | (cases h; done) | rfl
theorem frz1_sound {x : AV} {v : Value} {p : AV × H} (h : frz1 hp x = some p) (hi : Inv c σ I w hp un) (hx : Rel σ I w x v) :
    ∃ I', Inv c σ I' w p.2 un ∧ Grow σ I w σ I' w ∧ Rel σ I' w p.1 v := by
  unfold frz1 at h
  split at h
  · rename_i i off n e g
    replace h := obind_inv h; obtain ⟨o, ho, h⟩ := h
    obtain ⟨xs, mt, rfl⟩ : ∃ a b, o = AO.cells a b := by cases o <;> first | exact ⟨_, _, rfl⟩ | (simp at h)
    simp only at h
    replace h := guardO_inv h; obtain ⟨hfit, h⟩ := h
    obtain rfl := Option.some.inj h
    have hf : frzRec hp [.os i off n e g] = some ([.sl n ((xs.drop off).take (n * e))], upd hp i (.cells xs false)) := by
      simp [frzRec, ho, obind, guardO, hfit]
    obtain ⟨I', a1, a2, a3, a4, _, _⟩ := frz_sound [.os i off n e g] (fun _ => v) hf hi (fun j hj => by
      obtain rfl : j = 0 := by simpa using hj
      exact ⟨rfl, hx⟩)
    exact ⟨I', a1, a2, (a4 0 (by simp)).2⟩
  · obtain rfl := Option.some.inj h
    cases hx
    exact ⟨I, hi, Grow.refl _ _ _, .slnil⟩
  · obtain rfl := Option.some.inj h
    exact ⟨I, hi, Grow.refl _ _ _, hx⟩
theorem setMap (h : Inv c σ I w hp un) {id blk : Nat} {es es' : List (AV × AV)} {ents' : Array MapEntry} {cl' : Nat} {o : Obj} (ho : hp id = some (.mapo es true)) (hl : σ id = .at_ blk 0 0) (hb : w.heap[blk]? = some o)
    (hs : ents'.size = es'.length) (hst : Stamped ents' cl') (hr : ∀ i (h : i < es'.length), es'[i].1.noMem = true ∧ Rel σ I w es'[i].1 (ents'.getD i default).key ∧ Rel σ I w es'[i].2 (ents'.getD i default).val) :
    Inv c σ I { w with heap := w.heap.setIfInBounds blk (.map ents' cl') } (upd hp id (.mapo es' true)) un ∧ Grow σ I w σ I { w with heap := w.heap.setIfInBounds blk (.map ents' cl') } := by
  have hnI := (h.own id _ ho).nI rfl hl
  obtain ⟨e1, e2⟩ := Go.MapKept.heap_set (o' := .map ents' cl') hb
  have hw : ∀ k, I k → (w.heap.setIfInBounds blk (.map ents' cl'))[k]? = w.heap[k]? := fun k hk => e2 k (fun e => hnI (e ▸ hk))
  refine ⟨h.setO (w' := { w with heap := w.heap.setIfInBounds blk (.map ents' cl') }) ho rfl hl rfl rfl rfl (by simp) e2 (.mapo es' true) rfl ?_, ⟨fun _ _ => rfl, fun _ h => h, hw⟩⟩
  exact ⟨blk, hl, ⟨⟨ents', cl', e1, hs, hst, fun i hi => ⟨(hr i hi).1, (hr i hi).2.1.mono (fun _ _ => rfl) (fun _ h => h) hw, (hr i hi).2.2.mono (fun _ _ => rfl) (fun _ h => h) hw⟩⟩⟩, fun _ => hnI, fun h => by cases h⟩
theorem mp_at {id blk : Nat} {a : Value} {σ : Nat → Loc} {I : Nat → Prop} {w : World} (hx : Rel σ I w (.mp id) a) (hl : σ id = .at_ blk 0 0) : a = .map (some blk) := by
  cases hx with
  | mp _ blk' e => rw [e] at hl; cases hl; rfl
theorem mapUp_sound {t : TypeId} {m k x y : AV} {hp' : H} {a key v : Value} (h : mapUp P t m k x hp = some (y, hp')) (hm : Rel σ I w m a) (hk : Rel σ I w k key) (hx : Rel σ I w x v) (hi : Inv c σ I w hp un) :
    ∃ w' I', (Instr.mapUpdate t a key v).run P w = .ok () w' ∧ y = .junk ∧ Inv c σ I' w' hp' un ∧ Grow σ I w σ I' w' := by
  unfold mapUp at h
  split at h
  rotate_left
  · cases h
  rename_i kt et ht
  replace h := obind_inv h; obtain ⟨d, hd, h⟩ := h
  replace h := guardO_inv h; obtain ⟨hkd, h⟩ := h
  split at h
  rotate_left
  · cases h
  rename_i id
  replace h := obind_inv h; obtain ⟨⟨x1, hp1⟩, hf, h⟩ := h
  obtain ⟨I1, i1, g1, r1⟩ := frz1_sound hf hi hx
  simp only at i1 r1 h
  replace h := obind_inv h; obtain ⟨o, ho, h⟩ := h
  obtain ⟨es, mt, rfl⟩ : ∃ a b, o = AO.mapo a b := by cases o <;> first | exact ⟨_, _, rfl⟩ | (simp [mapO] at h)
  simp only [mapO] at h
  replace h := guardO_inv h; obtain ⟨rfl, h⟩ := h
  replace h := obind_inv h; obtain ⟨es', he, h⟩ := h
  obtain ⟨rfl, rfl⟩ := Prod.mk.inj (Option.some.inj h)
  obtain ⟨blk, b1, ⟨⟨ents, cl, q1, q2, q3, q4⟩⟩, _⟩ := i1.own id _ ho
  obtain rfl := mp_at hm b1
  have hk1 := hk.grow g1
  have hik := keyD_isKey hkd hk
  unfold mput at he
  replace he := obind_inv he; obtain ⟨oj, hj, he⟩ := he
  obtain rfl := Option.some.inj he
  have hl : ents.toList.length = es.length := by simpa using q2
  rcases find_sound hkd hk1 es ents.toList 0 oj hl (fun j hj => by rw [getD_toList]; exact (q4 j hj).2.1) hj with ⟨rfl, f1, f2⟩ | ⟨j, e, rfl, hj', f1, f2, f3⟩
  · obtain ⟨n1, n2⟩ := setMap i1 (es' := es ++ [(k, x1)]) (ents' := ents.push { key := key, val := v, born := cl }) (cl' := cl + 1) ho b1 q1 (by simp [q2]) (stamped_push q3 f2) (fun i hi => by
      by_cases hlt : i < es.length
      · have e1 : (ents.push { key := key, val := v, born := cl }).getD i default = ents.getD i default := by
          rw [Array.getD_eq_getD_getElem?, Array.getD_eq_getD_getElem?, Array.getElem?_push, if_neg (by omega)]
        rw [List.getElem_append_left hlt, e1]; exact q4 i hlt
      · have hi' : i = es.length := by simp at hi; omega
        subst hi'
        have e1 : (ents.push { key := key, val := v, born := cl }).getD es.length default = { key := key, val := v, born := cl } := by
          rw [Array.getD_eq_getD_getElem?, Array.getElem?_push, if_pos q2.symm]; rfl
        rw [e1]
        simp only [List.getElem_concat_length]
        exact ⟨keyD_noMem hkd, hk1, r1⟩)
    refine ⟨_, I1, ?_, rfl, n1, g1.trans n2⟩
    simp [Instr.mapUpdate, run_underlying ht, Go.MapKept.run_getObj_map q1, run_checkKey hd hik, run_findKey hd f1, Go.MapKept.run_setObj_map _ q1, Result.andThen]
  · have hj1 : ents[j]? = some e := by simpa using f2
    have hjs : j < ents.size := by omega
    obtain ⟨n1, n2⟩ := setMap i1 (es' := es.set j (k, x1)) (ents' := ents.modify j fun e => { e with key := key, val := v }) (cl' := cl) ho b1 q1 (by simp [q2]) (stamped_modify q3 _ _ (fun _ _ => rfl) (fun e' _ he' => by rw [hj1] at he'; cases he'; exact f3.symm)) (fun i hi => by
      have hlt : i < es.length := by simpa using hi
      rw [List.getElem_set]
      have e1 : (ents.modify j fun e => { e with key := key, val := v }).getD i default = if j = i then { (ents.getD i default) with key := key, val := v } else ents.getD i default := by
        rw [Array.getD_eq_getD_getElem?, Array.getD_eq_getD_getElem?, Array.getElem?_modify]
        split
        · rw [Array.getElem?_eq_getElem (by omega)]; rfl
        · rfl
      rw [e1]
      by_cases hji : j = i
      · rw [if_pos hji, if_pos hji]; exact ⟨keyD_noMem hkd, hk1, r1⟩
      · rw [if_neg hji, if_neg hji]; exact q4 i hlt)
    refine ⟨_, I1, ?_, rfl, n1, g1.trans n2⟩
    have f1' : Instr.findNow d key ents.toList 0 = some (some (j, e.val)) := by rw [f1]; simp
    simp [Instr.mapUpdate, run_underlying ht, Go.MapKept.run_getObj_map q1, run_checkKey hd hik, run_findKey hd f1', hj1, f3, run_keyThatStays hik, Go.MapKept.run_setObj_map _ q1, Result.andThen]
theorem delA_sound {t t' ty : TypeId} {m k y : AV} {hp' : H} {a key : Value} (h : delA P t m k hp = some (y, hp')) (hm : Rel σ I w m a) (hk : Rel σ I w k key) (hi : Inv c σ I w hp un) :
    ∃ v w', (Builtin.delete_ #[t, t'] ty #[a, key]).run P w = .ok v w' ∧ Rel σ I w' y v ∧ Inv c σ I w' hp' un ∧ Grow σ I w σ I w' := by
  unfold delA at h
  split at h
  rotate_left
  · cases h
  rename_i kt et ht
  replace h := obind_inv h; obtain ⟨d, hd, h⟩ := h
  replace h := guardO_inv h; obtain ⟨hkd, h⟩ := h
  split at h
  rotate_left
  · cases h
  rename_i id
  replace h := obind_inv h; obtain ⟨o, ho, h⟩ := h
  obtain ⟨es, mt, rfl⟩ : ∃ a b, o = AO.mapo a b := by cases o <;> first | exact ⟨_, _, rfl⟩ | (simp [delO] at h)
  simp only [delO] at h
  replace h := guardO_inv h; obtain ⟨rfl, h⟩ := h
  replace h := obind_inv h; obtain ⟨es', he, h⟩ := h
  obtain ⟨rfl, rfl⟩ := Prod.mk.inj (Option.some.inj h)
  obtain ⟨blk, b1, ⟨⟨ents, cl, q1, q2, q3, q4⟩⟩, _⟩ := hi.own id _ ho
  obtain rfl := mp_at hm b1
  have hik := keyD_isKey hkd hk
  unfold mdel at he
  replace he := obind_inv he; obtain ⟨oj, hj, he⟩ := he
  obtain rfl := Option.some.inj he
  have hl : ents.toList.length = es.length := by simpa using q2
  rcases find_sound hkd hk es ents.toList 0 oj hl (fun j hj => by rw [getD_toList]; exact (q4 j hj).2.1) hj with ⟨rfl, f1, f2⟩ | ⟨j, e, rfl, hj', f1, f2, f3⟩
  · obtain ⟨n1, n2⟩ := setMap hi (es' := es) (ents' := ents) (cl' := cl) ho b1 q1 q2 q3 q4
    refine ⟨.tuple #[], _, ?_, .tup [] #[] rfl (fun j hj => by simp at hj), n1, n2⟩
    simp [Builtin.delete_, run_underlying ht, Go.MapKept.run_getObj_map q1, run_checkKey hd hik, run_findKey hd f1, Go.MapKept.run_setObj_map _ q1, Result.andThen]
  · have hjs : j < ents.size := by omega
    have f1' : Instr.findNow d key ents.toList 0 = some (some (j, e.val)) := by rw [f1]; simp
    have hers : ents.eraseIdxIfInBounds j = ents.eraseIdx j hjs := by unfold Array.eraseIdxIfInBounds; rw [dif_pos hjs]
    obtain ⟨n1, n2⟩ := setMap hi (es' := es.eraseIdx j) (ents' := ents.eraseIdxIfInBounds j) (cl' := cl) ho b1 q1 (by rw [hers]; simp [List.length_eraseIdx, hj', q2]) (stamped_erase q3 j) (fun i hi => by
      have hil : i < es.length - 1 := by simpa [List.length_eraseIdx, hj'] using hi
      have e1 : (ents.eraseIdxIfInBounds j).getD i default = if i < j then ents.getD i default else ents.getD (i + 1) default := by
        rw [hers, Array.getD_eq_getD_getElem?, Array.getElem?_eraseIdx]
        split <;> rw [Array.getD_eq_getD_getElem?]
      rw [e1, List.getElem_eraseIdx]
      split
      · exact q4 i _
      · exact q4 (i + 1) _)
    refine ⟨.tuple #[], _, ?_, .tup [] #[] rfl (fun j hj => by simp at hj), n1, n2⟩
    simp [Builtin.delete_, run_underlying ht, Go.MapKept.run_getObj_map q1, run_checkKey hd hik, run_findKey hd f1', Go.MapKept.run_setObj_map _ q1, Result.andThen]
theorem clrM_sound {t ty kt et : TypeId} {id : Nat} {o : AO} {y : AV} {a : Value} {hp' : H} (ht : P.underlying t = some (.map kt et)) (h : clrO id hp o = some (y, hp')) (ho : hp id = some o) (hm : Rel σ I w (.mp id) a) (hi : Inv c σ I w hp un) :
    ∃ v w', (Builtin.clear_ #[t] ty #[a]).run P w = .ok v w' ∧ Rel σ I w' y v ∧ Inv c σ I w' hp' un ∧ Grow σ I w σ I w' := by
  obtain ⟨es, mt, rfl⟩ : ∃ a b, o = AO.mapo a b := by cases o <;> first | exact ⟨_, _, rfl⟩ | (simp [clrO] at h)
  simp only [clrO] at h
  replace h := guardO_inv h; obtain ⟨rfl, h⟩ := h
  obtain ⟨rfl, rfl⟩ := Prod.mk.inj (Option.some.inj h)
  obtain ⟨blk, b1, ⟨⟨ents, cl, q1, q2, q3, q4⟩⟩, _⟩ := hi.own id _ ho
  obtain rfl := mp_at hm b1
  obtain ⟨n1, n2⟩ := setMap hi (es' := []) (ents' := #[]) (cl' := cl) ho b1 q1 rfl (stamped_empty cl) (fun i hi => by simp at hi)
  refine ⟨.tuple #[], _, ?_, .tup [] #[] rfl (fun j hj => by simp at hj), n1, n2⟩
  simp [Builtin.clear_, run_underlying ht, Go.MapKept.run_getObj_map q1, Go.MapKept.run_setObj_map _ q1, Result.andThen]
theorem makeM_sound {t : TypeId} {id : Nat} (hi : Inv c σ I w hp un) (hu : un id) :
    ∃ v w' σ', (Instr.makeMap t none).run P w = .ok v w' ∧ Rel σ' I w' (.mp id) v ∧ Inv c σ' I w' (upd hp id (.mapo [] true)) (fun k => un k ∧ k ≠ id) ∧ Grow σ I w σ' I w' := by
  refine ⟨.map (some w.heap.size), w.alloc (.map #[] 0), setLoc σ id (.at_ w.heap.size 0 0), ?_, .mp id _ (by simp [setLoc]), hi.allocMap hu, ⟨setLoc_ext (hi.un id hu), fun _ h => h, fun k hk => heap_push_old w _ k (hi.ilt k hk)⟩⟩
  simp [Instr.makeMap, Result.andThen]
end
end Go.AX

namespace Go.AX
open Go
section
variable {P : Program} {c : Ctx} {σ : Nat → Loc} {I : Nat → Prop} {w : World} {hp : H} {un : Nat → Prop}

/-- What an append or a copy takes its cells from. -/
structure Src (P : Program) (σ : Nat → Loc) (I : Nat → Prop) (w : World) (z : Nat) (v : Value) (m : Nat) (ys : List AV) (news : List Value) : Prop where
  len : (Builtin.lenOf v).run P w = .ok m w
  first : ∀ w' : World, w'.heap = w.heap → ∀ k, k ≤ m → (Builtin.firstCells z k v).run P w' = .ok (news.take (k * z)).toArray w'
  size : ys.length = m * z
  nsize : news.length = ys.length
  rel : ∀ i (_h : i < ys.length), ys[i].isCell = true ∧ Rel σ I w ys[i] (news.getD i undef)

theorem src_run {z m : Nat} {y : AV} {ys : List AV} {v : Value} (h : srcA hp z y = some (m, ys)) (hy : Rel σ I w y v) (hown : ∀ id o, hp id = some o → OwnRel σ I w id o) :
    ∃ news, Src P σ I w z v m ys news := by
  have other : slCells hp z y = some (m, ys) → ∃ news, Src P σ I w z v m ys news := by
    intro h
    obtain ⟨h1, h2, a, cap, vs, rfl, h3, h4, h5⟩ := slCells_run h hy hown
    refine ⟨vs.toList, rfl, fun w' hw' k hk => ?_, h1, by simpa using h3, fun i hi => ⟨h2 i hi, by have := h4 i hi; rwa [← Array.toArray_toList (xs := vs), getD_list] at this⟩⟩
    cases a with
    | none => simp only at h5; subst h5; obtain rfl : k = 0 := by omega
              simp [run_firstCells_none]
    | some a =>
      simp only at h5
      exact run_firstCells_some w' z k a m cap _ (by rw [List.length_take, Array.length_toList, h3, h1]; exact Nat.min_eq_left (Nat.mul_le_mul_right _ hk)) (fun j v hj => by
        rw [List.getElem?_take] at hj
        split at hj
        · have := h5 j v hj; simp only [World.cell?, hw']; exact this
        · cases hj)
  unfold srcA at h
  split at h
  · rename_i l
    obtain ⟨rfl, h⟩ := guardO_inv h
    obtain ⟨rfl, rfl⟩ := Prod.mk.inj (Option.some.inj h)
    obtain rfl := s_inv hy
    refine ⟨l.map fun x => Value.int .u8 (x.toNat : Int), ?_, fun w' _ k hk => ?_, by simp, by simp, fun i hi => ?_⟩
    · simp [Builtin.lenOf, encS_size]
    · simp only [Builtin.firstCells, Sem.run_pure, Nat.mul_one]
      congr 1
      apply Array.ext'
      simp [encS, ByteArray.data_extract, List.map_take, Function.comp_def]
    · simp at hi
      have e : (l.map fun x => Value.int .u8 (x.toNat : Int)).getD i undef = .int .u8 (l[i].toNat : Int) := by
        rw [List.getD_eq_getElem?_getD, List.getElem?_map, List.getElem?_eq_getElem hi]; rfl
      rw [e, List.getElem_map]
      exact ⟨rfl, .w8 _⟩
  · exact other h

theorem noIntT_inv {t : TypeId} (h : noIntT P t = true) : ∃ d, P.underlying t = some d ∧ ∀ k, d ≠ .int k := by
  unfold noIntT at h
  split at h
  · cases h
  · rename_i d hne hd
    exact ⟨d, hd, fun k e => by subst e; exact hne k rfl⟩
  · cases h

section app
variable {t t' ty e : TypeId} {z by_ m : Nat} {v : Value} {ys : List AV} {news : List Value} (ht : P.underlying t = some (.slice e)) (ht' : noIntT P t' = true) (hz : szOf P e = some z) (hby : byOf P e = some by_)
  (hs : Src P σ I w z v m ys news)
include ht ht' hz hs

theorem run_append_in (base : Option Addr) (sLen sCap : Nat) (hroom : sLen + m ≤ sCap) :
    (Builtin.append_ #[t, t'] ty #[.slice base sLen sCap, v]).run P w =
      ((match base with | some a => storeCells (a.add (sLen * z)) news | none => pure () : Sem Unit).run P w).andThen fun _ w' => .ok (.slice base (sLen + m) sCap) w' := by
  obtain ⟨d, hd, hdi⟩ := noIntT_inv ht'
  have hf := hs.first w rfl m (Nat.le_refl _)
  rw [List.take_of_length_le (by rw [hs.nsize, hs.size]; exact Nat.le_refl _)] at hf
  cases d with
  | int k => exact absurd rfl (hdi k)
  | _ =>
    simp only [Builtin.append_, List.getElem?_toArray, List.getElem?_cons_zero, List.getElem?_cons_succ, Sem.run_bind, run_underlying ht, Result.andThen_ok, run_sizeOf' hz, run_underlying hd, Sem.run_pure, Bool.false_eq_true, if_false, hs.len,
      if_pos hroom, Bool.not_false, if_true, hf]
    cases base with
    | none => rfl
    | some a => simp only [Sem.run_bind]; rfl

include hby
theorem run_append_out {zv : Value} (hzv : ∀ w, (zeroValue e).run P w = .ok zv w) (base : Option Addr) (sLen sCap : Nat) (old : List Value) (hold : ∀ w', w'.heap = w.heap → (Builtin.firstCells z sLen (.slice base sLen sCap)).run P w' = .ok old.toArray w')
    (hgrow : sCap < sLen + m) (h63 : sLen + m ≤ 140737488355328) (hb : (sLen + m) * by_ ≤ 140737488355328) :
    (Builtin.append_ #[t, t'] ty #[.slice base sLen sCap, v]).run P w =
      .ok (.slice (some ⟨w.heap.size, 0, none⟩) (sLen + m) (grownCap w (sLen + m) sCap e))
        (w.drew.alloc (.cells (old.toArray ++ news.toArray ++ Builtin.zeroCells zv.cells (grownCap w (sLen + m) sCap e - (sLen + m))) e)) := by
  obtain ⟨d, hd, hdi⟩ := noIntT_inv ht'
  obtain ⟨i, hi, hib⟩ := byOf_inv hby
  have hf := hs.first w.drew rfl m (Nat.le_refl _)
  rw [List.take_of_length_le (by rw [hs.nsize, hs.size]; exact Nat.le_refl _)] at hf
  have hold' := hold w.drew rfl
  have n1 : ¬ sLen + m ≤ sCap := by omega
  have n2 : ¬ (((sLen + m : Nat) : Int) > IntKind.i64.max ∧ (False ∨ i.bytes = 0)) := by
    have e1 : IntKind.i64.max = 9223372036854775807 := by decide
    rw [e1]; omega
  have n3 : ¬ (Builtin.nextslicecap (sLen + m) sCap * i.bytes > 2 ^ 48) := by
    have := growslice_fits hgrow (bytes := by_) hb
    rw [hib]; have e1 : (2 : Nat) ^ 48 = 281474976710656 := by decide
    omega
  cases d with
  | int k => exact absurd rfl (hdi k)
  | _ =>
    simp only [Builtin.append_, List.getElem?_toArray, List.getElem?_cons_zero, List.getElem?_cons_succ, Sem.run_bind, run_underlying ht, Result.andThen_ok, run_sizeOf' hz, run_underlying hd, Sem.run_pure, Bool.false_eq_true, if_false, hs.len,
      if_neg n1, run_typeInfo' hi, Bool.not_false, if_true]
    rw [if_neg n2]
    simp only [Sem.run_bind, run_typeInfo' hi, Result.andThen_ok, if_neg n3]
    simp only [run_choose, Question.forced, Bool.false_eq_true, if_false, Result.andThen_ok, run_askRoom]
    have e0 : ({ w with drawn := w.drawn + 1 } : World) = w.drew := rfl
    simp only [e0, hold', hf, Result.andThen_ok, hzv, newRow, Sem.run_bind, run_newObj, Sem.run_pure]
    rfl
end app

theorem Src.grow {σ' : Nat → Loc} {I' : Nat → Prop} {z : Nat} {v : Value} {m : Nat} {ys : List AV} {news : List Value} (h : Src P σ I w z v m ys news) (ys' : List AV) (hl : ys'.length = ys.length)
    (hr : ∀ i (_h : i < ys'.length), ys'[i].isCell = true ∧ Rel σ' I' w ys'[i] (news.getD i undef)) : Src P σ' I' w z v m ys' news :=
  ⟨h.len, h.first, by rw [hl, h.size], by rw [h.nsize, hl], hr⟩

theorem frzL_sound {ys : List AV} {us : Nat → Value} {p : List AV × H} (h : frzL hp ys = some p) (hi : Inv c σ I w hp un) (hr : ∀ i (_h : i < ys.length), ys[i].isCell = true ∧ Rel σ I w ys[i] (us i)) :
    ∃ I', Inv c σ I' w p.2 un ∧ Grow σ I w σ I' w ∧ p.1.length = ys.length ∧ (∀ i (_h : i < p.1.length), p.1[i].isCell = true ∧ Rel σ I' w p.1[i] (us i)) := by
  unfold frzL at h
  split at h
  · obtain rfl := Option.some.inj h; exact ⟨I, hi, Grow.refl _ _ _, rfl, hr⟩
  · obtain ⟨I', a1, a2, a3, a4, _⟩ := frz_sound ys us h hi hr
    exact ⟨I', a1, a2, a3, a4⟩

structure Src0 (σ : Nat → Loc) (I : Nat → Prop) (w : World) (z m : Nat) (ys : List AV) (news : List Value) : Prop where
  size : ys.length = m * z
  nsize : news.length = ys.length
  rel : ∀ i (_h : i < ys.length), ys[i].isCell = true ∧ Rel σ I w ys[i] (news.getD i undef)

/-- What an own row holds past a length may be forgotten. -/
theorem Inv.trunc (h : Inv c σ I w hp un) {i : Nat} {xs : List AV} (ho : hp i = some (.cells xs true)) (k : Nat) :
    Inv c σ I w (upd hp i (.cells (xs.take k) true)) un := by
  have get : ∀ id o, upd hp i (.cells (xs.take k) true) id = some o → (id = i ∧ o = .cells (xs.take k) true) ∨ (id ≠ i ∧ hp id = some o) := by
    intro id o h
    simp only [upd] at h
    split at h
    · rename_i e; exact .inl ⟨e, (Option.some.inj h).symm⟩
    · rename_i e; exact .inr ⟨e, h⟩
  have hil := h.updIL ho (.cells (xs.take k) true) fun _ => rfl
  refine { h with own := fun id o h1 => ?_, inj := hil.1, lim := hil.2 }
  · rcases get id o h1 with ⟨rfl, rfl⟩ | ⟨_, h2⟩
    · have h3 := h.own id _ ho
      simp only [OwnRel] at h3 ⊢
      cases e : σ id with
      | unset => simp only [e] at h3
      | nil => simp only [e] at h3 ⊢; subst h3; exact List.take_nil
      | at_ blk base sz =>
        simp only [e] at h3 ⊢
        obtain ⟨⟨⟨cs, T, lo, hi, q1, q2, q3, q4, q5⟩, q6⟩, q7⟩ := h3
        have hl : (xs.take k).length ≤ xs.length := by rw [List.length_take]; omega
        refine ⟨⟨⟨cs, T, lo, hi, q1, q2, by omega, q4, fun i hi' => ?_⟩, fun i hi' => ?_⟩, q7⟩
        · rw [List.getElem_take]; exact q5 i (by omega)
        · rw [List.getElem_take]; exact q6 i (by omega)
    · exact h.own id o h2
/-- Behind an append: the old own object is gone, the new one holds all. -/
theorem append_core {t t' ty e : TypeId} {x z0 : AV} {a b : Value} {id z by_ m : Nat} {ys' : List AV} {news : List Value} {hp1 hp' : H} {I1 : Nat → Prop} {zv : Value} (hi1 : Inv c σ I1 w hp1 un) (hu : un id) (hg1 : Grow σ I w σ I1 w)
    (hx1 : Rel σ I1 w x a) (hsrc1 : Src0 σ I1 w z m ys' news) (hzs' : zv.cells.size = z)
    (hin : ∀ (base : Option Addr) (sLen sCap : Nat) (_hroom : sLen + m ≤ sCap), (Builtin.append_ #[t, t'] ty #[.slice base sLen sCap, b]).run P w =
      ((match base with | some a => storeCells (a.add (sLen * z)) news | none => pure () : Sem Unit).run P w).andThen fun _ w' => .ok (.slice base (sLen + m) sCap) w')
    (hout : ∀ (base : Option Addr) (sLen sCap : Nat) (old : List Value) (_hold : ∀ w', w'.heap = w.heap → (Builtin.firstCells z sLen (.slice base sLen sCap)).run P w' = .ok old.toArray w')
      (_hgrow : sCap < sLen + m) (_h63 : sLen + m ≤ 140737488355328) (_hb : (sLen + m) * by_ ≤ 140737488355328), (Builtin.append_ #[t, t'] ty #[.slice base sLen sCap, b]).run P w =
      .ok (.slice (some ⟨w.heap.size, 0, none⟩) (sLen + m) (grownCap w (sLen + m) sCap e))
        (w.drew.alloc (.cells (old.toArray ++ news.toArray ++ Builtin.zeroCells zv.cells (grownCap w (sLen + m) sCap e - (sLen + m))) e)))
    (h : apTail z by_ x m ys' hp1 id = some (z0, hp')) :
    ∃ v w' σ' I', (Builtin.append_ #[t, t'] ty #[a, b]).run P w = .ok v w' ∧ Rel σ' I' w' z0 v ∧ Inv c σ' I' w' hp' (fun k => un k ∧ k ≠ id) ∧ Grow σ I w σ' I' w' := by
  unfold apTail at h
  have hr1 := hsrc1.rel
  have nlen : news.length = m * z := by rw [hsrc1.nsize, hsrc1.size]
  /- a new row: what is old, what is new -/
  have grown : ∀ (hp2 : H) (hi2 : Inv c σ I1 w hp2 un) (n cap : Nat) (old : List Value) (xs : List AV), cap < n + m → xs.length = n * z → old.length = xs.length → (∀ i (_h : i < xs.length), xs[i].isCell = true ∧ Rel σ I1 w xs[i] (old.getD i undef)) →
      ∃ σ', Rel σ' I1 (w.drew.alloc (.cells (old.toArray ++ news.toArray ++ Builtin.zeroCells zv.cells (grownCap w (n + m) cap e - (n + m))) e)) (.os id 0 (n + m) z true) (.slice (some ⟨w.heap.size, 0, none⟩) (n + m) (grownCap w (n + m) cap e)) ∧
        Inv c σ' I1 (w.drew.alloc (.cells (old.toArray ++ news.toArray ++ Builtin.zeroCells zv.cells (grownCap w (n + m) cap e - (n + m))) e)) (upd hp2 id (.cells (xs ++ ys') true)) (fun k => un k ∧ k ≠ id) ∧
        Grow σ I1 w σ' I1 (w.drew.alloc (.cells (old.toArray ++ news.toArray ++ Builtin.zeroCells zv.cells (grownCap w (n + m) cap e - (n + m))) e)) := by
    intro hp2 hi2 n cap old xs hlt hxl hol hor
    have hge := grownCap_ge w (n + m) cap e
    have hsize : (old.toArray ++ news.toArray ++ Builtin.zeroCells zv.cells (grownCap w (n + m) cap e - (n + m))).size = grownCap w (n + m) cap e * z := by
      simp only [Array.size_append, List.size_toArray, size_zeroCells, hzs', hol, hxl, nlen, ← Nat.add_mul]
      congr 1; omega
    have hxy : (xs ++ ys').length = (n + m) * z := by rw [List.length_append, hxl, hsrc1.size, Nat.add_mul]
    have hle : (n + m) * z ≤ grownCap w (n + m) cap e * z := Nat.mul_le_mul_right _ hge
    obtain ⟨σ', hinv, hloc, hg⟩ := make_new hi2 hu w.drew ⟨rfl, rfl, rfl, rfl⟩ (old.toArray ++ news.toArray ++ Builtin.zeroCells zv.cells (grownCap w (n + m) cap e - (n + m))) e (0, 0) ⟨Nat.le_refl _, fun _ _ => by omega⟩ (xs ++ ys')
      (by rw [hsize, hxy]; exact hle) (fun i x hx => by
        rw [List.getElem?_append] at hx
        rw [Array.append_assoc, Array.getElem?_append]
        simp only [List.size_toArray, hol]
        split at hx
        · rename_i hlt
          obtain ⟨_, rfl⟩ := List.getElem?_eq_some_iff.1 hx
          rw [if_pos hlt]
          refine ⟨(hor i hlt).1, _, ?_, (hor i hlt).2⟩
          rw [List.getElem?_toArray, List.getElem?_eq_getElem (by omega), List.getD_eq_getElem?_getD, List.getElem?_eq_getElem (by omega)]; rfl
        · rename_i hge'
          obtain ⟨hlt, rfl⟩ := List.getElem?_eq_some_iff.1 hx
          rw [if_neg hge', Array.getElem?_append_left (by simp [hsrc1.nsize]; exact hlt)]
          refine ⟨(hr1 _ hlt).1, _, ?_, (hr1 _ hlt).2⟩
          have := hsrc1.nsize
          rw [List.getElem?_toArray, List.getElem?_eq_getElem (by omega), List.getD_eq_getElem?_getD, List.getElem?_eq_getElem (by omega)]; rfl)
    exact ⟨σ', .os id 0 (n + m) z true _ 0 _ _ hloc hge (fun _ => by rw [hsize]; omega), hinv, hg⟩
  split at h
  · replace h := guardO_inv h; obtain ⟨⟨hm1, hm2⟩, h⟩ := h
    obtain ⟨rfl, rfl⟩ := Prod.mk.inj (Option.some.inj h)
    cases hx1
    by_cases hm : m = 0
    · subst hm
      have hrun := hin none 0 0 (by omega)
      have hnil := hi1.newNil hu
      have hys : ys' = [] := List.eq_nil_of_length_eq_zero (by rw [hsrc1.size]; simp)
      subst hys
      exact ⟨.slice none 0 0, w, _, I1, hrun, .osnil _ _ _ (by simp [setLoc]), hnil, hg1.trans ⟨setLoc_ext (hi1.un id hu), fun _ h => h, fun _ _ => rfl⟩⟩
    · obtain ⟨σ', r1, r2, r3⟩ := grown hp1 hi1 0 0 [] [] (by omega) (by simp) rfl (fun i hi => by simp at hi)
      have hrun := hout none 0 0 [] (fun w' _ => run_firstCells_none w' z 0 0 0) (by omega) (by omega) (by rw [Nat.zero_add]; exact hm2)
      rw [Nat.zero_add] at hrun r1
      simp only [Nat.zero_add, List.nil_append] at r1 r2 r3 hrun
      exact ⟨_, _, σ', I1, hrun, r1, r2, hg1.trans r3⟩
  · rename_i i off n e' g
    replace h := obind_inv h; obtain ⟨o, ho, h⟩ := h
    obtain ⟨xs, mt, rfl⟩ : ∃ a b, o = AO.cells a b := by cases o <;> first | exact ⟨_, _, rfl⟩ | (simp at h)
    simp only at h
    replace h := guardO_inv h; obtain ⟨⟨hmt, hgt, hez, hend, hb1, hb2⟩, h⟩ := h
    obtain ⟨rfl, rfl⟩ := Prod.mk.inj (Option.some.inj h)
    subst hmt
    subst hez
    subst hgt
    have hown := hi1.own i _ ho
    have hdel : Inv c σ I1 w (del hp1 i) un := hi1.sub (del_sub hp1 i)
    have hxl : (xs.drop off).length = n * e' := by simp; omega
    have hne : i ≠ id := fun e => by subst e; rw [hi1.none_un hu] at ho; cases ho
    have zero : ∀ (base : Option Addr) (hh : ∀ w' : World, w'.heap = w.heap → (Builtin.firstCells e' 0 (.slice base 0 0)).run P w' = .ok #[] w') (hn : n = 0) (hσ : σ i ≠ .unset),
        ∃ v w' σ' I', (Builtin.append_ #[t, t'] ty #[.slice base 0 0, b]).run P w = .ok v w' ∧ Rel σ' I' w' (.os id 0 (n + m) e' true) v ∧ Inv c σ' I' w' (upd (del hp1 i) id (.cells (xs.drop off ++ ys') true)) (fun k => un k ∧ k ≠ id) ∧ Grow σ I w σ' I' w' := by
      intro base hh hn hσ
      subst hn
      have hd0 : xs.drop off = [] := List.eq_nil_of_length_eq_zero (by rw [hxl]; simp)
      by_cases hm : m = 0
      · subst hm
        have hrun := hin base 0 0 (by omega)
        have hn0 : news = [] := List.eq_nil_of_length_eq_zero (by rw [nlen]; simp)
        subst hn0
        have hnil := hdel.newNil hu
        have hys : ys' = [] := List.eq_nil_of_length_eq_zero (by rw [hsrc1.size]; simp)
        subst hys
        rw [hd0]
        have hrun' : (Builtin.append_ #[t, t'] ty #[.slice base 0 0, b]).run P w = .ok (.slice base 0 0) w := by
          rw [hrun]; cases base <;> rfl
        cases base with
        | none => exact ⟨.slice none 0 0, w, _, I1, hrun', .osnil _ _ _ (by simp [setLoc]), hnil, hg1.trans ⟨setLoc_ext (hi1.un id hu), fun _ h => h, fun _ _ => rfl⟩⟩
        | some a => exact ⟨.slice (some a) 0 0, w, _, I1, hrun', .oszero _ _ _ _ _ (by simp [setLoc]), hnil, hg1.trans ⟨setLoc_ext (hi1.un id hu), fun _ h => h, fun _ _ => rfl⟩⟩
      · rw [hd0]
        obtain ⟨σ', r1, r2, r3⟩ := grown (del hp1 i) hdel 0 0 [] [] (by omega) (by simp) rfl (fun i hi => by simp at hi)
        have hrun := hout base 0 0 [] hh (by omega) (by omega) hb2
        exact ⟨_, _, σ', I1, hrun, r1, r2, hg1.trans r3⟩
    cases hx1 with
    | osnil _ _ _ g1 => exact zero none (fun w' _ => run_firstCells_none w' e' 0 0 0) rfl (by rw [g1]; simp)
    | oszero _ _ _ _ a g1 => exact zero (some a) (fun w' _ => by simp [Builtin.firstCells, loadCells, loadCellsFrom]) rfl g1
    | os _ _ _ _ _ blk base sz cap g1 g2 g3 =>
      replace g3 := g3 rfl
      have hrow := own_row hown g1
      have hlen := own_len hown g1
      by_cases hroom : n + m ≤ cap
      · have hrun := hin (some ⟨blk, base + off, none⟩) n cap hroom
        simp only [add_off] at hrun
        have hfit : base + xs.length + ys'.length ≤ sz := by
          rw [hsrc1.size]
          have : (n + m) * e' ≤ cap * e' := Nat.mul_le_mul_right _ hroom
          rw [Nat.add_mul] at this
          omega
        /- the cells are laid behind the old ones, in the same block: the object is another one now -/
        have key : ∃ w' σ', (storeCells ⟨blk, base + off + n * e', none⟩ news 0).run P w = .ok () w' ∧ Inv c σ' I1 w' (upd (del hp1 i) id (.cells (xs.drop off ++ ys') true)) (fun k => un k ∧ k ≠ id) ∧ σ' id = .at_ blk (base + off) sz ∧ Grow σ I1 w σ' I1 w' := by
          simp only [OwnRel, g1] at hown
          obtain ⟨⟨⟨cs, T, lo, hi_, q1, q2, q3, q4, q5⟩, q6⟩, q7, _⟩ := hown
          have hnI := q7 trivial
          have h1 : ∀ v ∈ news, v.oneCell' = true := by
            intro v hv
            obtain ⟨k, hk, rfl⟩ := List.getElem_of_mem hv
            have hk' : k < ys'.length := by rw [← hsrc1.nsize]; exact hk
            have := (hr1 k hk').2
            rw [List.getD_eq_getElem?_getD, List.getElem?_eq_getElem hk] at this
            exact this.oneCell (hr1 k hk').1
          obtain ⟨w', r1, r2, r3, r4, r5, r6, cur', r7, r8, r9⟩ := run_storeCells_row (P := P) blk (base + off + n * e') T lo hi_ news 0 cs w q1 (by rw [q2]; exact q4.out) (by rw [hsrc1.nsize, q2]; omega) h1
          have hw : ∀ k, I1 k → w'.heap[k]? = w.heap[k]? := fun k hk => r6 k (fun e => hnI (e ▸ hk))
          have hσ := setLoc_ext (l := .at_ blk (base + off) sz) (hi1.un id hu)
          have lim := hi1.lim i _ blk base sz ho rfl g1
          have other : ∀ k o, k ≠ i → hp1 k = some o → ∀ blk' base' sz', σ k = .at_ blk' base' sz' → blk' ≠ blk := by
            intro k o hk hko blk' base' sz' e eb
            subst eb
            exact hi1.inj i k _ o blk' base sz base' sz' ho rfl hko (Ne.symm hk) g1 e
          have get : ∀ k o, upd (del hp1 i) id (.cells (xs.drop off ++ ys') true) k = some o → (k = id ∧ o = .cells (xs.drop off ++ ys') true) ∨ (k ≠ id ∧ k ≠ i ∧ hp1 k = some o) := by
            intro k o hk
            rw [upd_apply] at hk
            split at hk
            · rename_i e; exact .inl ⟨e, (Option.some.inj hk).symm⟩
            · rename_i e
              rw [del_apply] at hk
              split at hk
              · cases hk
              · rename_i e2; exact .inr ⟨e, e2, hk⟩
          refine ⟨w', setLoc σ id (.at_ blk (base + off) sz), r1, ?_, by simp [setLoc], ⟨hσ, fun _ h => h, hw⟩⟩
          refine ⟨fun k hk => ?_, hi1.imm, fun k hk => ?_, by rw [r2]; exact hi1.os, by rw [r3]; exact hi1.tape, by rw [r4]; exact hi1.output, by rw [r5]; exact hi1.size, fun k hk hO => ?_, fun k hk => by rw [r5]; exact hi1.ilt k hk, ?_, ?_, ?_, ?_, fun g zs hg => (hi1.glob g zs hg).mono hσ (fun _ h => h) hw, hi1.inew⟩
          · have := hi1.ext k hk
            rw [hσ k (by rw [this]; exact hk), this]
          · rw [hw k (hi1.imm k hk)]; exact hi1.iw k hk
          · by_cases e : k = blk
            · subst e
              rcases lim with lim | lim
              · omega
              · exact absurd lim hO
            · rw [r6 k e]; exact hi1.old k hk hO
          · intro k o hk
            rcases get k o hk with ⟨rfl, rfl⟩ | ⟨e1, e2, e3⟩
            · simp only [OwnRel, setLoc, if_true]
              have hcell : ∀ j (_h : j < (xs.drop off ++ ys').length), (xs.drop off ++ ys')[j].isCell = true := by
                intro j hj
                rw [List.getElem_append]
                split
                · rw [getElem_drop']; exact q6 _ _
                · exact (hr1 _ _).1
              refine ⟨⟨⟨cur', T, lo, hi_, r7, by rw [r8]; exact q2, by rw [List.length_append, hxl]; omega, q4, fun j hj => ?_⟩, hcell⟩, fun _ => hnI, fun hm => by simp at hm⟩
              refine Rel.mono (σ := σ) (I := I1) (w := w) ?_ hσ (fun _ h => h) hw
              rw [Array.getD_eq_getD_getElem?, r9]
              rw [List.getElem_append]
              split
              · rename_i hlt
                rw [getElem_drop', if_pos (by rw [hxl] at hlt; omega)]
                have := q5 (off + j) (by rw [hxl] at hlt; omega)
                rw [Array.getD_eq_getD_getElem?] at this
                rw [show base + off + j = base + (off + j) from by omega]; exact this
              · rename_i hge
                have hj' : j - (xs.drop off).length < ys'.length := by rw [List.length_append] at hj; omega
                have hns := hsrc1.nsize
                rw [if_neg (by rw [hxl] at hge; omega), if_pos (by rw [hxl] at hge hj'; omega)]
                have := (hr1 _ hj').2
                rw [List.getD_eq_getElem?_getD] at this
                rw [show base + off + j - (base + off + n * e' + 0) = j - (xs.drop off).length from by rw [hxl]; omega]; exact this
            · exact (hi1.own k o e3).mono hσ (fun _ h => h) hw fun blk' base' sz' e => ⟨r6 blk' (other k o e2 e3 blk' base' sz' e), fun _ h => h⟩
          · intro k k' o1 o' blk1 base1 sz1 base2 sz2 h1 hm1 h2 hn e1 e2
            rcases get k _ h1 with ⟨rfl, _⟩ | ⟨a1, a2, a3⟩
            · rcases get k' _ h2 with ⟨rfl, _⟩ | ⟨b1, b2, b3⟩
              · exact hn rfl
              · simp only [setLoc, if_true, Loc.at_.injEq] at e1
                simp only [setLoc, if_neg b1] at e2
                exact other k' o' b2 b3 blk1 base2 sz2 e2 e1.1.symm
            · simp only [setLoc, if_neg a1] at e1
              rcases get k' _ h2 with ⟨rfl, _⟩ | ⟨b1, b2, b3⟩
              · simp only [setLoc, if_true, Loc.at_.injEq] at e2
                exact other k _ a2 a3 blk1 base1 sz1 e1 e2.1.symm
              · simp only [setLoc, if_neg b1] at e2
                exact hi1.inj k k' o1 o' blk1 base1 sz1 base2 sz2 a3 hm1 b3 hn e1 e2
          · intro k o1 blk1 base1 sz1 h1 hm1 e1
            rcases get k _ h1 with ⟨rfl, _⟩ | ⟨a1, a2, a3⟩
            · simp only [setLoc, if_true, Loc.at_.injEq] at e1
              rw [← e1.1]; exact lim
            · simp only [setLoc, if_neg a1] at e1
              exact hi1.lim k o1 blk1 base1 sz1 a3 hm1 e1
          · intro k ⟨hk, hn⟩
            simp only [setLoc, if_neg hn]
            exact hi1.un k hk
        obtain ⟨w', σ', k1, k2, k3, k4⟩ := key
        simp only [k1, Result.andThen_ok] at hrun
        refine ⟨_, w', σ', I1, hrun, ?_, k2, hg1.trans k4⟩
        have := Rel.os (σ := σ') (I := I1) (w := w') id 0 (n + m) e' true blk (base + off) sz cap k3 hroom (fun _ => by omega)
        exact this
      · have hold : ∀ w' : World, w'.heap = w.heap → (Builtin.firstCells e' n (.slice (some ⟨blk, base + off, none⟩) n cap)).run P w' = .ok ((List.range (n * e')).map fun j => (w.cell? ⟨blk, base + off + j, none⟩).getD undef).toArray w' := by
          intro w' hw'
          refine run_firstCells_some w' e' n _ n cap _ (by simp) (fun j v hj => ?_)
          rw [List.getElem?_map] at hj
          obtain ⟨k, hk, rfl⟩ := Option.map_eq_some_iff.1 hj
          rw [List.getElem?_eq_some_iff] at hk
          obtain ⟨hlt, hk⟩ := hk
          simp at hlt hk
          subst hk
          obtain ⟨v, hv, _⟩ := hrow.get (off + j) (by omega)
          rw [← Nat.add_assoc] at hv
          rw [add_off]
          simp only [World.cell?, hw'] at hv ⊢
          rw [hv]; rfl
        obtain ⟨σ', r1, r2, r3⟩ := grown (del hp1 i) hdel n cap ((List.range (n * e')).map fun j => (w.cell? ⟨blk, base + off + j, none⟩).getD undef) (xs.drop off) (by omega) hxl (by rw [hxl, List.length_map, List.length_range]) (fun j hj => by
          rw [hxl] at hj
          rw [getElem_drop']
          obtain ⟨v, hv, hc, hr⟩ := hrow.get (off + j) (by omega)
          rw [← Nat.add_assoc] at hv
          refine ⟨hc, ?_⟩
          rw [List.getD_eq_getElem?_getD, List.getElem?_map, List.getElem?_range hj]
          simp only [Option.map_some, hv, Option.getD_some]
          exact hr)
        have hrun := hout (some ⟨blk, base + off, none⟩) n cap _ hold (by omega) (by omega) hb2
        exact ⟨_, _, σ', I1, hrun, r1, r2, hg1.trans r3⟩
  · cases h

theorem append_coreT {t t' ty e : TypeId} {x z0 : AV} {a b : Value} {id z by_ m : Nat} {ys' : List AV} {news : List Value} {hp1 hp' : H} {I1 : Nat → Prop} {zv : Value} (hi1 : Inv c σ I1 w hp1 un) (hu : un id) (hg1 : Grow σ I w σ I1 w)
    (hx1 : Rel σ I1 w x a) (hsrc1 : Src0 σ I1 w z m ys' news) (hzs' : zv.cells.size = z)
    (hin : ∀ (base : Option Addr) (sLen sCap : Nat) (_hroom : sLen + m ≤ sCap), (Builtin.append_ #[t, t'] ty #[.slice base sLen sCap, b]).run P w =
      ((match base with | some a => storeCells (a.add (sLen * z)) news | none => pure () : Sem Unit).run P w).andThen fun _ w' => .ok (.slice base (sLen + m) sCap) w')
    (hout : ∀ (base : Option Addr) (sLen sCap : Nat) (old : List Value) (_hold : ∀ w', w'.heap = w.heap → (Builtin.firstCells z sLen (.slice base sLen sCap)).run P w' = .ok old.toArray w')
      (_hgrow : sCap < sLen + m) (_h63 : sLen + m ≤ 140737488355328) (_hb : (sLen + m) * by_ ≤ 140737488355328), (Builtin.append_ #[t, t'] ty #[.slice base sLen sCap, b]).run P w =
      .ok (.slice (some ⟨w.heap.size, 0, none⟩) (sLen + m) (grownCap w (sLen + m) sCap e))
        (w.drew.alloc (.cells (old.toArray ++ news.toArray ++ Builtin.zeroCells zv.cells (grownCap w (sLen + m) sCap e - (sLen + m))) e)))
    (h : apTl z by_ x m ys' hp1 id = some (z0, hp')) :
    ∃ v w' σ' I', (Builtin.append_ #[t, t'] ty #[a, b]).run P w = .ok v w' ∧ Rel σ' I' w' z0 v ∧ Inv c σ' I' w' hp' (fun k => un k ∧ k ≠ id) ∧ Grow σ I w σ' I' w' := by
  unfold apTl at h
  split at h
  · rename_i i off n e' g
    replace h := obind_inv h; obtain ⟨o, ho, h⟩ := h
    obtain ⟨xs, mt, rfl⟩ : ∃ a b, o = AO.cells a b := by cases o <;> first | exact ⟨_, _, rfl⟩ | (simp at h)
    simp only [eqO] at h
    split at h
    · exact append_core hi1 hu hg1 hx1 hsrc1 hzs' hin hout h
    · unfold apCut at h
      replace h := guardO_inv h; obtain ⟨⟨hmt, hg, hez, hle, hb1, hb2⟩, h⟩ := h
      subst hmt
      refine append_core (by_ := by_) (hp' := hp') (z0 := z0) (hi1.trunc ho (off + n * z)) hu hg1 hx1 hsrc1 hzs' hin hout ?_
      simp only [apTail, upd_apply, if_true, obind_some]
      rw [guardO_true _ ⟨trivial, hg, hez, by rw [List.length_take]; omega, hb1, hb2⟩]
      have hd : del (upd hp1 i (.cells (xs.take (off + n * z)) true)) i = del hp1 i := by
        funext k; simp only [del_apply, upd_apply]; split <;> rfl
      have ht : (xs.take (off + n * z)).drop off = (xs.drop off).take (n * z) := by rw [List.drop_take]; congr 1; omega
      rw [hd, ht]; exact h
  · exact append_core hi1 hu hg1 hx1 hsrc1 hzs' hin hout h

theorem zeroCells_get {z : Array Value} {n i : Nat} (h : i < n * z.size) : (Builtin.zeroCells z n)[i]? = z[i % z.size]? := by
  have hz : 0 < z.size := by
    rcases Nat.eq_zero_or_pos z.size with e | e
    · rw [e] at h; omega
    · exact e
  have hm := Nat.mod_lt i hz
  simp only [Builtin.zeroCells, Array.getElem?_map]
  rw [Array.getElem?_eq_getElem (by simpa using h)]
  simp only [Array.getElem_range, Option.map_some]
  rw [Array.getElem?_eq_getElem hm, getElem!_pos z _ hm]

theorem zero_facts {e : TypeId} {z : Nat} {zs : List AV} (hzs : zcells P e = some zs) (hzl : zs.length = z) : ∃ zv : Value, (∀ w, (zeroValue e).run P w = .ok zv w) ∧ zv.cells.size = z ∧ zs = zv.cells.toList.map ofV1 ∧ ∀ x ∈ zv.cells.toList, x.oneCell' = true := by
  obtain ⟨zv, _, hzero, _, _⟩ := run_zeroValue' hzs (default : World)
  refine ⟨zv, fun w => ?_, ?_, ?_, ?_⟩
  · obtain ⟨zv', h1, h2, _⟩ := run_zeroValue' hzs w
    rw [hzero] at h2; obtain rfl := Option.some.inj h2; exact h1
  · obtain ⟨zv', _, h2, h3, _⟩ := run_zeroValue' hzs (default : World)
    rw [hzero] at h2; obtain rfl := Option.some.inj h2
    rw [← hzl, h3]; simp
  · obtain ⟨zv', _, h2, h3, _⟩ := run_zeroValue' hzs (default : World)
    rw [hzero] at h2; obtain rfl := Option.some.inj h2
    exact h3
  · obtain ⟨zv', _, h2, _, h4⟩ := run_zeroValue' hzs (default : World)
    rw [hzero] at h2; obtain rfl := Option.some.inj h2
    exact h4

theorem append_sound {t t' ty : TypeId} {x y z0 : AV} {a b : Value} {id : Nat} {hp' : H} (h : appendA P t x y hp id = some (z0, hp')) (ht' : noIntT P t' = true) (hx : Rel σ I w x a) (hy : Rel σ I w y b)
    (hi : Inv c σ I w hp un) (hu : un id) :
    ∃ v w' σ' I', (Builtin.append_ #[t, t'] ty #[a, b]).run P w = .ok v w' ∧ Rel σ' I' w' z0 v ∧ Inv c σ' I' w' hp' (fun k => un k ∧ k ≠ id) ∧ Grow σ I w σ' I' w' := by
  unfold appendA at h
  split at h
  rotate_left
  · cases h
  rename_i e ht
  replace h := obind_inv h; obtain ⟨z, hz, h⟩ := h
  replace h := obind_inv h; obtain ⟨by_, hby, h⟩ := h
  replace h := obind_inv h; obtain ⟨zs, hzs, h⟩ := h
  replace h := guardO_inv h; obtain ⟨⟨hpos, hzl⟩, h⟩ := h
  replace h := obind_inv h; obtain ⟨my, hmy, h⟩ := h
  replace h := obind_inv h; obtain ⟨fy, hfy, h⟩ := h
  obtain ⟨m, ys⟩ := my
  obtain ⟨ys', hp1⟩ := fy
  simp only at hmy hfy h
  obtain ⟨news, hsrc⟩ := src_run (P := P) hmy hy hi.own
  obtain ⟨I1, hi1, hg1, hl1, hr1⟩ := frzL_sound (us := fun i => news.getD i undef) hfy hi hsrc.rel
  simp only at hi1 hl1 hr1
  obtain ⟨zv, hzv, hzs', _, _⟩ := zero_facts (P := P) hzs hzl
  exact append_coreT (by_ := by_) (e := e) (zv := zv) hi1 hu hg1 (hx.grow hg1) ⟨by rw [hl1, hsrc.size], by rw [hl1, hsrc.nsize], hr1⟩ hzs'
    (fun base sLen sCap hroom => run_append_in (ty := ty) ht ht' hz hsrc base sLen sCap hroom)
    (fun base sLen sCap old hold hg h6 hb => run_append_out (ty := ty) ht ht' hz hby hsrc hzv base sLen sCap old hold hg h6 hb) h

theorem int_fits {m : Nat} (hm : m ≤ 140737488355328) : IntKind.i64.wrap (m : Int) = m := by
  have := W_eq (n := (m : Int)) (by omega) (by omega)
  exact this

section appz
variable {t t' ty e : TypeId} {z by_ m : Nat} {k : IntKind} {zv : Value} (ht : P.underlying t = some (.slice e)) (ht' : P.underlying t' = some (.int k)) (hz : szOf P e = some z) (hby : byOf P e = some by_) (hpos : 0 < z)
  (hzv : ∀ w, (zeroValue e).run P w = .ok zv w) (hm : m ≤ 140737488355328) (hmb : m * by_ ≤ 140737488355328)
include ht ht' hz hby hpos hzv hm hmb

theorem run_appz_in (base : Option Addr) (sLen sCap : Nat) (hroom : sLen + m ≤ sCap) :
    (Builtin.append_ #[t, t'] ty #[.slice base sLen sCap, .int .i64 m]).run P w =
      ((match base with | some a => storeCells (a.add (sLen * z)) (Builtin.zeroCells zv.cells m).toList | none => pure () : Sem Unit).run P w).andThen fun _ w' => .ok (.slice base (sLen + m) sCap) w' := by
  obtain ⟨i, hi, hib⟩ := byOf_inv hby
  have hw := int_fits hm
  have e2 : (2 : Int) ^ 48 = 281474976710656 := by decide
  have n3 : ¬ ((m : Int) * (i.bytes : Int) > 2 ^ 48) := by
    rw [hib, e2, ← Int.natCast_mul]; omega
  have n4 : ¬ ((m : Int) < 0) := by omega
  simp only [Builtin.append_, List.getElem?_toArray, List.getElem?_cons_zero, List.getElem?_cons_succ, Sem.run_bind, run_underlying ht, Result.andThen_ok, run_sizeOf' hz, run_underlying ht', Sem.run_pure, if_true, asInt, asIntOf, hw, if_neg n4, run_typeInfo' hi, if_neg n3, Int.toNat_natCast,
    if_pos hroom, Bool.not_true, Bool.false_eq_true, if_false]
  by_cases hm0 : m * z = 0
  · have : m = 0 := by
      rcases Nat.mul_eq_zero.1 hm0 with h | h
      · exact h
      · omega
    subst this
    have hz0 : (Builtin.zeroCells zv.cells 0).toList = [] := by simp [Builtin.zeroCells]
    rw [hz0]
    simp only [Nat.zero_mul, if_true, Sem.run_pure, Result.andThen_ok]
    cases base <;> rfl
  · simp only [if_neg hm0, Sem.run_bind, hzv, Result.andThen_ok, Sem.run_pure]
    cases base with
    | none => rfl
    | some a => simp only [Sem.run_bind]; rfl

theorem run_appz_out (base : Option Addr) (sLen sCap : Nat) (old : List Value) (hold : ∀ w', w'.heap = w.heap → (Builtin.firstCells z sLen (.slice base sLen sCap)).run P w' = .ok old.toArray w')
    (hgrow : sCap < sLen + m) (h63 : sLen + m ≤ 140737488355328) (hb : (sLen + m) * by_ ≤ 140737488355328) :
    (Builtin.append_ #[t, t'] ty #[.slice base sLen sCap, .int .i64 m]).run P w =
      .ok (.slice (some ⟨w.heap.size, 0, none⟩) (sLen + m) (grownCap w (sLen + m) sCap e))
        (w.drew.alloc (.cells (old.toArray ++ (Builtin.zeroCells zv.cells m).toList.toArray ++ Builtin.zeroCells zv.cells (grownCap w (sLen + m) sCap e - (sLen + m))) e)) := by
  obtain ⟨i, hi, hib⟩ := byOf_inv hby
  have hw := int_fits hm
  have e2 : (2 : Int) ^ 48 = 281474976710656 := by decide
  have n3 : ¬ ((m : Int) * (i.bytes : Int) > 2 ^ 48) := by
    rw [hib, e2, ← Int.natCast_mul]; omega
  have n4 : ¬ ((m : Int) < 0) := by omega
  have hold' := hold w.drew rfl
  have n1 : ¬ sLen + m ≤ sCap := by omega
  have n2 : ¬ (((sLen + m : Nat) : Int) > IntKind.i64.max ∧ (True ∨ i.bytes = 0)) := by
    have e1 : IntKind.i64.max = 9223372036854775807 := by decide
    rw [e1]; omega
  have n5 : ¬ (Builtin.nextslicecap (sLen + m) sCap * i.bytes > 2 ^ 48) := by
    have := growslice_fits hgrow (bytes := by_) hb
    rw [hib]; have e1 : (2 : Nat) ^ 48 = 281474976710656 := by decide
    omega
  simp only [Builtin.append_, List.getElem?_toArray, List.getElem?_cons_zero, List.getElem?_cons_succ, Sem.run_bind, run_underlying ht, Result.andThen_ok, run_sizeOf' hz, run_underlying ht', Sem.run_pure, if_true, asInt, asIntOf, hw, if_neg n4, run_typeInfo' hi, if_neg n3, Int.toNat_natCast,
    if_neg n1, Bool.not_true, Bool.false_eq_true, if_false]
  rw [if_neg n2]
  simp only [Sem.run_bind, run_typeInfo' hi, Result.andThen_ok, if_neg n5]
  simp only [run_choose, Question.forced, Bool.false_eq_true, if_false, Result.andThen_ok, run_askRoom]
  have e0 : ({ w with drawn := w.drawn + 1 } : World) = w.drew := rfl
  simp only [e0, hold', Result.andThen_ok]
  by_cases hm0 : m * z = 0
  · have : m = 0 := by
      rcases Nat.mul_eq_zero.1 hm0 with h | h
      · exact h
      · omega
    subst this
    have hz0 : Builtin.zeroCells zv.cells 0 = #[] := by simp [Builtin.zeroCells]
    simp only [Nat.zero_mul, if_true, Sem.run_pure, Result.andThen_ok, hzv, newRow, Sem.run_bind, run_newObj, hz0]
    rfl
  · simp only [if_neg hm0, Sem.run_bind, hzv, Result.andThen_ok, Sem.run_pure, newRow, run_newObj, Array.toArray_toList]
    rfl
end appz

theorem isIntT_inv {t : TypeId} (h : isIntT P t = true) : ∃ k, P.underlying t = some (.int k) := by
  unfold isIntT at h
  split at h
  · exact ⟨_, ‹_›⟩
  · cases h

theorem appendZ_sound {t t' ty : TypeId} {x y z0 : AV} {a b : Value} {id : Nat} {hp' : H} (h : appendZ P t x y hp id = some (z0, hp')) (ht' : isIntT P t' = true) (hx : Rel σ I w x a) (hy : Rel σ I w y b)
    (hi : Inv c σ I w hp un) (hu : un id) :
    ∃ v w' σ' I', (Builtin.append_ #[t, t'] ty #[a, b]).run P w = .ok v w' ∧ Rel σ' I' w' z0 v ∧ Inv c σ' I' w' hp' (fun k => un k ∧ k ≠ id) ∧ Grow σ I w σ' I' w' := by
  obtain ⟨k, ht'⟩ := isIntT_inv ht'
  unfold appendZ at h
  split at h
  rotate_left
  · cases h
  rename_i e ht
  replace h := obind_inv h; obtain ⟨z, hz, h⟩ := h
  replace h := obind_inv h; obtain ⟨by_, hby, h⟩ := h
  replace h := obind_inv h; obtain ⟨zs, hzs, h⟩ := h
  replace h := guardO_inv h; obtain ⟨⟨hpos, hzl⟩, h⟩ := h
  replace h := obind_inv h; obtain ⟨m, hm, h⟩ := h
  replace h := guardO_inv h; obtain ⟨⟨hm1, hm2⟩, h⟩ := h
  obtain ⟨zv, hzv, hzs', hze, hzc⟩ := zero_facts (P := P) hzs hzl
  unfold cntA at hm
  split at hm
  rotate_left
  · cases hm
  rename_i n
  replace hm := guardO_inv hm; obtain ⟨hn, hm⟩ := hm
  obtain rfl := Option.some.inj hm
  cases hy
  obtain ⟨m, rfl⟩ := Int.eq_ofNat_of_zero_le hn
  simp only [Int.toNat_natCast] at *
  have hrl : (rep m zs).length = m * z := by rw [rep_length, hzl]
  have hnl : (Builtin.zeroCells zv.cells m).toList.length = m * z := by rw [Array.length_toList, size_zeroCells, hzs']
  have hrc : RelCells σ I w zs zv.cells := relCells_zero hze hzc
  refine append_core (by_ := by_) (e := e) (zv := zv) hi hu (Grow.refl _ _ _) hx ⟨hrl, by rw [hnl, hrl], fun i hi' => ?_⟩ hzs'
    (fun base sLen sCap hroom => run_appz_in (ty := ty) ht ht' hz hby hpos hzv hm1 hm2 base sLen sCap hroom)
    (fun base sLen sCap old hold hg h6 hb => run_appz_out (ty := ty) ht ht' hz hby hpos hzv hm1 hm2 base sLen sCap old hold hg h6 hb) h
  have hg := rep_get hzl hpos m i (by omega)
  rw [List.getElem?_eq_getElem hi'] at hg
  obtain ⟨c1, v, c2, c3⟩ := (relCells_iff.1 hrc).2 _ _ hg.symm
  refine ⟨c1, ?_⟩
  have e1 : (Builtin.zeroCells zv.cells m).toList.getD i undef = v := by
    rw [List.getD_eq_getElem?_getD, Array.getElem?_toList, zeroCells_get (by rw [hzs']; omega), hzs', c2]; rfl
  rw [e1]; exact c3

theorem copy_sound {t t' ty : TypeId} {x y z0 : AV} {a b : Value} {hp' : H} (h : copyA P t x y hp = some (z0, hp')) (hx : Rel σ I w x a) (hy : Rel σ I w y b) (hi : Inv c σ I w hp un) :
    ∃ v w', (Builtin.copy_ #[t, t'] ty #[a, b]).run P w = .ok v w' ∧ Rel σ I w' z0 v ∧ Inv c σ I w' hp' un ∧ Grow σ I w σ I w' := by
  unfold copyA at h
  split at h
  rotate_left
  · cases h
  rename_i e ht
  replace h := obind_inv h; obtain ⟨z, hz, h⟩ := h
  replace h := obind_inv h; obtain ⟨my, hmy, h⟩ := h
  obtain ⟨m, ys⟩ := my
  simp only at hmy h
  obtain ⟨news, hsrc⟩ := src_run (P := P) hmy hy hi.own
  split at h
  · rename_i i off n e' g
    replace h := obind_inv h; obtain ⟨o, ho, h⟩ := h
    obtain ⟨xs, mt, rfl⟩ : ∃ a b, o = AO.cells a b := by cases o <;> first | exact ⟨_, _, rfl⟩ | (simp at h)
    simp only at h
    replace h := guardO_inv h; obtain ⟨⟨hmt, hez, hend⟩, h⟩ := h
    obtain ⟨rfl, rfl⟩ := Prod.mk.inj (Option.some.inj h)
    subst hmt
    subst hez
    have hown := hi.own i _ ho
    have hlen : (ys.take (min m n * e')).length = min m n * e' := by
      rw [List.length_take, hsrc.size]; exact Nat.min_eq_left (Nat.mul_le_mul_right _ (Nat.min_le_left _ _))
    have hnl : (news.take (min m n * e')).length = min m n * e' := by
      rw [List.length_take, hsrc.nsize, hsrc.size]; exact Nat.min_eq_left (Nat.mul_le_mul_right _ (Nat.min_le_left _ _))
    have hmn : min m n * e' ≤ n * e' := Nat.mul_le_mul_right _ (Nat.min_le_right _ _)
    have hf := hsrc.first w rfl (min m n) (Nat.min_le_left _ _)
    have start : ∀ (base : Option Addr) (cap : Nat), (Builtin.copy_ #[t, t'] ty #[.slice base n cap, b]).run P w =
        ((match base with | some a => storeCells a (news.take (min m n * e')) | none => pure () : Sem Unit).run P w).andThen fun _ w' => .ok (.int .i64 (min m n : Nat)) w' := by
      intro base cap
      have hf' : (Builtin.firstCells e' (Nat.min m n) b).run P w = .ok (news.take (min m n * e')).toArray w := hf
      simp only [Builtin.copy_, List.getElem?_toArray, List.getElem?_cons_zero, List.getElem?_cons_succ, Sem.run_bind, run_underlying ht, Result.andThen_ok, hsrc.len, run_sizeOf' hz, hf', goInt]
      cases base with
      | none => rfl
      | some a => simp only [Sem.run_bind]; rfl
    have hrel : ∀ j (_h : j < (ys.take (min m n * e')).length), (ys.take (min m n * e'))[j].isCell = true ∧ Rel σ I w (ys.take (min m n * e'))[j] ((news.take (min m n * e')).getD j undef) := by
      intro j hj
      have hj' := hj
      rw [hlen] at hj'
      rw [getElem_take']
      have hjy : j < ys.length := by rw [List.length_take] at hj; omega
      have := hsrc.rel j hjy
      refine ⟨this.1, ?_⟩
      rw [List.getD_eq_getElem?_getD, List.getElem?_take_of_lt hj', ← List.getD_eq_getElem?_getD]
      exact this.2
    have zero : ∀ base : Option Addr, n = 0 → ∃ v w', (Builtin.copy_ #[t, t'] ty #[.slice base n 0, b]).run P w = .ok v w' ∧ Rel σ I w' (.i (min m n : Nat)) v ∧ Inv c σ I w' (upd hp i (.cells (splice xs off (ys.take (min m n * e'))) true)) un ∧ Grow σ I w σ I w' := by
      intro base hn
      subst hn
      refine ⟨_, w, by rw [start base 0]; simp only [Nat.min_zero, Nat.zero_mul, List.take_zero]; cases base <;> rfl, .i _, ?_, Grow.refl _ _ _⟩
      have : upd hp i (.cells (splice xs off (ys.take (min m 0 * e'))) true) = hp := by
        funext k
        rw [upd_apply]
        split
        · rename_i e; subst e; rw [ho]; simp [splice]
        · rfl
      rw [this]; exact hi
    cases hx with
    | osnil => exact zero none rfl
    | oszero _ _ _ _ a => exact zero (some a) rfl
    | os _ _ _ _ _ blk base sz cap g1 g2 g3 =>
      obtain ⟨w', r1, r2, r3⟩ := store_own (P := P) hi (off := off) (ys := ys.take (min m n * e')) (zs := splice xs off (ys.take (min m n * e'))) (us := news.take (min m n * e')) ho g1 (by rw [hlen]; omega) (by rw [hlen, hnl])
        (fun j hj => (hrel j hj).1) (fun j hj => (hrel j hj).2) (splice_length (by rw [hlen]; omega)) (fun j => splice_get (by rw [hlen]; omega))
      refine ⟨_, w', by rw [start]; simp only [r1, Result.andThen_ok], .i _, r2, r3⟩
  · cases h

theorem clear_sound {t ty : TypeId} {x z0 : AV} {a : Value} {hp' : H} (h : clearA P t x hp = some (z0, hp')) (hx : Rel σ I w x a) (hi : Inv c σ I w hp un) :
    ∃ v w', (Builtin.clear_ #[t] ty #[a]).run P w = .ok v w' ∧ Rel σ I w' z0 v ∧ Inv c σ I w' hp' un ∧ Grow σ I w σ I w' := by
  unfold clearA at h
  split at h
  · rename_i kt et ht
    split at h
    rotate_left
    · cases h
    rename_i id
    replace h := obind_inv h; obtain ⟨o, ho, h⟩ := h
    exact clrM_sound (P := P) ht h ho hx hi
  rotate_left
  · cases h
  rename_i e ht
  replace h := obind_inv h; obtain ⟨z, hz, h⟩ := h
  replace h := obind_inv h; obtain ⟨zs, hzs, h⟩ := h
  replace h := guardO_inv h; obtain ⟨⟨hpos, hzl⟩, h⟩ := h
  obtain ⟨zv, hzv, hzs', hze, hzc⟩ := zero_facts (P := P) hzs hzl
  split at h
  · rename_i i off n e' g
    replace h := obind_inv h; obtain ⟨o, ho, h⟩ := h
    obtain ⟨xs, mt, rfl⟩ : ∃ a b, o = AO.cells a b := by cases o <;> first | exact ⟨_, _, rfl⟩ | (simp at h)
    simp only at h
    replace h := guardO_inv h; obtain ⟨⟨hmt, hez, hend⟩, h⟩ := h
    obtain ⟨rfl, rfl⟩ := Prod.mk.inj (Option.some.inj h)
    subst hmt
    subst hez
    have hrl : (rep n zs).length = n * e' := by rw [rep_length, hzl]
    have hnl : (Builtin.zeroCells zv.cells n).toList.length = n * e' := by rw [Array.length_toList, size_zeroCells, hzs']
    have hrc : RelCells σ I w zs zv.cells := relCells_zero hze hzc
    have hrel : ∀ j (_h : j < (rep n zs).length), (rep n zs)[j].isCell = true ∧ Rel σ I w (rep n zs)[j] ((Builtin.zeroCells zv.cells n).toList.getD j undef) := by
      intro j hj
      have hg := rep_get hzl hpos n j (by omega)
      rw [List.getElem?_eq_getElem hj] at hg
      obtain ⟨c1, v, c2, c3⟩ := (relCells_iff.1 hrc).2 _ _ hg.symm
      refine ⟨c1, ?_⟩
      have e1 : (Builtin.zeroCells zv.cells n).toList.getD j undef = v := by
        rw [List.getD_eq_getElem?_getD, Array.getElem?_toList, zeroCells_get (by rw [hzs']; omega), hzs', c2]; rfl
      rw [e1]; exact c3
    have zero : ∀ base : Option Addr, n = 0 → ∃ v w', (Builtin.clear_ #[t] ty #[.slice base n 0]).run P w = .ok v w' ∧ Rel σ I w' (.tup []) v ∧ Inv c σ I w' (upd hp i (.cells (splice xs off (rep n zs)) true)) un ∧ Grow σ I w σ I w' := by
      intro base hn
      subst hn
      refine ⟨.tuple #[], w, ?_, .tup [] #[] rfl (fun j hj => by simp at hj), ?_, Grow.refl _ _ _⟩
      · simp only [Builtin.clear_, List.getElem?_toArray, List.getElem?_cons_zero, Sem.run_bind, run_underlying ht, Result.andThen_ok]
        cases base <;> rfl
      have : upd hp i (.cells (splice xs off (rep 0 zs)) true) = hp := by
        funext k
        rw [upd_apply]
        split
        · rename_i e; subst e; rw [ho]; simp [splice, rep]
        · rfl
      rw [this]; exact hi
    cases hx with
    | osnil => exact zero none rfl
    | oszero _ _ _ _ a => exact zero (some a) rfl
    | os _ _ _ _ _ blk base sz cap g1 g2 g3 =>
      rcases Nat.eq_zero_or_pos n with hn | hn
      · subst hn
        obtain ⟨v, w', r1, r2, r3, r4⟩ := zero (some ⟨blk, base + off, none⟩) rfl
        refine ⟨v, w', ?_, r2, r3, r4⟩
        rw [← r1]
        simp only [Builtin.clear_, List.getElem?_toArray, List.getElem?_cons_zero, Sem.run_bind, run_underlying ht, Result.andThen_ok]
      obtain ⟨w', r1, r2, r3⟩ := store_own (P := P) hi (off := off) (ys := rep n zs) (zs := splice xs off (rep n zs)) (us := (Builtin.zeroCells zv.cells n).toList) ho g1 (by rw [hrl]; omega) (by rw [hrl, hnl])
        (fun j hj => (hrel j hj).1) (fun j hj => (hrel j hj).2) (splice_length (by rw [hrl]; omega)) (fun j => splice_get (by rw [hrl]; omega))
      refine ⟨.tuple #[], w', ?_, .tup [] #[] rfl (fun j hj => by simp at hj), r2, r3⟩
      obtain ⟨m, rfl⟩ : ∃ m, n = m + 1 := ⟨n - 1, by omega⟩
      simp only [Builtin.clear_, List.getElem?_toArray, List.getElem?_cons_zero, Sem.run_bind, run_underlying ht, Result.andThen_ok, hzv, r1, Sem.run_pure]
  · cases h

theorem freeze_out {w : World} {blk : Nat} {cs : Array Value} {T : TypeId} {lo hi : Nat} (h : w.heap[blk]? = some (.cells cs T (lo, hi))) (hu : Unfz lo hi cs.size) :
    ∃ lo' hi', (w.freeze ⟨blk, cs.size, none⟩ 1).heap[blk]? = some (.cells cs T (lo', hi')) ∧ Unfz lo' hi' cs.size ∧ (w.freeze ⟨blk, cs.size, none⟩ 1).heap.size = w.heap.size ∧ ∀ k, k ≠ blk → (w.freeze ⟨blk, cs.size, none⟩ 1).heap[k]? = w.heap[k]? := by
  unfold World.freeze
  rw [if_neg (by decide)]
  simp only [Array.size_modify, Array.getElem?_modify, h, if_true, Option.map_some]
  obtain ⟨u1, u2⟩ := hu
  have hlo : lo = hi ∨ cs.size ≤ lo := by
    rcases Nat.lt_or_ge lo cs.size with e | e
    · left
      have := u2 lo e
      omega
    · exact .inr e
  by_cases e : lo = hi
  · subst e
    exact ⟨cs.size, cs.size + 1, by simp, ⟨by omega, fun o ho => by omega⟩, trivial, fun k hk => by rw [if_neg (fun e => hk e.symm)]⟩
  · have hs : cs.size ≤ lo := hlo.resolve_left e
    have e2 : (lo == hi) = false := by simpa using e
    exact ⟨min lo cs.size, max hi (cs.size + 1), by simp [e2], ⟨by omega, fun o ho => by omega⟩, trivial, fun k hk => by rw [if_neg (fun e => hk e.symm)]⟩

theorem mark_sound {e t : TypeId} {x z0 : AV} {a : Value} {hp' : H} (h : markA P e x hp = some (z0, hp')) (ht : P.underlying t = some (.slice e)) (hx : Rel σ I w x a) (hi : Inv c σ I w hp un) :
    ∃ w', (convert t t a).run P w = .ok a w' ∧ Rel σ I w' z0 a ∧ Inv c σ I w' hp' un ∧ Grow σ I w σ I w' := by
  unfold markA at h
  split at h
  rotate_left
  · cases h
  rename_i he
  split at h
  rotate_left
  · cases h
  rename_i i off n e' g
  replace h := obind_inv h; obtain ⟨o, ho, h⟩ := h
  obtain ⟨xs, mt, rfl⟩ : ∃ a b, o = AO.cells a b := by cases o <;> first | exact ⟨_, _, rfl⟩ | (simp at h)
  simp only at h
  replace h := guardO_inv h; obtain ⟨⟨hmt, hn⟩, h⟩ := h
  obtain ⟨rfl, rfl⟩ := Prod.mk.inj (Option.some.inj h)
  subst hmt
  cases hx with
  | osnil => omega
  | oszero => omega
  | os _ _ _ _ _ blk base sz cap g1 g2 g3 =>
    have hown := hi.own i _ ho
    have hnI : ¬ I blk := by simp only [OwnRel, g1] at hown; exact hown.2.1 trivial
    obtain ⟨⟨cs, T, lo, hi_, q1, q2, q3, q4, q5⟩, q6⟩ := own_row hown g1
    subst q2
    obtain ⟨lo', hi', f1, f2, f3, f4⟩ := freeze_out q1 q4
    have hw : ∀ k, I k → (w.freeze ⟨blk, cs.size, none⟩ 1).heap[k]? = w.heap[k]? := fun k hk => f4 k (fun e => hnI (e ▸ hk))
    have hinv : Inv c σ I (w.freeze ⟨blk, cs.size, none⟩ 1) (upd hp i (.cells xs true)) un := by
      refine hi.setRowG ho g1 ?_ ?_ ?_ f3 f4 q6 (fun cs2 T2 lo2 hi2 r1 r2 r3 => ?_)
      · unfold World.freeze; split <;> rfl
      · unfold World.freeze; split <;> rfl
      · unfold World.freeze; split <;> rfl
      · rw [q1] at r1
        simp only [Option.some.injEq, Obj.cells.injEq, Prod.mk.injEq] at r1
        obtain ⟨rfl, rfl, rfl, rfl⟩ := r1
        exact ⟨cs, lo', hi', f1, rfl, f2, q3, q5⟩
    refine ⟨_, ?_, ?_, hinv, ⟨fun _ _ => rfl, fun _ h => h, hw⟩⟩
    · have hsh : w.shape? blk = some (T, cs.size) := by unfold World.shape?; rw [q1]
      simp [convert, run_underlying ht, run_underlying he, markStringish, hsh]
    · exact .os i off n e' g blk base cs.size cap g1 g2 g3

theorem store_sound {t : TypeId} {x : AV} {i off z : Nat} {cs xs : List AV} {mt : Bool} {a v : Value} (ha : Rel σ I w (.op i off) a) (hv : Rel σ I w x v) (hcs : cellsV x = some cs) (hz : szOf P t = some z)
    (ho : hp i = some (.cells xs mt)) (hmt : mt = true) (hl : cs.length = z) (hfit : off + z ≤ xs.length) (hi : Inv c σ I w hp un) :
    ∃ w', (Instr.storeAt t a v).run P w = .ok () w' ∧ Inv c σ I w' (upd hp i (.cells (storeL xs off cs) true)) un ∧ Grow σ I w σ I w' := by
  subst hmt
  obtain ⟨blk, base, sz, hloc, rfl⟩ := op_inv ha
  have hc := relCells_cellsV hcs hv
  obtain ⟨w', r1, r2, r3⟩ := store_own (P := P) hi (off := off) (ys := cs) (zs := storeL xs off cs) (us := v.cells.toList) ho hloc (by omega) (by simpa using hc.size) hc.cell
    (fun j hj => by have := hc.rel j hj; rwa [← Array.toArray_toList (xs := v.cells), getD_list] at this) (storeL_length (by omega)) (fun j => storeL_get (by omega))
  refine ⟨w', ?_, r2, r3⟩
  have hne : ¬ (v.cells.size ≠ z) := by rw [hc.size, hl]; simp
  simp only [Instr.storeAt, Instr.sureAddr, storeVar, Sem.run_bind, Sem.run_pure, Result.andThen_ok, run_sizeOf' hz, if_neg hne, r1]

theorem write_sound {o : Oper} {ρA : Operand → AV} {ρ : Operand → Value} {id : Nat} {x : AV} {hp' : H} (h : writeOp P o.op ρA hp id = some (x, hp')) (hρ : ∀ y, Rel σ I w (ρA y) (ρ y))
    (hi : Inv c σ I w hp un) (hu : un id) :
    ∃ r w' σ' I', (execOp ρ o).run P w = .ok r w' ∧ ((∃ v, r = .value v ∧ Rel σ' I' w' x v) ∨ (r = .skip ∧ x = .junk)) ∧ Inv c σ' I' w' hp' (fun k => un k ∧ k ≠ id) ∧ Grow σ I w σ' I' w' := by
  obtain ⟨dst, op, type, pos, after, guard⟩ := o
  simp only at h
  unfold writeOp at h
  split at h
  · rename_i t a y
    have ha := hρ a
    split at h
    · rename_i i off eq
      rw [eq] at ha
      replace h := obind_inv h; obtain ⟨cs, hcs, h⟩ := h
      replace h := obind_inv h; obtain ⟨z, hz, h⟩ := h
      replace h := obind_inv h; obtain ⟨o, ho, h⟩ := h
      obtain ⟨xs, mt, rfl⟩ : ∃ a b, o = AO.cells a b := by cases o <;> first | exact ⟨_, _, rfl⟩ | (simp at h)
      simp only at h
      replace h := guardO_inv h; obtain ⟨⟨hmt, hl, hfit⟩, h⟩ := h
      obtain ⟨rfl, rfl⟩ := Prod.mk.inj (Option.some.inj h)
      obtain ⟨w', r1, r2, r3⟩ := store_sound (P := P) ha (hρ y) hcs hz ho hmt hl hfit hi
      exact ⟨.skip, w', σ, I, runU r1, .inr ⟨rfl, rfl⟩, r2.mono_un (fun _ h => h.1), r3⟩
    · cases h
  · rename_i src dst' y
    replace h := guardO_inv h; obtain ⟨hs, h⟩ := h
    subst hs
    split at h
    · rename_i e ht
      obtain ⟨w', r1, r2, r3, r4⟩ := mark_sound (P := P) h ht (hρ y) hi
      exact ⟨.value (ρ y), w', σ, I, by simp only [execOp, Sem.run_bind, r1, Result.andThen_ok, Sem.run_pure], .inl ⟨_, rfl, r2⟩, r3.mono_un (fun _ h => h.1), r4⟩
    · cases h
  · rename_i t
    obtain ⟨rfl, rfl⟩ := Prod.mk.inj (Option.some.inj h)
    obtain ⟨v, w', σ', r1, r2, r3, r4⟩ := makeM_sound (P := P) (t := t) hi hu
    exact ⟨.value v, w', σ', I, runV r1, .inl ⟨_, rfl, r2⟩, r3, r4⟩
  · rename_i t m k y
    obtain ⟨w', I', r1, rfl, r2, r3⟩ := mapUp_sound (P := P) h (hρ m) (hρ k) (hρ y) hi
    exact ⟨.skip, w', σ, I', runU r1, .inr ⟨rfl, rfl⟩, r2.mono_un (fun _ h => h.1), r3⟩
  · rename_i t m k y
    obtain ⟨w', I', r1, rfl, r2, r3⟩ := mapUp_sound (P := P) h (hρ m) (hρ k) (hρ y) hi
    exact ⟨.skip, w', σ, I', runU r1, .inr ⟨rfl, rfl⟩, r2.mono_un (fun _ h => h.1), r3⟩
  · rename_i cl
    obtain ⟨callee, args, argTypes⟩ := cl
    simp only at h
    split at h
    · rename_i a b t t' e1 e2
      have ea : args = #[a, b] := by rw [← Array.toArray_toList (xs := args), e1]
      have et : argTypes = #[t, t'] := by rw [← Array.toArray_toList (xs := argTypes), e2]
      subst ea; subst et
      split at h
      · rename_i hni
        obtain ⟨v, w', σ', I', r1, r2, r3, r4⟩ := append_sound (ty := type) h hni (hρ a) (hρ b) hi hu
        refine ⟨.value v, w', σ', I', ?_, .inl ⟨v, rfl, r2⟩, r3, r4⟩
        simp only [execOp, resolve, invoke, builtin, Sem.run_bind, Sem.run_pure, Result.andThen_ok, List.map_toArray, List.map_cons, List.map_nil, r1]
      · replace h := guardO_inv h; obtain ⟨hni, h⟩ := h
        obtain ⟨v, w', σ', I', r1, r2, r3, r4⟩ := appendZ_sound (ty := type) h hni (hρ a) (hρ b) hi hu
        refine ⟨.value v, w', σ', I', ?_, .inl ⟨v, rfl, r2⟩, r3, r4⟩
        simp only [execOp, resolve, invoke, builtin, Sem.run_bind, Sem.run_pure, Result.andThen_ok, List.map_toArray, List.map_cons, List.map_nil, r1]
    · rename_i a b t t' e1 e2
      have ea : args = #[a, b] := by rw [← Array.toArray_toList (xs := args), e1]
      have et : argTypes = #[t, t'] := by rw [← Array.toArray_toList (xs := argTypes), e2]
      subst ea; subst et
      obtain ⟨v, w', r1, r2, r3, r4⟩ := copy_sound (P := P) (t' := t') (ty := type) h (hρ a) (hρ b) hi
      refine ⟨.value v, w', σ, I, ?_, .inl ⟨v, rfl, r2⟩, r3.mono_un (fun _ h => h.1), r4⟩
      simp only [execOp, resolve, invoke, builtin, Sem.run_bind, Sem.run_pure, Result.andThen_ok, List.map_toArray, List.map_cons, List.map_nil, r1]
    · rename_i a t e1 e2
      have ea : args = #[a] := by rw [← Array.toArray_toList (xs := args), e1]
      have et : argTypes = #[t] := by rw [← Array.toArray_toList (xs := argTypes), e2]
      subst ea; subst et
      obtain ⟨v, w', r1, r2, r3, r4⟩ := clear_sound (P := P) (ty := type) h (hρ a) hi
      refine ⟨.value v, w', σ, I, ?_, .inl ⟨v, rfl, r2⟩, r3.mono_un (fun _ h => h.1), r4⟩
      simp only [execOp, resolve, invoke, builtin, Sem.run_bind, Sem.run_pure, Result.andThen_ok, List.map_toArray, List.map_cons, List.map_nil, r1]
    · rename_i a k t t' e1 e2
      have ea : args = #[a, k] := by rw [← Array.toArray_toList (xs := args), e1]
      have et : argTypes = #[t, t'] := by rw [← Array.toArray_toList (xs := argTypes), e2]
      subst ea; subst et
      obtain ⟨v, w', r1, r2, r3, r4⟩ := delA_sound (P := P) (t' := t') (ty := type) h (hρ a) (hρ k) hi
      refine ⟨.value v, w', σ, I, ?_, .inl ⟨v, rfl, r2⟩, r3.mono_un (fun _ h => h.1), r4⟩
      simp only [execOp, resolve, invoke, builtin, Sem.run_bind, Sem.run_pure, Result.andThen_ok, List.map_toArray, List.map_cons, List.map_nil, r1]
    · cases h
  · cases h

end
end Go.AX

namespace Go.AX
open Go

def look : List (Nat × AV) → Nat → AV
  | [], _ => .junk
  | (k, x) :: r, t => if k = t then x else look r t

def ev (GL : Nat → Option (List AV)) (fr : List (Nat × AV)) : Operand → AV
  | .tmp t => look fr t
  | .const v => ofV v
  | .global g => match GL g with | some xs => .rp xs | none => .junk
  | .func f => .fn f []

def putA (dst : Option Tmp) (x : AV) (fr : List (Nat × AV)) : List (Nat × AV) :=
  match dst with
  | some d => (d, x) :: fr
  | none => fr

/-- What is known of a function: what it answers, from arguments alone ('pure': scalar answers or not; 'fresh': a new slice), or with own objects. -/
inductive Spec where
  | pure (sc : Bool) (g : List AV → Option AV)
  | fresh (sc : Bool) (g : List AV → Option (Nat × Nat × List AV))
  | heap (g : List AV → H → Nat → Option (AV × H × Nat))

abbrev Env := Nat → Option Spec

structure S where
  fr : List (Nat × AV)
  hp : H
  nx : Nat
  cx : Nat

def borrow1 (hp : H) (x : AV) : Option AV :=
  match x with
  | .os id off n e _ => obind (hp id) fun o => match o with | .cells xs _ => guardO (off + n * e ≤ xs.length) (some (.sl n ((xs.drop off).take (n * e)))) | _ => none
  | .op id off => obind (hp id) fun o => match o with | .cells xs _ => some (.rp (xs.drop off)) | _ => none
  | x => some x
def borrowL (hp : H) : List AV → Option (List AV)
  | [] => some []
  | x :: r => obind (borrow1 hp x) fun y => obind (borrowL hp r) fun l => some (y :: l)

def noOwn (xs : List AV) : Bool := xs.all fun x => match x with | .os .. => false | .op .. => false | .mp _ => false | .fn .. => false | .agg _ => false | .tup _ => false | .v (.slice none 0 0) => false | _ => true
def immM (f : AV → Option AV) : List AV → Option (List AV)
  | [] => some []
  | x :: r => obind (f x) fun y => obind (immM f r) fun l => some (y :: l)
def immL (f : AV → Option AV) (xs : List AV) : Option (List AV) := if noOwn xs = true then some xs else immM f xs

/-- Own objects in an answer: from then on plain ones. -/
def immF : Nat → H → AV → Option AV
  | 0, _, _ => none
  | n + 1, hp, x => match x with
    | .os id off m e _ => obind (hp id) fun o => match o with
      | .cells xs _ => guardO (off + m * e ≤ xs.length) (obind (immL (immF n hp) ((xs.drop off).take (m * e))) fun l => some (.sl m l))
      | _ => none
    | .op id off => obind (hp id) fun o => match o with
      | .cells xs _ => obind (immL (immF n hp) (xs.drop off)) fun l => some (.rp l)
      | _ => none
    | .v (.slice none 0 0) => some (.sl 0 [])
    | .agg xs => obind (immL (immF n hp) xs) fun l => some (.agg l)
    | .tup xs => obind (immL (immF n hp) xs) fun l => some (.tup l)
    | .fn f xs => obind (immL (immF n hp) xs) fun l => some (.fn f l)
    | .mp _ => none
    | x => some x

def borrowD (hp : H) (xs : List AV) : Option (List AV) := immM (immF 4 hp) xs
def frzArg (hp : H) (x : AV) : Option (AV × H) :=
  match x with
  | .os id off n e _ => obind (hp id) fun o => match o with | .cells xs _ => guardO (off + n * e ≤ xs.length) (some (.sl n ((xs.drop off).take (n * e)), upd hp id (.cells xs false))) | _ => none
  | .op id off => obind (hp id) fun o => match o with | .cells xs _ => some (.rp (xs.drop off), upd hp id (.cells xs false)) | _ => none
  | .v (.slice none 0 0) => some (.sl 0 [], hp)
  | x => some (x, hp)
def frzArgs (hp : H) : List AV → Option (List AV × H)
  | [] => some ([], hp)
  | x :: r => obind (frzArg hp x) fun y => obind (frzArgs y.2 r) fun l => some (y.1 :: l.1, l.2)

/-- How an operation looks at own objects: 0: as they are; 1: at none; else: at those that were there when the region began, and at those that the operations of the mask m / 2 - 1 have made. -/
def hsel (m nx n : Nat) (hp : H) : H :=
  match m with
  | 0 => hp
  | 1 => fun _ => none
  | _ => fun id => if nx ≤ id ∧ id < nx + n ∧ (m / 2 - 1).testBit (id - nx) = false then none else hp id

def callA (Γ : Env) (f : FuncId) (args : List AV) (m nx n : Nat) (hp : H) (id cx : Nat) : Option (AV × H × Nat) :=
  match Γ f with
  | some (.pure true g) => obind (borrowD (hsel m nx n hp) args) fun as_ => obind (g as_) fun r => guardO (r.noMem = true) (some (r, hp, cx))
  | some (.pure false g) => if m = 0 then obind (frzArgs hp args) fun ah => obind (g ah.1) fun r => some (r, ah.2, cx)
      else obind (borrowL (fun _ => none) args) fun as_ => obind (g as_) fun r => some (r, hp, cx)
  | some (.fresh true g) => obind (borrowD (hsel m nx n hp) args) fun as_ => obind (g as_) fun r => guardO (AV.noMem.noMemL r.2.2 = true) (some (.os id 0 r.1 r.2.1 true, upd hp id (.cells r.2.2 true), cx))
  | some (.fresh false g) => if m = 0 then obind (frzArgs hp args) fun ah => obind (g ah.1) fun r => some (.os id 0 r.1 r.2.1 true, upd ah.2 id (.cells r.2.2 true), cx)
      else obind (borrowL (fun _ => none) args) fun as_ => obind (g as_) fun r => some (.os id 0 r.1 r.2.1 true, upd hp id (.cells r.2.2 true), cx)
  | some (.heap g) => guardO (m = 0) (g args hp cx)
  | none => none

def callOp (Γ : Env) (op : Op) (ρ : Operand → AV) (m nx n : Nat) (hp : H) (id cx : Nat) : Option (AV × H × Nat) :=
  match op with
  | .call c => match c.callee with
    | .value f => match ρ f with
      | .fn f caps => callA Γ f (c.args.toList.map ρ ++ caps) m nx n hp id cx
      | _ => none
    | _ => none
  | _ => none

/-- What an operation comes to. -/
def eff (P : Program) (Γ : Env) (op : Op) (ρ : Operand → AV) (m nx n : Nat) (hp : H) (id cx : Nat) : Option (AV × H × Nat) :=
  match cls P op with
  | .pure => obind (pureOp P op ρ) fun x => some (x, hp, cx)
  | .read => obind (readOp P op ρ (hsel m nx n hp)) fun x => some (x, hp, cx)
  | .new => obind (newOp P op ρ id) fun p => some (p.1, upd hp id (.cells p.2 true), cx)
  | .write => obind (writeOp P op ρ hp id) fun p => some (p.1, p.2, cx)
  | .call => callOp Γ op ρ m nx n hp id cx

/-- What a guard says: of an operation that was passed over it says no. -/
def guardB (want : Bool) : AV → Option Bool
  | .b x => some (x == want)
  | .tup [] => some false
  | _ => none
def gdO (ops : Array Oper) (fr : List (Nat × AV)) (o : Oper) : Option Bool :=
  match o.guard with
  | none => some true
  | some (j, want) => match (ops[j]?).bind (·.dst) with
    | some t => guardB want (look fr t)
    | none => none

def stepO (P : Program) (Γ : Env) (GL : Nat → Option (List AV)) (md : Nat → Nat) (ops : Array Oper) (k : Nat) (o : Oper) (s : S) : Option S :=
  obind (gdO ops s.fr o) fun b => match b with
    | true => obind (eff P Γ o.op (ev GL s.fr) (md k) s.nx ops.size s.hp (s.nx + k) s.cx) fun r => some { fr := putA o.dst r.1 s.fr, hp := r.2.1, nx := s.nx, cx := r.2.2 }
    | false => some { s with fr := putA o.dst (.tup []) s.fr }

/-- What the world looks like at a point of a function's run, from the point where it began on. -/
structure R (c : Ctx) (σ0 : Nat → Loc) (I0 : Nat → Prop) (w0 : World) (rem : Nat → Prop) (s : S) (a : Act) (w : World) : Prop where
  ex : ∃ σ I, Inv c σ I w s.hp (fun id => s.cx ≤ id ∨ (∃ k, rem k ∧ id = s.nx + k) ∨ c.u0 id) ∧ Grow σ0 I0 w0 σ I w ∧ (∀ t, Rel σ I w (look s.fr t) (a.tmps.getD t undef))
  defers : a.defers = c.df
  size : a.tmps.size = c.nt
  lt : ∀ k, rem k → s.nx + k < s.cx
  lt0 : ∀ id, c.u0 id → id < s.nx ∧ id < s.cx

theorem ev_rel {c : Ctx} {σ : Nat → Loc} {I : Nat → Prop} {w : World} {hp : H} {un : Nat → Prop} {fr : List (Nat × AV)} {a : Act} (hi : Inv c σ I w hp un) (hf : ∀ t, Rel σ I w (look fr t) (a.tmps.getD t undef)) :
    ∀ y, Rel σ I w (ev c.GL fr y) (a.eval y) := by
  intro y
  cases y with
  | tmp t => exact hf t
  | const v => exact rel_ofV v
  | global g =>
    simp only [ev, Act.eval]
    split
    · rename_i xs h; exact hi.glob g xs h
    · exact .junk _
  | func f => exact .fn f [] #[] rfl (fun i h => by simp at h)

theorem put_rel {σ : Nat → Loc} {I : Nat → Prop} {w : World} {fr : List (Nat × AV)} {a : Act} {dst : Option Tmp} {x : AV} {v : Value} {n : Nat} (hn : a.tmps.size = n) (hd : ∀ d, dst = some d → d < n)
    (hx : dst.isSome = true → Rel σ I w x v) (hf : ∀ t, Rel σ I w (look fr t) (a.tmps.getD t undef)) : ∀ t, Rel σ I w (look (putA dst x fr) t) ((a.put dst v).tmps.getD t undef) := by
  intro t
  cases dst with
  | none => exact hf t
  | some d =>
    simp only [putA, look, Act.put]
    have hlt := hd d rfl
    split
    · rename_i e; subst e
      have : (a.tmps.setIfInBounds d v).getD d undef = v := by
        rw [Array.getD_eq_getD_getElem?, Array.getElem?_setIfInBounds_self_of_lt (by rw [hn]; exact hlt)]; rfl
      rw [this]; exact hx rfl
    · rename_i e
      have : (a.tmps.setIfInBounds d v).getD t undef = a.tmps.getD t undef := by
        rw [Array.getD_eq_getD_getElem?, Array.getElem?_setIfInBounds_ne e, ← Array.getD_eq_getD_getElem?]
      rw [this]; exact hf t

theorem size_put (a : Act) (dst : Option Tmp) (v : Value) : (a.put dst v).tmps.size = a.tmps.size := by
  cases dst <;> simp [Act.put]
theorem defers_put (a : Act) (dst : Option Tmp) (v : Value) : (a.put dst v).defers = a.defers := by
  cases dst <;> rfl

/-- What is known of every function that is called. -/
def Callable (P : Program) (f : FuncId) : Prop := ∃ fn, P.funcs[f]? = some fn ∧ (fn.name == "runtime.NumGoroutine") = false ∧ fn.body.isNone = false

def PureOK (P : Program) (GL : Nat → Option (List AV)) (f : FuncId) (g : List AV → Option AV) : Prop :=
  ∀ (σ : Nat → Loc) (I : Nat → Prop) (w : World) (nx : Nat) (args : List AV) (vals : Array Value) (r : AV),
    (∀ id, nx ≤ id → σ id = .unset) → (∀ k, I k → k < w.heap.size) → (∀ g xs, GL g = some xs → Rel σ I w (.rp xs) (.pointer (some ⟨g, 0, none⟩))) →
    vals.size = args.length → (∀ i (_h : i < args.length), Rel σ I w args[i] (vals.getD i undef)) → g args = some r →
    Calls P f vals w fun e w' => ∃ v σ' I', e = .returned v ∧ w'.os = w.os ∧ w'.tape = w.tape ∧ w'.output = w.output ∧ w.heap.size ≤ w'.heap.size ∧ (∀ k, k < w.heap.size → w'.heap[k]? = w.heap[k]?) ∧
      (∀ id, id < nx → σ' id = σ id) ∧ (∀ k, I' k → I k ∨ w.heap.size ≤ k) ∧ (∀ k, I' k → k < w'.heap.size) ∧ Rel σ' I' w' r v

def FreshOK (P : Program) (GL : Nat → Option (List AV)) (f : FuncId) (g : List AV → Option (Nat × Nat × List AV)) : Prop :=
  ∀ (σ : Nat → Loc) (I : Nat → Prop) (w : World) (nx : Nat) (args : List AV) (vals : Array Value) (n e : Nat) (xs : List AV),
    (∀ id, nx ≤ id → σ id = .unset) → (∀ k, I k → k < w.heap.size) → (∀ g xs, GL g = some xs → Rel σ I w (.rp xs) (.pointer (some ⟨g, 0, none⟩))) →
    vals.size = args.length → (∀ i (_h : i < args.length), Rel σ I w args[i] (vals.getD i undef)) → g args = some (n, e, xs) →
    Calls P f vals w fun e' w' => ∃ v σ' I', e' = .returned v ∧ w'.os = w.os ∧ w'.tape = w.tape ∧ w'.output = w.output ∧ w.heap.size ≤ w'.heap.size ∧ (∀ k, k < w.heap.size → w'.heap[k]? = w.heap[k]?) ∧
      (∀ id, id < nx → σ' id = σ id) ∧ (∀ k, I' k → I k ∨ w.heap.size ≤ k) ∧ (∀ k, I' k → k < w'.heap.size) ∧
      (((v = .slice none 0 0 ∨ ∃ a, v = .slice (some a) 0 0) ∧ n = 0 ∧ xs = []) ∨ ∃ blk base sz cap, v = .slice (some ⟨blk, base, none⟩) n cap ∧ n ≤ cap ∧ base + cap * e ≤ sz ∧ w.heap.size ≤ blk ∧ ¬ I' blk ∧ RowAt σ' I' w' xs blk base sz)

def HeapOK (P : Program) (GL : Nat → Option (List AV)) (f : FuncId) (g : List AV → H → Nat → Option (AV × H × Nat)) : Prop :=
  ∀ (c : Ctx) (σ : Nat → Loc) (I : Nat → Prop) (w : World) (hp : H) (nx : Nat) (args : List AV) (vals : Array Value) (r : AV) (hp' : H) (nx' : Nat),
    c.GL = GL → Inv c σ I w hp (fun id => nx ≤ id) → vals.size = args.length → (∀ i (_h : i < args.length), Rel σ I w args[i] (vals.getD i undef)) → g args hp nx = some (r, hp', nx') →
    nx ≤ nx' ∧ Calls P f vals w fun e w' => ∃ v σ' I', e = .returned v ∧ Inv c σ' I' w' hp' (fun id => nx' ≤ id) ∧ Rel σ' I' w' r v ∧ Grow σ I w σ' I' w' ∧ (∀ id, id < nx → σ id = .unset → σ' id = .unset)

def EnvOK (P : Program) (GL : Nat → Option (List AV)) (Γ : Env) : Prop :=
  ∀ f s, Γ f = some s → Callable P f ∧ match s with
    | .pure _ g => PureOK P GL f g
    | .fresh _ g => FreshOK P GL f g
    | .heap g => HeapOK P GL f g

section
variable {P : Program} {c : Ctx} {σ : Nat → Loc} {I : Nat → Prop} {w : World} {hp : H} {un : Nat → Prop}

/-- A call that leaves all that there was as it was. -/
theorem Inv.extend {w' : World} (h : Inv c σ I w hp un) (hos : w'.os = w.os) (ht : w'.tape = w.tape) (ho : w'.output = w.output) (hs : w.heap.size ≤ w'.heap.size) (hk : ∀ k, k < w.heap.size → w'.heap[k]? = w.heap[k]?)
    (I' : Nat → Prop) (hI : ∀ k, I k → I' k) (hI2 : ∀ k, I' k → I k ∨ (w.heap.size ≤ k ∧ k < w'.heap.size)) : Inv c σ I' w' hp un := by
  have hw : ∀ k, I k → w'.heap[k]? = w.heap[k]? := fun k hi => hk k (h.ilt k hi)
  refine ⟨h.ext, fun k hk => hI k (h.imm k hk), fun k hi => by rw [hw k (h.imm k hi)]; exact h.iw k hi, by rw [hos]; exact h.os, by rw [ht]; exact h.tape, by rw [ho]; exact h.output, Nat.le_trans h.size hs,
    fun k h1 h2 => by rw [hk k (by have := h.size; omega)]; exact h.old k h1 h2, fun k hi => ?_, fun id o hid => ?_, h.inj, h.lim, h.un, fun g xs hg => (h.glob g xs hg).mono (fun _ _ => rfl) hI hw, fun k hi => ?_⟩
  · rcases hI2 k hi with hi | hi
    · have := h.ilt k hi; omega
    · exact hi.2
  · exact (h.own id o hid).mono (fun _ _ => rfl) hI hw fun blk base sz e => by
      have hlt := (h.own id o hid).lt e
      exact ⟨hk blk hlt, fun _ hn hb => by
        rcases hI2 blk hb with hb | hb
        · exact hn hb
        · omega⟩
  · rcases hI2 k hi with hi | hi
    · exact h.inew k hi
    · exact .inr (.inl (by have := h.size; omega))

theorem hsel_sub (m nx n : Nat) (hp : H) : ∀ id o, hsel m nx n hp id = some o → hp id = some o := by
  intro id o h
  unfold hsel at h
  split at h
  · exact h
  · cases h
  · replace h : (if nx ≤ id ∧ id < nx + n ∧ (m / 2 - 1).testBit (id - nx) = false then none else hp id) = some o := h
    split at h
    · cases h
    · exact h

/-- A block that nobody has, and that may be written, becomes an own object. -/
theorem Inv.adopt (h : Inv c σ I w hp un) {id : Nat} (hu : un id) {xs : List AV} {blk base sz : Nat} (hrow : RowAt σ I w xs blk base sz) (hnI : ¬ I blk) (hlim : c.w0.heap.size ≤ blk)
    (hother : ∀ k o blk' base' sz', hp k = some o → σ k = .at_ blk' base' sz' → blk' ≠ blk) :
    Inv c (setLoc σ id (.at_ blk base sz)) I w (upd hp id (.cells xs true)) (fun k => un k ∧ k ≠ id) := by
  have hσ := setLoc_ext (l := .at_ blk base sz) (h.un id hu)
  have get : ∀ k o, upd hp id (.cells xs true) k = some o → (k = id ∧ o = .cells xs true) ∨ (k ≠ id ∧ hp k = some o) := by
    intro k o hk
    rw [upd_apply] at hk
    split at hk
    · rename_i e; exact .inl ⟨e, (Option.some.inj hk).symm⟩
    · rename_i e; exact .inr ⟨e, hk⟩
  refine { h with ext := fun k hk => ?_, own := fun k o hk => ?_, inj := ?_, lim := ?_, un := ?_, glob := fun g ys hg => (h.glob g ys hg).mono hσ (fun _ h => h) fun _ _ => rfl }
  · have := h.ext k hk
    rw [hσ k (by rw [this]; exact hk), this]
  · rcases get k o hk with ⟨rfl, rfl⟩ | ⟨e1, e2⟩
    · simp only [OwnRel, setLoc, if_true]
      exact ⟨hrow.mono hσ (fun _ h => h) (fun _ _ => rfl) rfl, fun _ => hnI, fun hm => by simp at hm⟩
    · exact (h.own k o e2).mono hσ (fun _ h => h) (fun _ _ => rfl) fun _ _ _ _ => ⟨rfl, fun _ h => h⟩
  · intro k k' o1 o' blk1 base1 sz1 base2 sz2 h1 hm1 h2 hn e1 e2
    rcases get k _ h1 with ⟨rfl, _⟩ | ⟨a1, a2⟩
    · rcases get k' _ h2 with ⟨rfl, _⟩ | ⟨b1, b2⟩
      · exact hn rfl
      · simp only [setLoc, if_true, Loc.at_.injEq] at e1
        simp only [setLoc, if_neg b1] at e2
        exact hother k' o' blk1 base2 sz2 b2 e2 e1.1.symm
    · simp only [setLoc, if_neg a1] at e1
      rcases get k' _ h2 with ⟨rfl, _⟩ | ⟨b1, b2⟩
      · simp only [setLoc, if_true, Loc.at_.injEq] at e2
        exact hother k _ blk1 base1 sz1 a2 e1 e2.1.symm
      · simp only [setLoc, if_neg b1] at e2
        exact h.inj k k' o1 o' blk1 base1 sz1 base2 sz2 a2 hm1 b2 hn e1 e2
  · intro k o1 blk1 base1 sz1 h1 hm1 e1
    rcases get k _ h1 with ⟨rfl, _⟩ | ⟨a1, a2⟩
    · simp only [setLoc, if_true, Loc.at_.injEq] at e1
      rw [← e1.1]; exact .inl hlim
    · simp only [setLoc, if_neg a1] at e1
      exact h.lim k o1 blk1 base1 sz1 a2 hm1 e1
  · intro k ⟨hk, hn⟩
    simp only [setLoc, if_neg hn]
    exact h.un k hk

theorem borrow_sound {Ib : Nat → Prop} (hi : Inv c σ I w hp un) (hIb : ∀ k, I k → Ib k) (hIb2 : ∀ id o blk base sz, hp id = some o → σ id = .at_ blk base sz → Ib blk) :
    ∀ {x y : AV} {v : Value}, borrow1 hp x = some y → Rel σ I w x v → Rel σ Ib w y v := by
  intro x y v h hr
  have hmono : Rel σ Ib w x v := hr.mono (fun _ _ => rfl) hIb (fun _ _ => rfl)
  unfold borrow1 at h
  split at h
  · rename_i id off n e g
    replace h := obind_inv h; obtain ⟨o, ho, h⟩ := h
    obtain ⟨xs, mt, rfl⟩ : ∃ a b, o = AO.cells a b := by cases o <;> first | exact ⟨_, _, rfl⟩ | (simp at h)
    simp only at h
    replace h := guardO_inv h; obtain ⟨hfit, h⟩ := h
    obtain rfl := Option.some.inj h
    have hown := hi.own id _ ho
    have hlen : ((xs.drop off).take (n * e)).length = n * e := by simp; omega
    cases hr with
    | os _ _ _ _ _ blk base sz cap g1 g2 g3 =>
      have hrow := own_row hown g1
      refine .sl n _ blk (base + off) cap (fun i => (w.cell? ⟨blk, base + off + i, none⟩).getD undef) (hIb2 id _ _ _ _ ho g1) g2 (fun i hi => ?_) (fun i hi => ?_) (fun i hi => ?_)
      · rw [hlen] at hi
        obtain ⟨v, hv, _⟩ := hrow.get (off + i) (by omega)
        rw [← Nat.add_assoc] at hv; rw [hv]; rfl
      · rw [hlen] at hi
        rw [getElem_take', getElem_drop']; exact (hrow.get (off + i) (by omega)).choose_spec.2.1
      · rw [hlen] at hi
        rw [getElem_take', getElem_drop']
        obtain ⟨v, hv, _, hrel⟩ := hrow.get (off + i) (by omega)
        rw [← Nat.add_assoc] at hv; rw [hv]; exact hrel.mono (fun _ _ => rfl) hIb (fun _ _ => rfl)
    | osnil => simp only [Nat.zero_mul, List.take_zero]; exact .slnil
    | oszero _ _ _ _ a => simp only [Nat.zero_mul, List.take_zero]; exact .slzero a
  · rename_i id off
    replace h := obind_inv h; obtain ⟨o, ho, h⟩ := h
    obtain ⟨xs, mt, rfl⟩ : ∃ a b, o = AO.cells a b := by cases o <;> first | exact ⟨_, _, rfl⟩ | (simp at h)
    simp only at h
    obtain rfl := Option.some.inj h
    have hown := hi.own id _ ho
    obtain ⟨blk, base, sz, g1, rfl⟩ := op_inv hr
    have hrow := own_row hown g1
    refine .rp _ blk (base + off) (fun i => (w.cell? ⟨blk, base + off + i, none⟩).getD undef) (hIb2 id _ _ _ _ ho g1) (fun i hi => ?_) (fun i hi => ?_) (fun i hi => ?_)
    · simp at hi
      obtain ⟨v, hv, _⟩ := hrow.get (off + i) (by omega)
      rw [← Nat.add_assoc] at hv; rw [hv]; rfl
    · simp at hi
      rw [getElem_drop']; exact (hrow.get (off + i) (by omega)).choose_spec.2.1
    · simp at hi
      rw [getElem_drop']
      obtain ⟨v, hv, _, hrel⟩ := hrow.get (off + i) (by omega)
      rw [← Nat.add_assoc] at hv; rw [hv]; exact hrel.mono (fun _ _ => rfl) hIb (fun _ _ => rfl)
  · obtain rfl := Option.some.inj h
    exact hmono

theorem borrowL_sound {Ib : Nat → Prop} (hi : Inv c σ I w hp un) (hIb : ∀ k, I k → Ib k) (hIb2 : ∀ id o blk base sz, hp id = some o → σ id = .at_ blk base sz → Ib blk) :
    ∀ (xs : List AV) {ys : List AV} (vs : Nat → Value), borrowL hp xs = some ys → (∀ i (_h : i < xs.length), Rel σ I w xs[i] (vs i)) → ys.length = xs.length ∧ ∀ i (_h : i < ys.length), Rel σ Ib w ys[i] (vs i)
  | [], ys, vs, h, _ => by obtain rfl := Option.some.inj h; exact ⟨rfl, fun i h => by simp at h⟩
  | x :: r, ys, vs, h, hr => by
    simp only [borrowL] at h
    replace h := obind_inv h; obtain ⟨y, hy, h⟩ := h
    replace h := obind_inv h; obtain ⟨l, hl, h⟩ := h
    obtain rfl := Option.some.inj h
    have h0 := hr 0 (by simp)
    obtain ⟨e1, e2⟩ := borrowL_sound hi hIb hIb2 r (fun i => vs (i + 1)) hl (fun i hi => by have := hr (i + 1) (by simpa using hi); simpa using this)
    refine ⟨by simp [e1], fun i hi' => ?_⟩
    cases i with
    | zero => exact borrow_sound hi hIb hIb2 hy h0
    | succ k => exact e2 k (by simpa using hi')

/-- All own objects of a run are plain ones from then on. -/

theorem imm_sound {c : Ctx} {σ : Nat → Loc} {I I' : Nat → Prop} {w : World} {hp : H} {un : Nat → Prop} (hi : Inv c σ I w hp un) (hI : ∀ k, I k → I' k) (hI2 : ∀ id o blk base sz, hp id = some o → σ id = .at_ blk base sz → I' blk) :
    ∀ (n : Nat) {x y : AV} {v : Value}, immF n hp x = some y → Rel σ I w x v → Rel σ I' w y v ∧ (x.isCell = true → y.isCell = true) := by
  intro n
  induction n with
  | zero => intro x y v h; simp [immF] at h
  | succ n ih =>
    intro x y v h hr
    have hmono : ∀ {x : AV} {v : Value}, Rel σ I w x v → Rel σ I' w x v := fun h => h.mono (fun _ _ => rfl) hI (fun _ _ => rfl)
    have immMs : ∀ (xs : List AV) {ys : List AV}, immM (immF n hp) xs = some ys → ys.length = xs.length ∧ ∀ (f : Nat → Value), (∀ i (_h : i < xs.length), Rel σ I w xs[i] (f i)) → ∀ i (_h : i < ys.length), Rel σ I' w ys[i] (f i) ∧ ∀ h2 : i < xs.length, xs[i].isCell = true → ys[i].isCell = true := by
      intro xs
      induction xs with
      | nil => intro ys h; obtain rfl := Option.some.inj h; exact ⟨rfl, fun f _ i h => by simp at h⟩
      | cons a r ihr =>
        intro ys h
        simp only [immM] at h
        replace h := obind_inv h; obtain ⟨b, hb, h⟩ := h
        replace h := obind_inv h; obtain ⟨l, hl, h⟩ := h
        obtain rfl := Option.some.inj h
        obtain ⟨e1, e2⟩ := ihr hl
        refine ⟨by simp [e1], fun f hf i hi' => ?_⟩
        cases i with
        | zero => exact ⟨(ih hb (hf 0 (by simp))).1, fun _ hc => (ih hb (hf 0 (by simp))).2 hc⟩
        | succ k =>
          have := e2 (fun i => f (i + 1)) (fun i hi => by have := hf (i + 1) (by simpa using hi); simpa using this) k (by simpa using hi')
          exact ⟨this.1, fun h2 hc => this.2 (by simpa using h2) (by simpa using hc)⟩
    have immLs : ∀ (xs : List AV) {ys : List AV}, immL (immF n hp) xs = some ys → ys.length = xs.length ∧ ∀ (f : Nat → Value), (∀ i (_h : i < xs.length), Rel σ I w xs[i] (f i)) → ∀ i (_h : i < ys.length), Rel σ I' w ys[i] (f i) ∧ ∀ h2 : i < xs.length, xs[i].isCell = true → ys[i].isCell = true := by
      intro xs ys h
      unfold immL at h
      split at h
      · obtain rfl := Option.some.inj h
        exact ⟨rfl, fun f hf i hi => ⟨hmono (hf i hi), fun _ h => h⟩⟩
      · exact immMs xs h
    have id_case : some x = some y → Rel σ I' w y v ∧ (x.isCell = true → y.isCell = true) := by
      intro h; obtain rfl := Option.some.inj h; exact ⟨hmono hr, fun h => h⟩
    simp only [immF] at h
    split at h
    · rename_i id off m e g
      replace h := obind_inv h; obtain ⟨o, ho, h⟩ := h
      obtain ⟨xs, mt, rfl⟩ : ∃ a b, o = AO.cells a b := by cases o <;> first | exact ⟨_, _, rfl⟩ | (simp at h)
      simp only at h
      replace h := guardO_inv h; obtain ⟨hfit, h⟩ := h
      replace h := obind_inv h; obtain ⟨l, hl, h⟩ := h
      obtain rfl := Option.some.inj h
      refine ⟨?_, fun _ => rfl⟩
      obtain ⟨e1, e2⟩ := immLs _ hl
      have hown := hi.own id _ ho
      have hlen : ((xs.drop off).take (m * e)).length = m * e := by simp; omega
      cases hr with
      | os _ _ _ _ _ blk base sz cap g1 g2 g3 =>
        have hrow := own_row hown g1
        have hget : ∀ i (_h : i < ((xs.drop off).take (m * e)).length), Rel σ I w ((xs.drop off).take (m * e))[i] ((w.cell? ⟨blk, base + off + i, none⟩).getD undef) ∧ w.cell? ⟨blk, base + off + i, none⟩ = some ((w.cell? ⟨blk, base + off + i, none⟩).getD undef) ∧ ((xs.drop off).take (m * e))[i].isCell = true := by
          intro i hi
          rw [hlen] at hi
          rw [getElem_take', getElem_drop']
          obtain ⟨v, hv, hc, hrel⟩ := hrow.get (off + i) (by omega)
          rw [← Nat.add_assoc] at hv
          rw [hv]; exact ⟨hrel, rfl, hc⟩
        have := e2 (fun i => (w.cell? ⟨blk, base + off + i, none⟩).getD undef) (fun i hi => (hget i hi).1)
        exact .sl m l blk (base + off) cap _ (hI2 id _ _ _ _ ho g1) g2 (fun i hi => (hget i (by rw [← e1]; exact hi)).2.1) (fun i hi => (this i hi).2 (by rw [← e1]; exact hi) (hget i (by rw [← e1]; exact hi)).2.2) (fun i hi => (this i hi).1)
      | osnil =>
        have : l = [] := List.eq_nil_of_length_eq_zero (by rw [e1]; simp)
        subst this; exact .slnil
      | oszero _ _ _ _ a =>
        have : l = [] := List.eq_nil_of_length_eq_zero (by rw [e1]; simp)
        subst this; exact .slzero a
    · rename_i id off
      replace h := obind_inv h; obtain ⟨o, ho, h⟩ := h
      obtain ⟨xs, mt, rfl⟩ : ∃ a b, o = AO.cells a b := by cases o <;> first | exact ⟨_, _, rfl⟩ | (simp at h)
      simp only at h
      replace h := obind_inv h; obtain ⟨l, hl, h⟩ := h
      obtain rfl := Option.some.inj h
      refine ⟨?_, fun _ => rfl⟩
      obtain ⟨e1, e2⟩ := immLs _ hl
      have hown := hi.own id _ ho
      obtain ⟨blk, base, sz, g1, rfl⟩ := op_inv hr
      have hrow := own_row hown g1
      have hget : ∀ i (_h : i < (xs.drop off).length), Rel σ I w (xs.drop off)[i] ((w.cell? ⟨blk, base + off + i, none⟩).getD undef) ∧ w.cell? ⟨blk, base + off + i, none⟩ = some ((w.cell? ⟨blk, base + off + i, none⟩).getD undef) ∧ (xs.drop off)[i].isCell = true := by
        intro i hi
        rw [getElem_drop']
        simp at hi
        obtain ⟨v, hv, hc, hrel⟩ := hrow.get (off + i) (by omega)
        rw [← Nat.add_assoc] at hv
        rw [hv]; exact ⟨hrel, rfl, hc⟩
      have := e2 (fun i => (w.cell? ⟨blk, base + off + i, none⟩).getD undef) (fun i hi => (hget i hi).1)
      exact .rp l blk (base + off) _ (hI2 id _ _ _ _ ho g1) (fun i hi => (hget i (by rw [← e1]; exact hi)).2.1) (fun i hi => (this i hi).2 (by rw [← e1]; exact hi) (hget i (by rw [← e1]; exact hi)).2.2) (fun i hi => (this i hi).1)
    · obtain rfl := Option.some.inj h
      cases hr; exact ⟨.slnil, fun _ => rfl⟩
    · rename_i xs
      replace h := obind_inv h; obtain ⟨l, hl, h⟩ := h
      obtain rfl := Option.some.inj h
      obtain ⟨e1, e2⟩ := immLs _ hl
      refine ⟨?_, fun h => h⟩
      cases hr with
      | agg _ vs h1 h2 h3 =>
        have := e2 (fun i => vs.getD i undef) h3
        exact .agg _ vs (by rw [h1, e1]) (fun i hi => (this i hi).2 (by rw [← e1]; exact hi) (h2 i (by rw [← e1]; exact hi))) (fun i hi => (this i hi).1)
    · rename_i xs
      replace h := obind_inv h; obtain ⟨l, hl, h⟩ := h
      obtain rfl := Option.some.inj h
      obtain ⟨e1, e2⟩ := immLs _ hl
      refine ⟨?_, fun h => h⟩
      cases hr with
      | tup _ vs h1 h3 =>
        have := e2 (fun i => vs.getD i undef) h3
        exact .tup _ vs (by rw [h1, e1]) (fun i hi => (this i hi).1)
    · rename_i f xs
      replace h := obind_inv h; obtain ⟨l, hl, h⟩ := h
      obtain rfl := Option.some.inj h
      obtain ⟨e1, e2⟩ := immLs _ hl
      refine ⟨?_, fun _ => rfl⟩
      cases hr with
      | fn _ _ vs h1 h3 =>
        have := e2 (fun i => vs.getD i undef) h3
        exact .fn _ _ vs (by rw [h1, e1]) (fun i hi => (this i hi).1)
    · cases h
    · exact id_case h


theorem borrowD_sound {Ib : Nat → Prop} (hi : Inv c σ I w hp un) (hIb : ∀ k, I k → Ib k) (hIb2 : ∀ id o blk base sz, hp id = some o → σ id = .at_ blk base sz → Ib blk) :
    ∀ (xs : List AV) {ys : List AV} (vs : Nat → Value), borrowD hp xs = some ys → (∀ i (_h : i < xs.length), Rel σ I w xs[i] (vs i)) → ys.length = xs.length ∧ ∀ i (_h : i < ys.length), Rel σ Ib w ys[i] (vs i)
  | [], ys, vs, h, _ => by obtain rfl := Option.some.inj h; exact ⟨rfl, fun i h => by simp at h⟩
  | x :: r, ys, vs, h, hr => by
    simp only [borrowD, immM] at h
    replace h := obind_inv h; obtain ⟨y, hy, h⟩ := h
    replace h := obind_inv h; obtain ⟨l, hl, h⟩ := h
    obtain rfl := Option.some.inj h
    have h0 := hr 0 (by simp)
    obtain ⟨e1, e2⟩ := borrowD_sound hi hIb hIb2 r (fun i => vs (i + 1)) hl (fun i hi => by have := hr (i + 1) (by simpa using hi); simpa using this)
    refine ⟨by simp [e1], fun i hi' => ?_⟩
    cases i with
    | zero => exact (imm_sound hi hIb hIb2 4 hy h0).1
    | succ k => exact e2 k (by simpa using hi')

theorem Inv.freeze' (h : Inv c σ I w hp un) {id : Nat} {xs : List AV} {mt : Bool} (ho : hp id = some (.cells xs mt)) :
    ∃ I', (∀ k, I k → I' k) ∧ Inv c σ I' w (upd hp id (.cells xs false)) un := by
  cases mt with
  | true => obtain ⟨I', a, _, b⟩ := h.freeze ho; exact ⟨I', a, b⟩
  | false =>
    refine ⟨I, fun _ h => h, ?_⟩
    have : upd hp id (.cells xs false) = hp := by
      funext k; rw [upd_apply]; split
      · rename_i e; rw [e, ho]
      · rfl
    rw [this]; exact h

theorem frzArg_sound {x : AV} {v : Value} {p : AV × H} (h : frzArg hp x = some p) (hi : Inv c σ I w hp un) (hr : Rel σ I w x v) :
    ∃ I', (∀ k, I k → I' k) ∧ Inv c σ I' w p.2 un ∧ Rel σ I' w p.1 v := by
  have key : ∀ id xs mt, hp id = some (.cells xs mt) → ∀ y, borrow1 hp x = some y → p = (y, upd hp id (.cells xs false)) → ((∃ off n e g, x = .os id off n e g) ∨ (∃ off, x = .op id off)) →
      ∃ I', (∀ k, I k → I' k) ∧ Inv c σ I' w p.2 un ∧ Rel σ I' w p.1 v := by
    intro id xs mt ho y hy hp' hx
    subst hp'
    obtain ⟨I', a1, a2⟩ := hi.freeze' ho
    refine ⟨I', a1, a2, ?_⟩
    have hpid : upd hp id (.cells xs false) id = some (.cells xs false) := by rw [upd_apply, if_pos rfl]
    have hy' : borrow1 (fun k => if k = id then some (.cells xs false) else none) x = some y := by
      rcases hx with ⟨off, n, e, g, rfl⟩ | ⟨off, rfl⟩
      · simp only [borrow1, ho, obind_some, if_pos] at hy ⊢; exact hy
      · simp only [borrow1, ho, obind_some, if_pos] at hy ⊢; exact hy
    have hsub : Inv c σ I' w (fun k => if k = id then some (.cells xs false) else none) un := a2.sub (fun k o hk => by
      split at hk
      · rename_i e; rw [upd_apply, if_pos e]; exact hk
      · cases hk)
    refine borrow_sound hsub (fun _ h => h) (fun id' o blk base sz e1 e2 => ?_) hy' (hr.mono (fun _ _ => rfl) a1 (fun _ _ => rfl))
    split at e1
    · rename_i e; subst e
      obtain rfl := Option.some.inj e1
      have := hsub.own id' (.cells xs false) (by simp only [if_pos])
      simp only [OwnRel, e2] at this
      exact this.2.2 trivial
    · cases e1
  unfold frzArg at h
  split at h
  · rename_i id off n e g
    replace h := obind_inv h; obtain ⟨o, ho, h⟩ := h
    obtain ⟨xs, mt, rfl⟩ : ∃ a b, o = AO.cells a b := by cases o <;> first | exact ⟨_, _, rfl⟩ | (simp at h)
    simp only at h
    replace h := guardO_inv h; obtain ⟨hfit, h⟩ := h
    obtain rfl := Option.some.inj h
    exact key id xs mt ho _ (by simp only [borrow1, ho, obind_some]; rw [guardO_true _ hfit]) rfl (.inl ⟨_, _, _, _, rfl⟩)
  · rename_i id off
    replace h := obind_inv h; obtain ⟨o, ho, h⟩ := h
    obtain ⟨xs, mt, rfl⟩ : ∃ a b, o = AO.cells a b := by cases o <;> first | exact ⟨_, _, rfl⟩ | (simp at h)
    simp only at h
    obtain rfl := Option.some.inj h
    exact key id xs mt ho _ (by simp only [borrow1, ho, obind_some]) rfl (.inr ⟨_, rfl⟩)
  · obtain rfl := Option.some.inj h
    cases hr; exact ⟨I, fun _ h => h, hi, .slnil⟩
  · obtain rfl := Option.some.inj h
    exact ⟨I, fun _ h => h, hi, hr⟩

theorem frzArgs_sound : ∀ (xs : List AV) {hp : H} {I : Nat → Prop} {p : List AV × H} (vs : Nat → Value), frzArgs hp xs = some p → Inv c σ I w hp un → (∀ i (_h : i < xs.length), Rel σ I w xs[i] (vs i)) →
    ∃ I', (∀ k, I k → I' k) ∧ Inv c σ I' w p.2 un ∧ p.1.length = xs.length ∧ ∀ i (_h : i < p.1.length), Rel σ I' w p.1[i] (vs i)
  | [], hp, I, p, vs, h, hi, _ => by obtain rfl := Option.some.inj h; exact ⟨I, fun _ h => h, hi, rfl, fun i h => by simp at h⟩
  | x :: r, hp, I, p, vs, h, hi, hr => by
    simp only [frzArgs] at h
    replace h := obind_inv h; obtain ⟨y, hy, h⟩ := h
    replace h := obind_inv h; obtain ⟨l, hl, h⟩ := h
    obtain rfl := Option.some.inj h
    obtain ⟨I1, a1, a2, a3⟩ := frzArg_sound hy hi (hr 0 (by simp))
    obtain ⟨I2, b1, b2, b3, b4⟩ := frzArgs_sound r (fun i => vs (i + 1)) hl a2 (fun i hi => by have := hr (i + 1) (by simpa using hi); simp only [List.getElem_cons_succ] at this; exact this.mono (fun _ _ => rfl) a1 (fun _ _ => rfl))
    refine ⟨I2, fun k hk => b1 k (a1 k hk), b2, by simp [b3], fun i hi' => ?_⟩
    cases i with
    | zero => exact a3.mono (fun _ _ => rfl) b1 (fun _ _ => rfl)
    | succ k => exact b4 k (by simpa using hi')

end
end Go.AX
