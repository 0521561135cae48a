/-
  AX, part G: plain operations, and those that read, say what the model's do.
-/
import Derived.Test.YtnnkmoaipcdhnaaDoorAxF
namespace Go.AX
open Go
section
variable {P : Program} {σ : Nat → Loc} {I : Nat → Prop} {w : World}

theorem b_inv {t : Bool} {v : Value} (h : Rel σ I w (.b t) v) : v = .bool t := by cases h; rfl
theorem s_inv {l : List (BitVec 8)} {v : Value} (h : Rel σ I w (.s l) v) : v = .string (encS l) := by cases h; rfl

theorem ix_run {x : AV} {v : Value} {n : Int} (h : ix x = some n) (hr : Rel σ I w x v) : ∃ k, (asIntOf v).run P w = .ok (k, n) w := by
  obtain ⟨k, rfl⟩ := ix_inv h hr; exact ⟨k, rfl⟩

inductive OptRel (σ : Nat → Loc) (I : Nat → Prop) (w : World) : Option AV → Option Value → Prop
  | none : OptRel σ I w .none .none
  | some {x : AV} {y : Value} : Rel σ I w x y → OptRel σ I w (.some x) (.some y)

theorem optRel_map {ρA : Operand → AV} {ρ : Operand → Value} (hρ : ∀ y, Rel σ I w (ρA y) (ρ y)) (l : Option Operand) : OptRel σ I w (l.map ρA) (l.map ρ) := by
  cases l with
  | none => exact .none
  | some x => exact .some (hρ x)

theorem bounds_run {vl vh : Option AV} {ul uh : Option Value} {isS : Bool} {len cap : Nat} {l h : Int} (hl : loIx vl = some l) (hh : hiIx vh len = some h)
    (rl : OptRel σ I w vl ul) (rh : OptRel σ I w vh uh)
    (h0 : 0 ≤ l) (h1 : l ≤ h) (h2 : h ≤ cap) :
    (Instr.sliceBounds isS len cap ul uh none).run P w = .ok (l.toNat, h.toNat, cap) w := by
  have e : (h.toNat : Int) = h := Int.toNat_of_nonneg (by omega)
  cases rl with
  | none =>
    simp only [loIx] at hl
    obtain rfl := Option.some.inj hl
    cases rh with
    | none =>
      simp only [hiIx] at hh
      obtain rfl := Option.some.inj hh
      rfl
    | some hr =>
      obtain ⟨k, rfl⟩ := ix_inv hh hr
      simp only [Instr.sliceBounds, Sem.run_bind, Sem.run_pure, Result.andThen_ok]
      rw [run_sliceBound w k h cap _ (by omega) h2]; rfl
  | some hr1 =>
    obtain ⟨k1, rfl⟩ := ix_inv hl hr1
    cases rh with
    | none =>
      simp only [hiIx] at hh
      obtain rfl := Option.some.inj hh
      simp only [Instr.sliceBounds, Sem.run_bind, Sem.run_pure, Result.andThen_ok, Option.isSome_none, Bool.false_eq_true, if_false]
      rw [run_sliceBound w k1 l len _ h0 h1]; simp only [Result.andThen_ok, Int.toNat_natCast]
    | some hr =>
      obtain ⟨k, rfl⟩ := ix_inv hh hr
      simp only [Instr.sliceBounds, Sem.run_bind, Sem.run_pure, Result.andThen_ok, Option.isSome_none, Bool.false_eq_true, if_false]
      rw [run_sliceBound w k h cap _ (by omega) h2, Result.andThen_ok, run_sliceBound w k1 l h.toNat _ h0 (by omega)]; rfl

theorem rel_sl_sub {xs : List AV} {n blk o cap l h z : Nat} {f : Nat → Value} (hb : I blk) (hc : ∀ i (_h : i < xs.length), w.cell? ⟨blk, o + i, none⟩ = some (f i))
    (h1 : ∀ i (_h : i < xs.length), xs[i].isCell = true) (h2 : ∀ i (_h : i < xs.length), Rel σ I w xs[i] (f i)) (hlh : l ≤ h) (hn : h ≤ n) (hcap : n ≤ cap) :
    Rel σ I w (.sl (h - l) ((xs.drop (l * z)).take ((h - l) * z))) (.slice (if cap = l then some ⟨blk, o, none⟩ else (some (⟨blk, o, none⟩ : Addr)).map (·.add (l * z))) (h - l) (cap - l)) := by
  by_cases e : cap = l
  · have e0 : h - l = 0 := by omega
    have e1 : cap - l = 0 := by omega
    rw [if_pos e, e0, e1]; simp only [Nat.zero_mul, List.take_zero]
    exact .slzero _
  · rw [if_neg e]
    simp only [Option.map_some, add_off]
    refine .sl _ _ blk (o + l * z) _ (fun i => f (l * z + i)) hb (by omega) (fun i hi => ?_) (fun i hi => ?_) (fun i hi => ?_)
    · simp at hi; rw [Nat.add_assoc]; exact hc _ (by omega)
    · rw [getElem_take', getElem_drop']; exact h1 _ _
    · rw [getElem_take', getElem_drop']; exact h2 _ _

theorem slice_sound {t : TypeId} {x y : AV} {v : Value} {vl vh : Option AV} {ul uh : Option Value} (h : sliceA P t x vl vh = some y) (hx : Rel σ I w x v)
    (rl : OptRel σ I w vl ul) (rh : OptRel σ I w vh uh) :
    ∃ u, (Instr.sliceAt t v ul uh none).run P w = .ok u w ∧ Rel σ I w y u := by
  unfold sliceA at h
  split at h
  · rename_i e hu
    obtain ⟨z, hz, h⟩ := obind_inv h
    have start : (Instr.sliceAt t v ul uh none).run P w = (Instr.slice t v ul uh none).run P w := by
      simp only [Instr.sliceAt, Sem.run_bind, run_underlying hu, Result.andThen_ok]
    split at h
    · rename_i n xs
      obtain ⟨l, hl, h⟩ := obind_inv h
      obtain ⟨hh, hhh, h⟩ := obind_inv h
      obtain ⟨⟨c1, c2, c3⟩, h⟩ := guardO_inv h
      obtain rfl := Option.some.inj h
      cases hx with
      | sl _ _ blk o cap f hb hle hc h1 h2 =>
        have r := bounds_run (P := P) (isS := true) hl hhh rl rh c1 c2 (cap := cap) (by omega)
        refine ⟨_, ?_, rel_sl_sub (z := z) hb hc h1 h2 (l := l.toNat) (h := hh.toNat) (by omega) (by omega) hle⟩
        rw [start]
        simp only [Instr.slice, Sem.run_bind, run_underlying hu, Result.andThen_ok, r, run_sizeOf' hz, Sem.run_pure]
      | slnil =>
        have r := bounds_run (P := P) (isS := true) hl hhh rl rh c1 c2 (cap := 0) (by omega)
        have e1 : hh.toNat = 0 := by omega
        have e2 : l.toNat = 0 := by omega
        refine ⟨.slice none 0 0, ?_, ?_⟩
        · rw [start]
          simp only [Instr.slice, Sem.run_bind, run_underlying hu, Result.andThen_ok, r, run_sizeOf' hz, Sem.run_pure, e1, e2]; rfl
        · rw [e1, e2]; simp only [Nat.sub_self, Nat.zero_mul, List.take_zero]; exact .slnil
      | slzero a =>
        have r := bounds_run (P := P) (isS := true) hl hhh rl rh c1 c2 (cap := 0) (by omega)
        have e1 : hh.toNat = 0 := by omega
        have e2 : l.toNat = 0 := by omega
        refine ⟨.slice (some a) 0 0, ?_, ?_⟩
        · rw [start]
          simp only [Instr.slice, Sem.run_bind, run_underlying hu, Result.andThen_ok, r, run_sizeOf' hz, Sem.run_pure, e1, e2]; rfl
        · rw [e1, e2]; simp only [Nat.sub_self, Nat.zero_mul, List.take_zero]; exact .slzero _
    · rename_i id off n e' g
      obtain ⟨l, hl, h⟩ := obind_inv h
      obtain ⟨hh, hhh, h⟩ := obind_inv h
      obtain ⟨⟨c0, c1, c2, c3⟩, h⟩ := guardO_inv h
      obtain rfl := Option.some.inj h
      cases hx with
      | os _ _ _ _ _ blk base sz cap g1 g2 g3 =>
        have r := bounds_run (P := P) (isS := true) hl hhh rl rh c1 c2 (cap := cap) (by omega)
        refine ⟨_, by rw [start]; simp only [Instr.slice, Sem.run_bind, run_underlying hu, Result.andThen_ok, r, run_sizeOf' hz, Sem.run_pure]; rfl, ?_⟩
        by_cases e : cap = l.toNat
        · have e0 : hh.toNat - l.toNat = 0 := by omega
          have e1 : cap - l.toNat = 0 := by omega
          rw [if_pos e, e0, e1]
          exact .oszero _ _ _ _ _ (by rw [g1]; simp)
        · rw [if_neg e]
          simp only [Option.map_some, add_off]
          rw [Nat.add_assoc]
          refine .os _ _ _ _ _ blk base sz (cap - l.toNat) g1 (by omega) (fun hg => ?_)
          replace g3 := g3 hg
          have h5 : l.toNat * z ≤ cap * z := Nat.mul_le_mul_right _ (by omega)
          rw [c0] at g3
          rw [Nat.sub_mul]; omega
      | osnil _ _ _ g1 =>
        have r := bounds_run (P := P) (isS := true) hl hhh rl rh c1 c2 (cap := 0) (by omega)
        have e1 : hh.toNat = 0 := by omega
        have e2 : l.toNat = 0 := by omega
        refine ⟨.slice none 0 0, ?_, ?_⟩
        · rw [start]
          simp only [Instr.slice, Sem.run_bind, run_underlying hu, Result.andThen_ok, r, run_sizeOf' hz, Sem.run_pure, e1, e2]; rfl
        · rw [e1, e2]; simp only [Nat.sub_self, Nat.zero_mul, Nat.add_zero]; exact .osnil _ _ _ g1
      | oszero _ _ _ _ a g1 =>
        have r := bounds_run (P := P) (isS := true) hl hhh rl rh c1 c2 (cap := 0) (by omega)
        have e1 : hh.toNat = 0 := by omega
        have e2 : l.toNat = 0 := by omega
        refine ⟨.slice (some a) 0 0, ?_, ?_⟩
        · rw [start]
          simp only [Instr.slice, Sem.run_bind, run_underlying hu, Result.andThen_ok, r, run_sizeOf' hz, Sem.run_pure, e1, e2]; rfl
        · rw [e1, e2]; exact .oszero _ _ _ _ _ g1
    · cases h
  · rename_i n e hu
    obtain ⟨z, hz, h⟩ := obind_inv h
    obtain ⟨l, hl, h⟩ := obind_inv h
    obtain ⟨hh, hhh, h⟩ := obind_inv h
    obtain ⟨⟨c1, c2, c3⟩, h⟩ := guardO_inv h
    have r := bounds_run (P := P) (isS := false) hl hhh rl rh c1 c2 (cap := n) (by omega)
    split at h
    · rename_i xs
      obtain rfl := Option.some.inj h
      obtain ⟨blk, o, rfl⟩ := rp_inv hx
      cases hx with
      | rp _ _ _ f hb hc h1 h2 =>
        have := rel_sl_sub (σ := σ) (I := I) (w := w) (z := z) hb hc h1 h2 (l := l.toNat) (h := hh.toNat) (n := n) (cap := n) (by omega) (by omega) (Nat.le_refl _)
        refine ⟨_, ?_, this⟩
        simp only [Instr.sliceAt, Instr.sureAddr, Sem.run_bind, run_underlying hu, Result.andThen_ok, Sem.run_pure, r, run_sizeOf' hz]
        split <;> rfl
    · rename_i id off
      obtain rfl := Option.some.inj h
      obtain ⟨blk, base, sz, g1, rfl⟩ := op_inv hx
      refine ⟨_, by simp only [Instr.sliceAt, Instr.sureAddr, Sem.run_bind, run_underlying hu, Result.andThen_ok, Sem.run_pure, r, run_sizeOf' hz]; rfl, ?_⟩
      by_cases e : n = l.toNat
      · have e0 : hh.toNat - l.toNat = 0 := by omega
        have e1 : n - l.toNat = 0 := by omega
        rw [if_pos e, e0, e1]
        exact .oszero _ _ _ _ _ (by rw [g1]; simp)
      · rw [if_neg e, add_off, Nat.add_assoc]
        exact .os _ _ _ _ _ blk base sz (n - l.toNat) g1 (by omega) (fun hg => by cases hg)
    · cases h
  · rename_i hu
    split at h
    · rename_i c
      obtain ⟨l, hl, h⟩ := obind_inv h
      obtain ⟨hh, hhh, h⟩ := obind_inv h
      obtain ⟨⟨c1, c2, c3⟩, h⟩ := guardO_inv h
      obtain rfl := Option.some.inj h
      obtain rfl := s_inv hx
      have r := bounds_run (P := P) (isS := false) hl hhh rl rh c1 c2 (cap := c.length) c3
      refine ⟨.string ((encS c).extract l.toNat hh.toNat), ?_, ?_⟩
      · simp only [Instr.sliceAt, Sem.run_bind, run_underlying hu, Result.andThen_ok, Instr.slice, Option.isSome_none, Bool.false_eq_true, if_false, encS_size, r, Sem.run_pure]
      · have : (encS c).extract l.toNat hh.toNat = encS ((c.drop l.toNat).take (hh.toNat - l.toNat)) := by
          apply ByteArray.ext
          rw [ByteArray.data_extract]
          apply Array.ext'
          simp [encS, List.map_drop, List.map_take]
        rw [this]; exact .s _
    · cases h
  · cases h

theorem min2_inv {x y z : AV} {u v : Value} (h : min2A x y = some z) (hx : Rel σ I w x u) (hy : Rel σ I w y v) :
    ∃ k m n, u = .int k m ∧ v = .int k n ∧ Rel σ I w z (.int k (if n < m then n else m)) := by
  unfold min2A at h
  split at h
  · cases hx; cases hy; obtain rfl := Option.some.inj h; exact ⟨_, _, _, rfl, rfl, .i _⟩
  · rename_i a b
    cases hx; cases hy; obtain rfl := Option.some.inj h; refine ⟨_, _, _, rfl, rfl, ?_⟩
    have := Rel.w8 (σ := σ) (I := I) (w := w) (if b < a then b else a)
    rw [apply_ite BitVec.toNat, apply_ite (Nat.cast (R := Int))] at this
    simpa only [BitVec.lt_def, gt_iff_lt, Int.ofNat_lt] using this
  · rename_i a b
    cases hx; cases hy; obtain rfl := Option.some.inj h; refine ⟨_, _, _, rfl, rfl, ?_⟩
    have := Rel.w16 (σ := σ) (I := I) (w := w) (if b < a then b else a)
    rw [apply_ite BitVec.toNat, apply_ite (Nat.cast (R := Int))] at this
    simpa only [BitVec.lt_def, gt_iff_lt, Int.ofNat_lt] using this
  · rename_i a b
    cases hx; cases hy; obtain rfl := Option.some.inj h; refine ⟨_, _, _, rfl, rfl, ?_⟩
    have := Rel.w32 (σ := σ) (I := I) (w := w) (if b < a then b else a)
    rw [apply_ite BitVec.toNat, apply_ite (Nat.cast (R := Int))] at this
    simpa only [BitVec.lt_def, gt_iff_lt, Int.ofNat_lt] using this
  · rename_i a b
    cases hx; cases hy; obtain rfl := Option.some.inj h; refine ⟨_, _, _, rfl, rfl, ?_⟩
    have := Rel.w64 (σ := σ) (I := I) (w := w) (if b < a then b else a)
    rw [apply_ite BitVec.toNat, apply_ite (Nat.cast (R := Int))] at this
    simpa only [BitVec.lt_def, gt_iff_lt, Int.ofNat_lt] using this
  · cases h

theorem max2_inv {x y z : AV} {u v : Value} (h : max2A x y = some z) (hx : Rel σ I w x u) (hy : Rel σ I w y v) :
    ∃ k m n, u = .int k m ∧ v = .int k n ∧ Rel σ I w z (.int k (if n > m then n else m)) := by
  unfold max2A at h
  split at h
  · cases hx; cases hy; obtain rfl := Option.some.inj h; exact ⟨_, _, _, rfl, rfl, .i _⟩
  · rename_i a b
    cases hx; cases hy; obtain rfl := Option.some.inj h; refine ⟨_, _, _, rfl, rfl, ?_⟩
    have := Rel.w8 (σ := σ) (I := I) (w := w) (if a < b then b else a)
    rw [apply_ite BitVec.toNat, apply_ite (Nat.cast (R := Int))] at this
    simpa only [BitVec.lt_def, gt_iff_lt, Int.ofNat_lt] using this
  · rename_i a b
    cases hx; cases hy; obtain rfl := Option.some.inj h; refine ⟨_, _, _, rfl, rfl, ?_⟩
    have := Rel.w16 (σ := σ) (I := I) (w := w) (if a < b then b else a)
    rw [apply_ite BitVec.toNat, apply_ite (Nat.cast (R := Int))] at this
    simpa only [BitVec.lt_def, gt_iff_lt, Int.ofNat_lt] using this
  · rename_i a b
    cases hx; cases hy; obtain rfl := Option.some.inj h; refine ⟨_, _, _, rfl, rfl, ?_⟩
    have := Rel.w32 (σ := σ) (I := I) (w := w) (if a < b then b else a)
    rw [apply_ite BitVec.toNat, apply_ite (Nat.cast (R := Int))] at this
    simpa only [BitVec.lt_def, gt_iff_lt, Int.ofNat_lt] using this
  · rename_i a b
    cases hx; cases hy; obtain rfl := Option.some.inj h; refine ⟨_, _, _, rfl, rfl, ?_⟩
    have := Rel.w64 (σ := σ) (I := I) (w := w) (if a < b then b else a)
    rw [apply_ite BitVec.toNat, apply_ite (Nat.cast (R := Int))] at this
    simpa only [BitVec.lt_def, gt_iff_lt, Int.ofNat_lt] using this
  · cases h

theorem pure_sound {o : Oper} {ρA : Operand → AV} {ρ : Operand → Value} {x : AV} (h : pureOp P o.op ρA = some x) (hρ : ∀ y, Rel σ I w (ρA y) (ρ y)) :
    ∃ v, (execOp ρ o).run P w = .ok (.value v) w ∧ Rel σ I w x v := by
  obtain ⟨dst, op, type, pos, after, guard⟩ := o
  simp only at h
  unfold pureOp at h
  split at h
  case h_1 y => obtain rfl := Option.some.inj h; exact ⟨_, rfl, hρ _⟩
  case h_2 y => obtain rfl := Option.some.inj h; exact ⟨_, rfl, hρ _⟩
  case h_3 c a b =>
    split at h
    · rename_i t ht
      obtain rfl := Option.some.inj h
      have hc := hρ c; rw [ht] at hc
      have e : ρ c = .bool t := b_inv hc
      refine ⟨if t then ρ a else ρ b, ?_, ?_⟩
      · simp only [execOp, e, asBool, Sem.run_bind, Sem.run_pure, Result.andThen_ok]
      · cases t
        · exact hρ b
        · exact hρ a
    · cases h
  case h_4 y =>
    have hy := hρ y
    split at h
    · rename_i id off e
      obtain rfl := Option.some.inj h
      rw [e] at hy
      obtain ⟨blk, base, sz, _, hv⟩ := op_inv hy
      exact ⟨ρ y, by simp only [execOp, hv, Sem.run_pure], hy⟩
    · rename_i xs e
      obtain rfl := Option.some.inj h
      rw [e] at hy
      obtain ⟨blk, o, hv⟩ := rp_inv hy
      exact ⟨ρ y, by simp only [execOp, hv, Sem.run_pure], hy⟩
    · cases h
  case h_5 op t a b u =>
    obtain ⟨v, hv, hr⟩ := binT_sound (P := P) a b h (hρ a) (hρ b)
    exact ⟨v, runV hv, hr⟩
  case h_6 op u a =>
    obtain ⟨v, hv, hr⟩ := un_sound (P := P) h (hρ a)
    exact ⟨v, runV hv, hr⟩
  case h_7 src dst a =>
    obtain ⟨d, hd, h⟩ := obind_inv h
    split at h
    · rename_i k hk
      obtain ⟨k', m, v, hv, hrun, hr⟩ := toK_sound (P := P) h (hρ a)
      refine ⟨v, runV ?_, hr⟩
      rw [hv]
      simp only [convert, Sem.run_bind, run_underlying hd, run_underlying hk, Result.andThen_ok]
      cases d <;> exact hrun
    · rename_i hk
      split at h
      · rename_i l e
        obtain rfl := Option.some.inj h
        have ha := hρ a; rw [e] at ha
        have ev : ρ a = .string (encS l) := s_inv ha
        refine ⟨ρ a, runV ?_, ha⟩
        rw [ev]
        simp only [convert, Sem.run_bind, run_underlying hd, run_underlying hk, Result.andThen_ok]
        cases d <;> rfl
      · cases h
    · cases h
  case h_8 t a =>
    split at h
    · rename_i n e hu
      obtain ⟨hn, h⟩ := guardO_inv h
      have ha := hρ a
      split at h
      · rename_i m xs eq
        obtain ⟨hm, h⟩ := guardO_inv h
        obtain rfl := Option.some.inj h
        rw [eq] at ha
        cases hv : ρ a with
        | slice a0 len cap =>
          rw [hv] at ha
          cases ha with
          | sl _ _ blk o _ f hI hle hc h1 h2 =>
            refine ⟨_, runV ?_, .rp xs blk o f hI hc h1 h2⟩
            simp only [hv, Instr.arrayAt, Sem.run_bind, run_underlying hu, Result.andThen_ok]
            rw [Sem.run_ite, if_neg (by omega)]; rfl
          | slnil => omega
          | slzero => omega
        | _ => rw [hv] at ha; cases ha
      · rename_i id off m e' g eq
        obtain ⟨hm, h⟩ := guardO_inv h
        obtain rfl := Option.some.inj h
        rw [eq] at ha
        cases hv : ρ a with
        | slice a0 len cap =>
          rw [hv] at ha
          cases ha with
          | os _ _ _ _ _ blk base sz _ h1 h2 h3 =>
            refine ⟨_, runV ?_, .op id off blk base sz h1⟩
            simp only [hv, Instr.arrayAt, Sem.run_bind, run_underlying hu, Result.andThen_ok]
            rw [Sem.run_ite, if_neg (by omega)]; rfl
          | osnil => omega
          | oszero => omega
        | _ => rw [hv] at ha; cases ha
      · cases h
    · cases h
  case h_9 s a f =>
    split at h
    · rename_i fs hu
      obtain ⟨fd, hfd, h⟩ := obind_inv h
      obtain ⟨n, hn, h⟩ := obind_inv h
      obtain ⟨hpos, h⟩ := guardO_inv h
      have ha := hρ a
      have hne : ¬ n = 0 := by omega
      split at h
      · rename_i id off eq
        obtain rfl := Option.some.inj h
        rw [eq] at ha
        obtain ⟨blk, base, sz, hl, hv⟩ := op_inv ha
        refine ⟨_, runV ?_, .op id (off + fd.offset) blk base sz hl⟩
        simp only [hv, Instr.fieldAt, Instr.sureAddr, fieldPlace, Sem.run_bind, run_underlying hu, hfd, Result.andThen_ok, Sem.run_pure, run_sizeOf' hn, Sem.run_ite, if_neg hne, add_off, Nat.add_assoc]
      · rename_i xs eq
        obtain rfl := Option.some.inj h
        rw [eq] at ha
        obtain ⟨blk, o, hv⟩ := rp_inv ha
        rw [hv] at ha
        refine ⟨_, runV ?_, rel_rp_drop (k := fd.offset) ha⟩
        simp only [hv, Instr.fieldAt, Instr.sureAddr, fieldPlace, Sem.run_bind, run_underlying hu, hfd, Result.andThen_ok, Sem.run_pure, run_sizeOf' hn, Sem.run_ite, if_neg hne, add_off]
      · cases h
    · cases h
  case h_10 s a f =>
    split at h
    · rename_i fs hu
      obtain ⟨fd, hfd, h⟩ := obind_inv h
      have ha := hρ a
      split at h
      · rename_i cs eq
        rw [eq] at ha
        cases hv : ρ a with
        | agg vs =>
          rw [hv] at ha
          obtain ⟨v, hrun, hr⟩ := ldV_part h ha
          refine ⟨v, runV ?_, hr⟩
          simp only [hv, Instr.field, asAgg, Sem.run_bind, run_underlying hu, hfd, Result.andThen_ok, Sem.run_pure, hrun]
        | _ => rw [hv] at ha; cases ha
      · cases h
    · cases h
  case h_11 t a j =>
    obtain ⟨jn, hj, h⟩ := obind_inv h
    obtain ⟨k, hrj⟩ := ix_run (P := P) hj (hρ j)
    have ha := hρ a
    split at h
    · rename_i e hu
      obtain ⟨z, hz, h⟩ := obind_inv h
      split at h
      · rename_i n xs eq
        obtain ⟨hb, h⟩ := guardO_inv h
        obtain rfl := Option.some.inj h
        rw [eq] at ha
        cases hv : ρ a with
        | slice a0 len cap =>
          rw [hv] at ha
          cases ha with
          | sl _ _ blk o _ f hI hle hc h1 h2 =>
            refine ⟨_, runV ?_, rel_rp_drop (.rp xs blk o f hI hc h1 h2)⟩
            simp only [hv, Instr.indexAt, Sem.run_bind, hrj, Result.andThen_ok, run_underlying hu, Sem.run_pure]
            rw [Sem.run_ite, if_pos hb]
            simp only [Sem.run_bind, run_sizeOf' hz, Result.andThen_ok, Sem.run_pure, add_off]
          | slnil => omega
          | slzero => omega
        | _ => rw [hv] at ha; cases ha
      · rename_i id off n e' g eq
        obtain ⟨⟨he, hb⟩, h⟩ := guardO_inv h
        obtain rfl := Option.some.inj h
        rw [eq] at ha
        cases hv : ρ a with
        | slice a0 len cap =>
          rw [hv] at ha
          cases ha with
          | os _ _ _ _ _ blk base sz _ h1 h2 h3 =>
            refine ⟨_, runV ?_, .op id (off + jn.toNat * z) blk base sz h1⟩
            simp only [hv, Instr.indexAt, Sem.run_bind, hrj, Result.andThen_ok, run_underlying hu, Sem.run_pure]
            rw [Sem.run_ite, if_pos hb]
            simp only [Sem.run_bind, run_sizeOf' hz, Result.andThen_ok, Sem.run_pure, add_off, Nat.add_assoc]
          | osnil => omega
          | oszero => omega
        | _ => rw [hv] at ha; cases ha
      · cases h
    · rename_i n e hu
      obtain ⟨z, hz, h⟩ := obind_inv h
      obtain ⟨hb, h⟩ := guardO_inv h
      split at h
      · rename_i xs eq
        obtain rfl := Option.some.inj h
        rw [eq] at ha
        obtain ⟨blk, o, hv⟩ := rp_inv ha
        rw [hv] at ha
        refine ⟨_, runV ?_, rel_rp_drop ha⟩
        simp only [hv, Instr.indexAt, Instr.sureAddr, Sem.run_bind, hrj, Result.andThen_ok, run_underlying hu, Sem.run_pure]
        rw [Sem.run_ite, if_pos hb]
        simp only [Sem.run_bind, run_sizeOf' hz, Result.andThen_ok, Sem.run_pure, add_off]
      · rename_i id off eq
        obtain rfl := Option.some.inj h
        rw [eq] at ha
        obtain ⟨blk, base, sz, hl, hv⟩ := op_inv ha
        refine ⟨_, runV ?_, .op id (off + jn.toNat * z) blk base sz hl⟩
        simp only [hv, Instr.indexAt, Instr.sureAddr, Sem.run_bind, hrj, Result.andThen_ok, run_underlying hu, Sem.run_pure]
        rw [Sem.run_ite, if_pos hb]
        simp only [Sem.run_bind, run_sizeOf' hz, Result.andThen_ok, Sem.run_pure, add_off, Nat.add_assoc]
      · cases h
    · cases h
  case h_12 t a j =>
    obtain ⟨jn, hj, h⟩ := obind_inv h
    obtain ⟨k, hrj⟩ := ix_run (P := P) hj (hρ j)
    have ha := hρ a
    split at h
    · rename_i n e hu
      obtain ⟨z, hz, h⟩ := obind_inv h
      obtain ⟨hb, h⟩ := guardO_inv h
      split at h
      · rename_i cs eq
        rw [eq] at ha
        cases hv : ρ a with
        | agg vs =>
          rw [hv] at ha
          obtain ⟨v, hrun, hr⟩ := ldV_part h ha
          refine ⟨v, runV ?_, hr⟩
          simp only [hv, Instr.index, Sem.run_bind, hrj, Result.andThen_ok, run_underlying hu]
          rw [Sem.run_ite, if_pos hb]
          simp only [Sem.run_bind, run_sizeOf' hz, Result.andThen_ok, hrun]
        | _ => rw [hv] at ha; cases ha
      · cases h
    · rename_i hu
      split at h
      · rename_i l eq
        obtain ⟨hb, h⟩ := guardO_inv h
        obtain ⟨c, hc, h⟩ := obind_inv h
        obtain rfl := Option.some.inj h
        rw [eq] at ha
        have hv : ρ a = .string (encS l) := s_inv ha
        refine ⟨_, runV ?_, .w8 c⟩
        have hget : (encS l)[jn.toNat]? = some (UInt8.ofBitVec c) := by
          show (if h : jn.toNat < (encS l).size then some ((encS l)[jn.toNat]) else none) = _
          obtain ⟨hlt, hcc⟩ := List.getElem?_eq_some_iff.1 hc
          rw [dif_pos (by rw [encS_size]; exact hlt)]
          congr 1
          show (encS l).data[jn.toNat]'_ = _
          simp only [encS, List.getElem_toArray, List.getElem_map, hcc]
        simp only [hv, Instr.index, Sem.run_bind, hrj, Result.andThen_ok, run_underlying hu, if_pos hb, hget]
        rfl
      · cases h
    · cases h
  case h_13 t parts =>
    obtain ⟨zs, hzs, h⟩ := obind_inv h
    obtain ⟨z, hz, _, he, h1⟩ := run_zeroValue' hzs w
    have hzc : RelCells σ I w zs z.cells := relCells_zero he h1
    split at h
    · rename_i fs hu
      obtain ⟨cs, hcs, h⟩ := obind_inv h
      obtain ⟨hall, h⟩ := guardO_inv h
      obtain rfl := Option.some.inj h
      have hmap : (fs.mapM (fun f => do pure (f.offset, ← sizeOf f.type) : Field → Sem (Nat × Nat))).run P w = .ok (fs.map fun f => (f.offset, (szOf P f.type).getD 0)) w := by
        rw [Array.mapM_eq_mapM_toList]
        have hl : ∀ (l : List Field), (∀ f ∈ l, (szOf P f.type).isSome = true) → (l.mapM (fun f => do pure (f.offset, ← sizeOf f.type) : Field → Sem (Nat × Nat))).run P w = .ok (l.map fun f => (f.offset, (szOf P f.type).getD 0)) w := by
          intro l
          induction l with
          | nil => intro _; rfl
          | cons f r ih =>
            intro hr
            obtain ⟨n, hn⟩ := Option.isSome_iff_exists.1 (hr f (by simp))
            rw [List.mapM_cons]
            simp only [Sem.run_bind, run_sizeOf' hn, Result.andThen_ok, Sem.run_pure, ih (fun g hg => hr g (by simp [hg])), hn, List.map_cons, Option.getD_some]
        rw [Sem.run_map, hl fs.toList (fun f hf => List.all_eq_true.1 hall f hf)]
        simp only [Result.andThen_ok, ← Array.toList_map, Array.toArray_toList]
      have hplace : ∀ (k : Nat) (o : Nat × Nat), (obind fs[k]? fun fd => obind (szOf P fd.type) fun n => some (fd.offset, n)) = some o → (fs.map fun f => (f.offset, (szOf P f.type).getD 0))[k]? = some o := by
        intro k o hk
        obtain ⟨fd, hfd, hk⟩ := obind_inv hk
        obtain ⟨n, hn, hk⟩ := obind_inv hk
        rw [Array.getElem?_map, hfd]
        simp [hn, Option.some.inj hk]
      obtain ⟨us, hus, hrel⟩ := fill_sound hplace _ (parts.map fun (i, x) => (i, ρ x)).toList _ _ _ (by simp) (parts_rel hρ) hzc hcs
      refine ⟨_, runV ?_, hrel.agg⟩
      simp only [Instr.build, Sem.run_bind, hz, Result.andThen_ok, run_underlying hu, hmap, hus, Sem.run_pure]
    · rename_i n e hu
      obtain ⟨z1, hz1, h⟩ := obind_inv h
      have fin : ∀ cs, (∃ us, Instr.fill (fun i => some (i * z1, z1)) z.cells (parts.map fun (i, x) => (i, ρ x)).toList = some us ∧ RelCells σ I w cs us) → x = .agg cs →
          ∃ v, (execOp ρ { dst := dst, op := .build t parts, type := type, pos := pos, after := after, guard := guard }).run P w = .ok (.value v) w ∧ Rel σ I w x v := by
        rintro cs ⟨us, hus, hrel⟩ rfl
        refine ⟨_, runV ?_, hrel.agg⟩
        simp only [Instr.build, Sem.run_bind, hz, Result.andThen_ok, run_underlying hu, run_sizeOf' hz1, hus, Sem.run_pure]
      split at h
      · rename_i cs hcs
        obtain rfl := Option.some.inj h
        split at hcs
        · rename_i hc
          refine fin cs ?_ rfl
          obtain ⟨us, hus, hrel⟩ := seqA_sound hc.1 (placeM := fun i => some (i * z1, z1)) (fun k => rfl) _ (parts.map fun (i, x) => (i, ρ x)).toList 0 cs [] z.cells (by simp) (parts_rel hρ) ⟨zs, by simpa using hzc, by simp [hc.2]⟩ rfl hcs
          exact ⟨us, hus, by simpa using hrel⟩
        · cases hcs
      · obtain ⟨cs, hcs, h⟩ := obind_inv h
        obtain ⟨_, h⟩ := guardO_inv h
        obtain rfl := Option.some.inj h
        refine fin cs ?_ rfl
        exact fill_sound (placeM := fun i => some (i * z1, z1)) (fun k o hk => hk) _ (parts.map fun (i, x) => (i, ρ x)).toList _ _ _ (by simp) (parts_rel hρ) hzc hcs
    · cases h
  case h_14 f first captured =>
    obtain ⟨h0, h⟩ := guardO_inv h
    obtain rfl := Option.some.inj h
    have e0 : first = #[] := Array.eq_empty_of_size_eq_zero h0
    subst e0
    have hm : captured.map ρ = (captured.toList.map ρ).toArray := by rw [← Array.toList_map, Array.toArray_toList]
    refine ⟨.func (.func f) #[] (captured.map ρ), runV (by simp [Instr.makeFunc]), ?_⟩
    rw [hm]
    exact .fn f _ _ (by simp) (map_rel hρ)
  case h_15 t k =>
    split at h
    · rename_i xs eq
      have ha := hρ t
      rw [eq] at ha
      cases hv : ρ t with
      | tuple vs =>
        rw [hv] at ha
        cases ha with
        | tup _ _ h1 h2 =>
          obtain ⟨hlt, rfl⟩ := List.getElem?_eq_some_iff.1 h
          have hg : vs[k]? = some (vs.getD k undef) := by rw [Array.getD_eq_getD_getElem?, Array.getElem?_eq_getElem (by omega)]; rfl
          refine ⟨_, runV ?_, h2 k hlt⟩
          simp only [hv, Instr.extract, hg, Sem.run_pure]
      | _ => rw [hv] at ha; cases ha
    · cases h
  case h_16 t y lo hi =>
    obtain ⟨u, hrun, hr⟩ := slice_sound (P := P) (ul := lo.map ρ) (uh := hi.map ρ) h (hρ y)
      (optRel_map hρ lo) (optRel_map hρ hi)
    exact ⟨u, runV hrun, hr⟩
  case h_17 c =>
    unfold callLen at h
    obtain ⟨callee, args, argTypes⟩ := c
    simp only at h
    split at h
    · rename_i y t ts e1 e2
      have ea : args = #[y] := by rw [← Array.toArray_toList (xs := args), e1]
      have et : argTypes[0]? = some t := by rw [← Array.getElem?_toList, e2]; rfl
      subst ea
      have hy := hρ y
      have start : ∀ v, (Builtin.len_ argTypes type #[ρ y]).run P w = .ok v w →
          (execOp ρ { dst := dst, op := .call { callee := .builtin .len, args := #[y], argTypes := argTypes }, type := type, pos := pos, after := after, guard := guard }).run P w = .ok (.value v) w := by
        intro v hv
        simp only [execOp, resolve, invoke, builtin, Sem.run_bind, Sem.run_pure, Result.andThen_ok, List.map_toArray, List.map_cons, List.map_nil, hv]
      unfold lenA at h
      split at h
      · rename_i e hu
        have fin : ∀ n cap (a : Option Addr), ρ y = .slice a n cap → x = .i n → ∃ v, (execOp ρ { dst := dst, op := .call { callee := .builtin .len, args := #[y], argTypes := argTypes }, type := type, pos := pos, after := after, guard := guard }).run P w = .ok (.value v) w ∧ Rel σ I w x v := by
          rintro n cap a hv rfl
          refine ⟨_, start _ ?_, .i n⟩
          simp only [Builtin.len_, et, List.getElem?_toArray, List.getElem?_cons_zero, hv, Sem.run_bind, run_underlying hu, Result.andThen_ok, Sem.run_pure, goInt]
        split at h
        · rename_i n xs eq
          rw [eq] at hy
          obtain rfl := Option.some.inj h
          cases hv : ρ y with
          | slice a len cap =>
            rw [hv] at hy
            have : len = n := by cases hy <;> rfl
            exact fin n cap a (by rw [hv, this]) rfl
          | _ => rw [hv] at hy; cases hy
        · rename_i id off n e' g eq
          rw [eq] at hy
          obtain rfl := Option.some.inj h
          cases hv : ρ y with
          | slice a len cap =>
            rw [hv] at hy
            have : len = n := by cases hy <;> rfl
            exact fin n cap a (by rw [hv, this]) rfl
          | _ => rw [hv] at hy; cases hy
        · rename_i eq
          rw [eq] at hy
          obtain rfl := Option.some.inj h
          have hv : ρ y = .slice none 0 0 := by generalize ρ y = u at hy; cases hy; rfl
          exact fin 0 0 none hv rfl
        · cases h
      · rename_i hu
        split at h
        · rename_i l eq
          rw [eq] at hy
          obtain rfl := Option.some.inj h
          refine ⟨_, start _ ?_, .i _⟩
          simp only [Builtin.len_, et, List.getElem?_toArray, List.getElem?_cons_zero, s_inv hy, Sem.run_bind, run_underlying hu, Result.andThen_ok, Sem.run_pure, goInt, encS_size]
        · cases h
      · rename_i n e hu
        obtain rfl := Option.some.inj h
        refine ⟨_, start _ ?_, .i _⟩
        simp only [Builtin.len_, et, List.getElem?_toArray, List.getElem?_cons_zero, Sem.run_bind, run_underlying hu, Result.andThen_ok, Sem.run_pure, goInt]
      · cases h
    · rename_i a b e1
      have ea : args = #[a, b] := by rw [← Array.toArray_toList (xs := args), e1]
      subst ea
      obtain ⟨k, m, n, h1, h2, hr⟩ := min2_inv h (hρ a) (hρ b)
      refine ⟨_, ?_, hr⟩
      simp only [execOp, resolve, invoke, builtin, Sem.run_bind, Sem.run_pure, Result.andThen_ok, List.map_toArray, List.map_cons, List.map_nil, h1, h2]
      rw [run_min_int2]; rfl
    · rename_i a b e1
      have ea : args = #[a, b] := by rw [← Array.toArray_toList (xs := args), e1]
      subst ea
      obtain ⟨k, m, n, h1, h2, hr⟩ := max2_inv h (hρ a) (hρ b)
      refine ⟨_, ?_, hr⟩
      simp only [execOp, resolve, invoke, builtin, Sem.run_bind, Sem.run_pure, Result.andThen_ok, List.map_toArray, List.map_cons, List.map_nil, h1, h2]
      rw [run_max_int2]; rfl
    · cases h
  case h_18 => cases h
end
end Go.AX
