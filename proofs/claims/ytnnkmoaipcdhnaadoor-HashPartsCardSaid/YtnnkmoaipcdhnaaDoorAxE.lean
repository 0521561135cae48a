/-
  AX, part E: operations on abstract values say what the model's do: those that write nothing.
-/
import Derived.Test.YtnnkmoaipcdhnaaDoorAxD
import Derived.ChangeKeysEq
namespace Go.AX
open Go
section
variable {P : Program} {σ : Nat → Loc} {I : Nat → Prop} {w : World}

theorem run_typeInfo' {t : TypeId} {i : TypeInfo} (h : P.info? t = some i) (w : World) : (typeInfo t).run P w = .ok i w := by simp [typeInfo, h]
theorem szOf_inv {t : TypeId} {n : Nat} (h : szOf P t = some n) : ∃ i, P.info? t = some i ∧ i.size = n := by
  unfold szOf at h; cases hi : P.info? t with
  | none => simp [hi] at h
  | some i => exact ⟨i, rfl, by simpa [hi] using h⟩
theorem byOf_inv {t : TypeId} {n : Nat} (h : byOf P t = some n) : ∃ i, P.info? t = some i ∧ i.bytes = n := by
  unfold byOf at h; cases hi : P.info? t with
  | none => simp [hi] at h
  | some i => exact ⟨i, rfl, by simpa [hi] using h⟩
theorem run_sizeOf' {t : TypeId} {n : Nat} (h : szOf P t = some n) (w : World) : (sizeOf t).run P w = .ok n w := by
  obtain ⟨i, hi, hn⟩ := szOf_inv h
  simp [sizeOf, run_typeInfo' hi, hn]
theorem run_isAgg' {t : TypeId} {g : Bool} (h : isAggT P t = some g) (w : World) : (isAgg t).run P w = .ok g w := by
  unfold isAggT at h
  cases hu : P.underlying t with
  | none => simp [hu] at h
  | some d =>
    simp only [hu, Option.map_some, Option.some.injEq] at h
    simp only [isAgg, Sem.run_bind, run_underlying hu, Result.andThen_ok]
    cases d <;> simp_all
theorem run_zeroValue' {t : TypeId} {zs : List AV} (h : zcells P t = some zs) (w : World) :
    ∃ z, (zeroValue t).run P w = .ok z w ∧ (P.info? t).bind (·.zero) = some z ∧ zs = z.cells.toList.map ofV1 ∧ ∀ x ∈ z.cells.toList, x.oneCell' = true := by
  unfold zcells at h
  cases hi : P.info? t with
  | none => simp [hi] at h
  | some i =>
    cases hz : i.zero with
    | none => simp [hi, hz] at h
    | some z =>
      simp only [hi, Option.bind_some, hz] at h
      split at h
      · rename_i hall
        refine ⟨z, by simp [zeroValue, run_typeInfo' hi, hz], by simp [hz], (Option.some.inj h).symm, fun x hx => List.all_eq_true.1 hall x hx⟩
      · cases h

theorem add_off (b o k : Nat) : (⟨b, o, none⟩ : Addr).add k = ⟨b, o + k, none⟩ := by
  unfold Addr.add; split
  · rename_i h; subst h; rfl
  · rfl

theorem rel_agg_sub {xs : List AV} {vs : Array Value} (h : Rel σ I w (.agg xs) (.agg vs)) : vs.size = xs.length ∧ (∀ i (h : i < xs.length), xs[i].isCell = true) ∧ ∀ i (h : i < xs.length), Rel σ I w xs[i] (vs.getD i undef) := by
  cases h with | agg _ _ a b c => exact ⟨a, b, c⟩

theorem getD_list {vs : List Value} {i : Nat} {d : Value} : vs.toArray.getD i d = vs.getD i d := by
  rw [Array.getD_eq_getD_getElem?, List.getD_eq_getElem?_getD]; simp

/-- Cells of a value that is stored. -/
theorem cellsV_inv {x : AV} {cs : List AV} {v : Value} (h : cellsV x = some cs) (hr : Rel σ I w x v) :
    v.cells.size = cs.length ∧ (∀ i (h : i < cs.length), cs[i].isCell = true) ∧ (∀ i (h : i < cs.length), Rel σ I w cs[i] (v.cells.getD i undef)) := by
  have one : ∀ (y : AV) (u : Value), Rel σ I w y u → y.isCell = true → u.cells = #[u] →
      u.cells.size = [y].length ∧ (∀ i (h : i < [y].length), [y][i].isCell = true) ∧ (∀ i (h : i < [y].length), Rel σ I w [y][i] (u.cells.getD i undef)) := by
    intro y u hr hc hu
    refine ⟨by simp [hu], fun i hi => ?_, fun i hi => ?_⟩
    · simp only [List.length_singleton] at hi; obtain rfl : i = 0 := by omega
      exact hc
    · simp only [List.length_singleton] at hi; obtain rfl : i = 0 := by omega
      rw [hu]; exact hr
  cases x with
  | agg xs =>
    obtain rfl := Option.some.inj h
    cases hr with | agg _ vs a b c => exact ⟨a, b, c⟩
  | tup => cases h
  | junk => cases h
  | v x =>
    simp only [cellsV] at h
    split at h
    · rename_i hc
      obtain rfl := Option.some.inj h
      cases hr
      refine one _ _ (.v _) hc ?_
      cases v <;> first | rfl | (simp [Value.oneCell'] at hc)
    · cases h
  | w8 => obtain rfl := Option.some.inj h; cases hr; exact one _ _ (.w8 _) rfl rfl
  | w16 => obtain rfl := Option.some.inj h; cases hr; exact one _ _ (.w16 _) rfl rfl
  | w32 => obtain rfl := Option.some.inj h; cases hr; exact one _ _ (.w32 _) rfl rfl
  | w64 => obtain rfl := Option.some.inj h; cases hr; exact one _ _ (.w64 _) rfl rfl
  | i => obtain rfl := Option.some.inj h; cases hr; exact one _ _ (.i _) rfl rfl
  | b => obtain rfl := Option.some.inj h; cases hr; exact one _ _ (.b _) rfl rfl
  | s => obtain rfl := Option.some.inj h; cases hr; exact one _ _ (.s _) rfl rfl
  | sl => obtain rfl := Option.some.inj h; refine one _ _ hr rfl ?_; cases hr <;> rfl
  | rp => obtain rfl := Option.some.inj h; refine one _ _ hr rfl ?_; cases hr <;> rfl
  | os => obtain rfl := Option.some.inj h; refine one _ _ hr rfl ?_; cases hr <;> rfl
  | op => obtain rfl := Option.some.inj h; refine one _ _ hr rfl ?_; cases hr <;> rfl
  | mp => obtain rfl := Option.some.inj h; refine one _ _ hr rfl ?_; cases hr <;> rfl
  | fn => obtain rfl := Option.some.inj h; refine one _ _ hr rfl ?_; cases hr <;> rfl

theorem getElem_take' {xs : List AV} {n i : Nat} (h : i < (xs.take n).length) : (xs.take n)[i] = xs[i]'(by simp at h; omega) := by simp
theorem getElem_drop' {xs : List AV} {n i : Nat} (h : i < (xs.drop n).length) : (xs.drop n)[i] = xs[n + i]'(by simp at h; omega) := by simp

/-- A variable read out of cells that hold what is known. -/
theorem ldV_load {t : TypeId} {ys : List AV} {x : AV} {blk o : Nat} (h : ldV P t ys = some x)
    (hc : ∀ i (h : i < ys.length), ∃ v, w.cell? ⟨blk, o + i, none⟩ = some v ∧ ys[i].isCell = true ∧ Rel σ I w ys[i] v) :
    ∃ v, (loadVar t ⟨blk, o, none⟩).run P w = .ok v w ∧ Rel σ I w x v := by
  unfold ldV at h
  obtain ⟨g, hg, h⟩ := obind_inv h
  simp only [loadVar, Sem.run_bind, run_isAgg' hg, Result.andThen_ok]
  split at h
  · rename_i hgt
    obtain ⟨n, hn, h⟩ := obind_inv h
    obtain ⟨hle, h⟩ := guardO_inv h
    obtain rfl := Option.some.inj h
    simp only [hgt, if_true, Sem.run_bind, run_sizeOf' hn, Result.andThen_ok]
    have hl := run_loadCells (P := P) w ⟨blk, o, none⟩ n (fun j => (w.cell? ⟨blk, o + j, none⟩).getD undef) (fun j hj => by
      obtain ⟨v, hv, _⟩ := hc j (by omega)
      rw [add_off, hv]; simp)
    rw [hl]
    simp only [Result.andThen_ok, Sem.run_pure]
    refine ⟨_, rfl, .agg _ _ (by simp; omega) (fun i hi => ?_) (fun i hi => ?_)⟩
    · rw [getElem_take' hi]
      simp at hi
      obtain ⟨v, _, hcell, _⟩ := hc i (by omega)
      exact hcell
    · have hi' := hi
      rw [getElem_take' hi]
      simp at hi'
      obtain ⟨v, hv, _, hr⟩ := hc i (by omega)
      have : (List.map (fun j => (w.cell? ⟨blk, o + j, none⟩).getD undef) (List.range n)).toArray.getD i undef = v := by
        rw [getD_list, List.getD_eq_getElem?_getD, List.getElem?_map, List.getElem?_range (by omega)]
        simp [hv]
      rw [this]; exact hr
  · rename_i hgf
    simp only [Bool.not_eq_true] at hgf
    simp only [hgf, Bool.false_eq_true, if_false]
    cases ys with
    | nil => simp at h
    | cons y r =>
      simp at h
      subst h
      obtain ⟨v, hv, hcell, hr⟩ := hc 0 (by simp)
      refine ⟨v, ?_, hr⟩
      simp at hv
      simp [run_load, hv]

/-- A part read out of an aggregate. -/
theorem ldV_part {t : TypeId} {cs : List AV} {x : AV} {vs : Array Value} {off : Nat} (h : ldV P t (cs.drop off) = some x) (hr : Rel σ I w (.agg cs) (.agg vs)) :
    ∃ v, (part t vs off).run P w = .ok v w ∧ Rel σ I w x v := by
  obtain ⟨h1, h2, h3⟩ := rel_agg_sub hr
  unfold ldV at h
  obtain ⟨g, hg, h⟩ := obind_inv h
  simp only [part, Sem.run_bind, run_isAgg' hg, Result.andThen_ok]
  split at h
  · rename_i hgt
    obtain ⟨n, hn, h⟩ := obind_inv h
    obtain ⟨hle, h⟩ := guardO_inv h
    obtain rfl := Option.some.inj h
    simp only [hgt, if_true, Sem.run_bind, run_sizeOf' hn, Result.andThen_ok, Sem.run_pure]
    simp at hle
    have hlen : ((cs.drop off).take n).length = n := by simp; omega
    refine ⟨_, rfl, .agg _ _ (by rw [hlen]; simp; omega) (fun i hi => ?_) (fun i hi => ?_)⟩
    · rw [getElem_take' hi, getElem_drop']; exact h2 _ _
    · have hi' := hi
      rw [hlen] at hi'
      rw [getElem_take' hi, getElem_drop']
      have : (vs.extract off (off + n)).getD i undef = vs.getD (off + i) undef := by
        rw [Array.getD_eq_getD_getElem?, Array.getD_eq_getD_getElem?, Array.getElem?_extract]
        rw [if_pos (by omega)]
      rw [this]; exact h3 _ _
  · rename_i hgf
    simp only [Bool.not_eq_true] at hgf
    simp only [hgf, Bool.false_eq_true, if_false]
    rw [List.head?_drop] at h
    obtain ⟨hlt, he⟩ := List.getElem?_eq_some_iff.1 h
    have hv : vs[off]? = some (vs.getD off undef) := by
      rw [Array.getD_eq_getD_getElem?, Array.getElem?_eq_getElem (by omega)]; rfl
    refine ⟨_, by rw [hv]; rfl, ?_⟩
    rw [← he]; exact h3 off hlt

theorem rel_rp_drop {xs : List AV} {blk o k : Nat} (h : Rel σ I w (.rp xs) (.pointer (some ⟨blk, o, none⟩))) : Rel σ I w (.rp (xs.drop k)) (.pointer (some ⟨blk, o + k, none⟩)) := by
  cases h with
  | rp _ _ _ f hb hc h1 h2 =>
    refine .rp _ _ _ (fun i => f (k + i)) hb (fun i hi => ?_) (fun i hi => ?_) (fun i hi => ?_)
    · simp at hi
      rw [Nat.add_assoc]; exact hc (k + i) (by omega)
    · rw [getElem_drop']; exact h1 _ _
    · rw [getElem_drop']; exact h2 _ _

theorem rp_inv {xs : List AV} {v : Value} (h : Rel σ I w (.rp xs) v) : ∃ blk o, v = .pointer (some ⟨blk, o, none⟩) := by cases h; exact ⟨_, _, rfl⟩
theorem op_inv {id off : Nat} {v : Value} (h : Rel σ I w (.op id off) v) : ∃ blk base sz, σ id = .at_ blk base sz ∧ v = .pointer (some ⟨blk, base + off, none⟩) := by cases h; exact ⟨_, _, _, ‹_›, rfl⟩

theorem eqS_sound {x y : AV} {a b : Value} {r : Bool} (h : eqS x y = some r) (hx : Rel σ I w x a) (hy : Rel σ I w y b) : ∃ k m n, a = .int k m ∧ b = .int k n ∧ (m == n) = r := by
  unfold eqS at h
  split at h <;> first | (cases h; done) | skip
  all_goals (cases hx; cases hy; obtain rfl := Option.some.inj h; refine ⟨_, _, _, rfl, rfl, ?_⟩)
  all_goals (rw [Bool.eq_iff_iff, beq_iff_eq, decide_eq_true_eq])
  all_goals first | rw [Int.ofNat_inj, BitVec.toNat_inj] | rfl

theorem eqFieldsA_sound {D : Nat} {f : TypeId → AV → AV → Option Bool} (hf : ∀ {t : TypeId} {x y : AV} {a b : Value} {r : Bool}, f t x y = some r → Rel σ I w x a → Rel σ I w y b → (Op.equalIn D t a b).run P w = .ok r w)
    {xs ys : List AV} {us vs : Array Value} (hx : Rel σ I w (.agg xs) (.agg us)) (hy : Rel σ I w (.agg ys) (.agg vs)) : ∀ (fs : List Field) {r : Bool}, eqFieldsA P f xs ys fs = some r → (Op.eqFields D us vs fs).run P w = .ok r w
  | [], r, h => by obtain rfl := Option.some.inj h; simp [Op.eqFields]
  | fd :: fs, r, h => by
    simp only [eqFieldsA] at h
    simp only [Op.eqFields, Sem.run_ite]
    split at h
    · rename_i hn
      rw [if_pos hn]
      replace h := obind_inv h; obtain ⟨a, ha, h⟩ := h
      replace h := obind_inv h; obtain ⟨b, hb, h⟩ := h
      replace h := obind_inv h; obtain ⟨q, hq, h⟩ := h
      obtain ⟨u, hu, hru⟩ := ldV_part ha hx
      obtain ⟨v, hv, hrv⟩ := ldV_part hb hy
      simp only [Sem.run_bind, hu, hv, Result.andThen_ok, hf hq hru hrv, Sem.run_ite]
      cases q
      · obtain rfl := Option.some.inj h; simp
      · simpa using eqFieldsA_sound hf hx hy fs h
    · rename_i hn
      rw [if_neg hn]
      exact eqFieldsA_sound hf hx hy fs h

theorem eqItemsA_sound {D c : Nat} {e : TypeId} {f : AV → AV → Option Bool} (hf : ∀ {x y : AV} {a b : Value} {r : Bool}, f x y = some r → Rel σ I w x a → Rel σ I w y b → (Op.equalIn D e a b).run P w = .ok r w)
    {xs ys : List AV} {us vs : Array Value} (hx : Rel σ I w (.agg xs) (.agg us)) (hy : Rel σ I w (.agg ys) (.agg vs)) : ∀ (is : List Nat) {r : Bool}, eqItemsA f (fun i cs => ldV P e (cs.drop (i * c))) xs ys is = some r → (Op.eqItems D e c us vs is).run P w = .ok r w
  | [], r, h => by obtain rfl := Option.some.inj h; simp [Op.eqItems]
  | i :: is, r, h => by
    simp only [eqItemsA] at h
    simp only [Op.eqItems]
    replace h := obind_inv h; obtain ⟨a, ha, h⟩ := h
    replace h := obind_inv h; obtain ⟨b, hb, h⟩ := h
    replace h := obind_inv h; obtain ⟨q, hq, h⟩ := h
    obtain ⟨u, hu, hru⟩ := ldV_part ha hx
    obtain ⟨v, hv, hrv⟩ := ldV_part hb hy
    simp only [Sem.run_bind, hu, hv, Result.andThen_ok, hf hq hru hrv, Sem.run_ite]
    cases q
    · obtain rfl := Option.some.inj h; simp
    · simpa using eqItemsA_sound hf hx hy is h

theorem agg_inv {xs : List AV} {v : Value} (h : Rel σ I w (.agg xs) v) : ∃ vs, v = .agg vs := by cases h; exact ⟨_, rfl⟩

theorem eqT_sound : ∀ (d : Nat) {D : Nat} {t : TypeId} {x y : AV} {a b : Value} {r : Bool}, d ≤ D → eqT P d t x y = some r → Rel σ I w x a → Rel σ I w y b → (Op.equalIn D t a b).run P w = .ok r w
  | 0, _, _, _, _, _, _, _, _, h, _, _ => by cases h
  | d + 1, 0, _, _, _, _, _, _, hd, _, _, _ => by omega
  | d + 1, D + 1, t, x, y, a, b, r, hd, h, hx, hy => by
    unfold eqT at h
    split at h
    · rename_i hu
      split at h
      · cases hx; cases hy; obtain rfl := Option.some.inj h
        exact run_equalIn_bool w D t _ _ hu
      · cases h
    · rename_i k hu
      obtain ⟨k', m, n, rfl, rfl, rfl⟩ := eqS_sound h hx hy
      rw [Op.equalIn, Sem.run_bind, run_underlying hu]
      simp only [Result.andThen_ok, if_true, Sem.run_pure]
    · rename_i hu
      split at h
      · cases hx; cases hy; obtain rfl := Option.some.inj h
        rename_i a b
        rw [run_equalIn_string w D t _ _ hu]
        congr 1
        rw [Bool.eq_iff_iff, beq_iff_eq, decide_eq_true_eq, encS_toList, encS_toList]
        exact ⟨encS_inj, fun e => by rw [e]⟩
      · cases h
    · rename_i n e hu
      replace h := obind_inv h; obtain ⟨z, hz, h⟩ := h
      split at h
      · obtain ⟨us, rfl⟩ := agg_inv hx
        obtain ⟨vs, rfl⟩ := agg_inv hy
        have hi : ∃ i, P.info? e = some i ∧ P.cellsOf e = z := by
          unfold szOf at hz
          cases hi : P.info? e with
          | none => simp [hi] at hz
          | some i => simp [hi] at hz; exact ⟨i, rfl, by simp [Program.cellsOf, hi, hz]⟩
        obtain ⟨i, hi, hc⟩ := hi
        rw [run_equalIn_array w D us vs hu hi, hc]
        exact eqItemsA_sound (fun h1 h2 h3 => eqT_sound d (by omega) h1 h2 h3) hx hy _ h
      · cases h
    · rename_i fs hu
      split at h
      · obtain ⟨us, rfl⟩ := agg_inv hx
        obtain ⟨vs, rfl⟩ := agg_inv hy
        obtain ⟨hs, h⟩ := guardO_inv h
        have hf : P.fieldsOf t = fs := by simp [Program.fieldsOf, hu]
        rw [run_equalIn_struct w D t us vs (by rw [hf]; exact hu) hs, hf]
        exact eqFieldsA_sound (fun h1 h2 h3 => eqT_sound d (by omega) h1 h2 h3) hx hy _ h
      · cases h
    · cases h

theorem nilEq_sound {x y : AV} {a b : Value} {t : TypeId} {r : Bool} (hp : isPtrT P t = true) (h : nilEq x y = some r) (hx : Rel σ I w x a) (hy : Rel σ I w y b) : (Op.equal t a b).run P w = .ok r w ∧ ∃ p q, a = .pointer p ∧ b = .pointer q := by
  unfold isPtrT at hp
  split at hp
  · rename_i e hu
    have go : ∀ (p q : Option Addr), (p = none ∨ q = none) → (p.isNone && q.isNone) = r → (Op.equal t (.pointer p) (.pointer q)).run P w = .ok r w := by
      intro p q hpq hr
      show (Op.equalIn (9999 + 1) t _ _).run P w = _
      rw [Op.equalIn, Sem.run_bind, run_underlying hu]
      cases p with
      | none => simp at hr; simp [Result.andThen_ok, hr]
      | some p => cases q with
        | none => simp at hr; simp [Result.andThen_ok, hr]
        | some q => simp at hpq
    unfold nilEq at h
    split at h <;> first | (cases h; done) | skip
    all_goals (obtain rfl := Option.some.inj h; cases hx; cases hy)
    all_goals exact ⟨go _ _ (by simp) (by simp), _, _, rfl, rfl⟩
  · cases hp

theorem binT_sound {op : BinOp} {x y z : AV} {a b : Value} {t : TypeId} (X Y : Operand) (h : binT P op t x y = some z) (hx : Rel σ I w x a) (hy : Rel σ I w y b) :
    ∃ v, (do eqGuard op t X Y a b; binOp op t a b : Sem Value).run P w = .ok v w ∧ Rel σ I w z v := by
  unfold binT at h
  split at h
  · cases hx; cases hy
    rw [Sem.run_bind, run_eqGuard_bool]
    have key : isBoolT P t = true → ∀ a b, (Op.equal t (.bool a) (.bool b)).run P w = .ok (a == b) w := by
      intro hb a b
      unfold isBoolT at hb
      split at hb
      · rename_i hu
        show (Op.equalIn (9999 + 1) t (.bool a) (.bool b)).run P w = _
        rw [Op.equalIn, Sem.run_bind, run_underlying hu]; rfl
      · cases hb
    split at h
    · obtain ⟨hb, h⟩ := guardO_inv h
      obtain rfl := Option.some.inj h
      exact ⟨_, by simp only [Result.andThen_ok, binOp, Sem.run_bind, key hb, Sem.run_pure], .b _⟩
    · obtain ⟨hb, h⟩ := guardO_inv h
      obtain rfl := Option.some.inj h
      exact ⟨_, by simp only [Result.andThen_ok, binOp, Sem.run_bind, key hb, Sem.run_pure], .b _⟩
    · cases h
  · obtain ⟨us, rfl⟩ := agg_inv hx
    obtain ⟨vs, rfl⟩ := agg_inv hy
    have guard : P.eqGuardType P.depth t = false → (eqGuard op t X Y (.agg us) (.agg vs)).run P w = .ok () w := by
      intro hg
      simp only [eqGuard, Sem.run_ite, Sem.run_bind, run_program, Result.andThen_ok, hg]
      split <;> simp
    split at h
    · obtain ⟨hg, h⟩ := guardO_inv h
      replace h := obind_inv h; obtain ⟨r, hr, h⟩ := h
      obtain rfl := Option.some.inj h
      refine ⟨.bool r, ?_, .b _⟩
      rw [Sem.run_bind, guard hg]
      simp only [Result.andThen_ok, binOp, Sem.run_bind, Op.equal, eqT_sound 6 (by decide : 6 ≤ Op.maxDepth) hr hx hy, Sem.run_pure]
    · obtain ⟨hg, h⟩ := guardO_inv h
      replace h := obind_inv h; obtain ⟨r, hr, h⟩ := h
      obtain rfl := Option.some.inj h
      refine ⟨.bool (!r), ?_, .b _⟩
      rw [Sem.run_bind, guard hg]
      simp only [Result.andThen_ok, binOp, Sem.run_bind, Op.equal, eqT_sound 6 (by decide : 6 ≤ Op.maxDepth) hr hx hy, Sem.run_pure]
    · cases h
  · split at h
    · obtain ⟨hg, h⟩ := guardO_inv h
      replace h := obind_inv h; obtain ⟨r, hr, h⟩ := h
      obtain rfl := Option.some.inj h
      obtain ⟨he, p, q, rfl, rfl⟩ := nilEq_sound hg hr hx hy
      refine ⟨.bool r, ?_, .b _⟩
      simp only [eqGuard, Sem.run_bind, Sem.run_ite, Sem.run_pure, binOp]
      split <;> simp only [Result.andThen_ok, he]
    · obtain ⟨hg, h⟩ := guardO_inv h
      replace h := obind_inv h; obtain ⟨r, hr, h⟩ := h
      obtain rfl := Option.some.inj h
      obtain ⟨he, p, q, rfl, rfl⟩ := nilEq_sound hg hr hx hy
      refine ⟨.bool (!r), ?_, .b _⟩
      simp only [eqGuard, Sem.run_bind, Sem.run_ite, Sem.run_pure, binOp]
      split <;> simp only [Result.andThen_ok, he]
    · cases h
  · split at h
    · obtain ⟨hg, h⟩ := guardO_inv h
      replace h := obind_inv h; obtain ⟨r, hr, h⟩ := h
      obtain rfl := Option.some.inj h
      obtain ⟨he, p, q, rfl, rfl⟩ := nilEq_sound hg hr hx hy
      refine ⟨.bool r, ?_, .b _⟩
      simp only [eqGuard, Sem.run_bind, Sem.run_ite, Sem.run_pure, binOp]
      split <;> simp only [Result.andThen_ok, he]
    · obtain ⟨hg, h⟩ := guardO_inv h
      replace h := obind_inv h; obtain ⟨r, hr, h⟩ := h
      obtain rfl := Option.some.inj h
      obtain ⟨he, p, q, rfl, rfl⟩ := nilEq_sound hg hr hx hy
      refine ⟨.bool (!r), ?_, .b _⟩
      simp only [eqGuard, Sem.run_bind, Sem.run_ite, Sem.run_pure, binOp]
      split <;> simp only [Result.andThen_ok, he]
    · cases h
  · exact bin_sound X Y h hx hy

end
end Go.AX
