/-
  AX, part K: operations that write say what the model's do.
-/
import Derived.Test.YtnnkmoaipcdhnaaDoorAxJ
namespace Go.AX
open Go
section
variable {P : Program} {c : Ctx} {σ : Nat → Loc} {I : Nat → Prop} {w : World} {hp : H} {un : Nat → Prop}

/-- Cells laid into a block, marks or not. -/
theorem run_storeCells_row (g o : Nat) (t : TypeId) (lo hi : Nat) : ∀ (vs : List Value) (i : Nat) (cur : Array Value) (w : World), w.heap[g]? = some (.cells cur t (lo, hi)) → (∀ k, k < cur.size → ¬ (lo ≤ k ∧ k < hi)) →
    o + i + vs.length ≤ cur.size → (∀ v ∈ vs, v.oneCell' = true) →
    ∃ w', (storeCells ⟨g, o, none⟩ vs i).run P w = .ok () w' ∧ w'.os = w.os ∧ w'.tape = w.tape ∧ w'.output = w.output ∧ w'.heap.size = w.heap.size ∧ (∀ k, k ≠ g → w'.heap[k]? = w.heap[k]?) ∧
      ∃ cur', w'.heap[g]? = some (.cells cur' t (lo, hi)) ∧ cur'.size = cur.size ∧ ∀ k, cur'[k]? = if k < o + i then cur[k]? else if k < o + i + vs.length then vs[k - (o + i)]? else cur[k]?
  | [], i, cur, w, hg, _, _, _ => ⟨w, rfl, rfl, rfl, rfl, rfl, fun _ _ => rfl, cur, hg, rfl, fun k => by
      by_cases h1 : k < o + i
      · rw [if_pos h1]
      · rw [if_neg h1, if_neg (by simpa using h1)]⟩
  | v :: rest, i, cur, w, hg, hm, hl, h1 => by
    simp only [List.length_cons] at hl
    have hi' : o + i < cur.size := by omega
    have hcell : w.cell? ⟨g, o + i, none⟩ = some cur[o + i] := by simp [World.cell?, hg, hi']
    have hfro : w.frozen? ⟨g, o + i, none⟩ = false := by
      have := hm (o + i) hi'
      simp only [World.frozen?, hg]
      rw [Bool.and_eq_false_iff, decide_eq_false_iff_not, decide_eq_false_iff_not]
      rcases Nat.lt_or_ge (o + i) lo with h | h
      · left; omega
      · right; intro h2; exact this ⟨h, h2⟩
    have hst : (store ((⟨g, o, none⟩ : Addr).add i) v).run P w = .ok () (w.setCell ⟨g, o + i, none⟩ v) := by
      rw [add_off, run_store P w _ v _ (h1 v (by simp)), hcell]
      simp [hfro]
    have hset : (w.setCell ⟨g, o + i, none⟩ v).heap[g]? = some (.cells (cur.setIfInBounds (o + i) v) t (lo, hi)) := by
      simp only [World.setCell, Array.getElem?_modify, if_true, hg, Option.map_some]; rfl
    obtain ⟨w', r1, r2, r3, r4, r5, r6, cur', r7, r8, r9⟩ := run_storeCells_row g o t lo hi rest (i + 1) (cur.setIfInBounds (o + i) v) (w.setCell ⟨g, o + i, none⟩ v) hset (by simpa using hm) (by simp; omega) (fun x hx => h1 x (by simp [hx]))
    refine ⟨w', ?_, r2, r3, r4, by rw [r5]; simp, fun k hk => ?_, cur', r7, by rw [r8]; simp, fun k => ?_⟩
    · simp only [storeCells, Sem.run_bind, hst, Result.andThen_ok, r1]
    · rw [r6 k hk]; exact Go.RowKit.Below.heap_setCell _ _ _ _ hk
    · rw [r9 k, Array.getElem?_setIfInBounds]
      simp only [List.length_cons]
      by_cases a : k < o + i
      · rw [if_pos (by omega), if_neg (by omega), if_pos a]
      · by_cases b : k = o + i
        · subst b
          rw [if_pos (by omega), if_pos rfl, if_pos hi', if_neg (by omega), if_pos (by omega)]; simp
        · rw [if_neg (show ¬ k < o + (i + 1) by omega), if_neg a]
          by_cases d : k < o + (i + 1) + rest.length
          · rw [if_pos d, if_pos (by omega), show k - (o + i) = k - (o + (i + 1)) + 1 from by omega]; simp
          · rw [if_neg d, if_neg (by omega), if_neg (by omega)]

theorem storeL_length {xs cs : List AV} {off : Nat} (h : off + cs.length ≤ xs.length) : (storeL xs off cs).length = xs.length := by
  unfold storeL
  split
  · simp
  · exact splice_length h
theorem storeL_get {xs cs : List AV} {off i : Nat} (h : off + cs.length ≤ xs.length) : (storeL xs off cs)[i]? = if i < off then xs[i]? else if i < off + cs.length then cs[i - off]? else xs[i]? := by
  unfold storeL
  split
  · rename_i c
    simp only [List.length_singleton] at h ⊢
    rw [List.getElem?_set]
    by_cases a : i < off
    · rw [if_pos a, if_neg (by omega)]
    · by_cases b : off = i
      · subst b; rw [if_pos rfl, if_pos (by omega), if_neg a, if_pos (by omega)]; simp
      · rw [if_neg b, if_neg a, if_neg (by omega)]
  · exact splice_get h

/-- Cells of a known row laid into an own object. -/
theorem store_own (h : Inv c σ I w hp un) {id off : Nat} {xs ys zs : List AV} {us : List Value} (ho : hp id = some (.cells xs true)) {blk base sz : Nat} (hl : σ id = .at_ blk base sz)
    (hfit : off + ys.length ≤ xs.length) (hu : us.length = ys.length) (hc : ∀ i (_h : i < ys.length), ys[i].isCell = true) (hr : ∀ i (_h : i < ys.length), Rel σ I w ys[i] (us.getD i undef))
    (hzl : zs.length = xs.length) (hz : ∀ i : Nat, zs[i]? = if i < off then xs[i]? else if i < off + ys.length then ys[i - off]? else xs[i]?) :
    ∃ w', (storeCells ⟨blk, base + off, none⟩ us 0).run P w = .ok () w' ∧ Inv c σ I w' (upd hp id (.cells zs true)) un ∧ Grow σ I w σ I w' := by
  have hown := h.own id _ ho
  have hrow := own_row hown hl
  simp only [OwnRel, hl] at hown
  obtain ⟨⟨⟨cs, T, lo, hi, g1, g2, g3, g4, g5⟩, g6⟩, g7, _⟩ := hown
  have hnI := g7 trivial
  have h1 : ∀ v ∈ us, v.oneCell' = true := by
    intro v hv
    obtain ⟨i, hi, rfl⟩ := List.getElem_of_mem hv
    have := hr i (by omega)
    rw [List.getD_eq_getElem?_getD, List.getElem?_eq_getElem hi] at this
    exact this.oneCell (hc i (by omega))
  obtain ⟨w', r1, r2, r3, r4, r5, r6, cur', r7, r8, r9⟩ := run_storeCells_row (P := P) blk (base + off) T lo hi us 0 cs w g1 (by rw [g2]; exact g4.out) (by omega) h1
  have hw : ∀ k, I k → w'.heap[k]? = w.heap[k]? := fun k hk => r6 k (fun e => hnI (e ▸ hk))
  refine ⟨w', r1, h.setRow ho hl r2 r3 r4 r5 r6 (fun i hi => ?_) (fun cs2 T2 lo2 hi2 e1 e2 => ?_), ⟨fun _ _ => rfl, fun _ h => h, hw⟩⟩
  · have := hz i
    rw [List.getElem?_eq_getElem hi] at this
    split at this
    · obtain ⟨hlt, e⟩ := List.getElem?_eq_some_iff.1 this.symm
      rw [← e]; exact g6 i hlt
    · split at this
      · obtain ⟨hlt, e⟩ := List.getElem?_eq_some_iff.1 this.symm
        rw [← e]; exact hc _ hlt
      · obtain ⟨hlt, e⟩ := List.getElem?_eq_some_iff.1 this.symm
        rw [← e]; exact g6 i hlt
  · rw [g1] at e1
    obtain ⟨rfl, rfl, e3⟩ := Obj.cells.inj (Option.some.inj e1)
    obtain ⟨rfl, rfl⟩ := Prod.mk.inj e3
    refine ⟨cur', r7, by rw [r8]; exact e2, by omega, fun i hi => ?_⟩
    have := hz i
    rw [List.getElem?_eq_getElem hi] at this
    rw [Array.getD_eq_getD_getElem?, r9 (base + i)]
    have old : ∀ (hlt : i < xs.length), zs[i] = xs[i] → (base + i < base + off + 0 ∨ ¬ base + i < base + off + 0 + us.length) → Rel σ I w zs[i] ((if base + i < base + off + 0 then cs[base + i]? else if base + i < base + off + 0 + us.length then us[base + i - (base + off + 0)]? else cs[base + i]?).getD undef) := by
      intro hlt e hh
      have g := g5 i hlt
      rw [Array.getD_eq_getD_getElem?] at g
      rw [e]
      rcases hh with hh | hh
      · rw [if_pos hh]; exact g
      · rw [if_neg (by omega), if_neg hh]; exact g
    split at this
    · obtain ⟨hlt, e⟩ := List.getElem?_eq_some_iff.1 this.symm
      exact old hlt e.symm (.inl (by omega))
    · split at this
      · obtain ⟨hlt, e⟩ := List.getElem?_eq_some_iff.1 this.symm
        have g := hr _ hlt
        rw [List.getD_eq_getElem?_getD] at g
        rw [if_neg (by omega), if_pos (by omega), show base + i - (base + off + 0) = i - off from by omega, ← e]; exact g
      · obtain ⟨hlt, e⟩ := List.getElem?_eq_some_iff.1 this.symm
        exact old hlt e.symm (.inr (by omega))

theorem del_sub (hp : H) (id : Nat) : ∀ k o, del hp id k = some o → hp k = some o := by
  intro k o h; rw [del_apply] at h; split at h
  · cases h
  · exact h

/-- An own slice that is laid into another object: from then on a plain one. -/
theorem frz_sound : ∀ (ys : List AV) {hp : H} {I : Nat → Prop} (us : Nat → Value) {p : List AV × H}, frzRec hp ys = some p → Inv c σ I w hp un → (∀ i (_h : i < ys.length), ys[i].isCell = true ∧ Rel σ I w ys[i] (us i)) →
    ∃ I', Inv c σ I' w p.2 un ∧ Grow σ I w σ I' w ∧ p.1.length = ys.length ∧ (∀ i (_h : i < p.1.length), p.1[i].isCell = true ∧ Rel σ I' w p.1[i] (us i)) ∧ (∀ k, I' k → I k ∨ ∃ id xs mt base sz, hp id = some (.cells xs mt) ∧ σ id = .at_ k base sz) ∧ (∀ id, p.2 id = none → hp id = none)
  | [], hp, I, us, p, h, hi, hr => by
    obtain rfl := Option.some.inj h
    exact ⟨I, hi, Grow.refl _ _ _, rfl, hr, fun k hk => .inl hk, fun _ h => h⟩
  | x :: r, hp, I, us, p, h, hi, hr => by
    simp only [frzRec] at h
    have h0 := hr 0 (by simp)
    simp only [List.getElem_cons_zero] at h0
    have other : ∀ (hx : obind (frzRec hp r) (fun p => some (x :: p.1, p.2)) = some p), ∃ I', Inv c σ I' w p.2 un ∧ Grow σ I w σ I' w ∧ p.1.length = (x :: r).length ∧ (∀ i (_h : i < p.1.length), p.1[i].isCell = true ∧ Rel σ I' w p.1[i] (us i)) ∧ (∀ k, I' k → I k ∨ ∃ id xs mt base sz, hp id = some (.cells xs mt) ∧ σ id = .at_ k base sz) ∧ (∀ id, p.2 id = none → hp id = none) := by
      intro hx
      obtain ⟨q, hq, hx⟩ := obind_inv hx
      obtain rfl := Option.some.inj hx
      obtain ⟨I', a1, a2, a3, a4, a5, a6⟩ := frz_sound r (fun i => us (i + 1)) hq hi (fun i hi => by have := hr (i + 1) (by simpa using hi); simpa using this)
      refine ⟨I', a1, a2, by simp [a3], fun i hi => ?_, a5, a6⟩
      cases i with
      | zero => exact ⟨h0.1, h0.2.grow a2⟩
      | succ k => exact a4 k (by simpa using hi)
    split at h
    · rename_i id off n e g
      obtain ⟨o, ho, h⟩ := obind_inv h
      obtain ⟨xs, mt⟩ := o
      simp only at h
      obtain ⟨hfit, h⟩ := guardO_inv h
      obtain ⟨q, hq, h⟩ := obind_inv h
      obtain rfl := Option.some.inj h
      have hfz : ∃ I1, (∀ k, I k → I1 k) ∧ (∀ k, I1 k → I k ∨ ∃ base sz, σ id = .at_ k base sz) ∧ Inv c σ I1 w (upd hp id (.cells xs false)) un := by
        cases mt with
        | true => exact hi.freeze ho
        | false =>
          refine ⟨I, fun _ h => h, fun k hk => .inl hk, ?_⟩
          have : upd hp id (.cells xs false) = hp := by funext k; rw [upd_apply]; split
                                                        · rename_i e; rw [e, ho]
                                                        · rfl
          rw [this]; exact hi
      obtain ⟨I1, f1, f2, f3⟩ := hfz
      have hg1 : Grow σ I w σ I1 w := ⟨fun _ _ => rfl, f1, fun _ _ => rfl⟩
      obtain ⟨I', a1, a2, a3, a4, a5, a6⟩ := frz_sound r (fun i => us (i + 1)) hq f3 (fun i hi => by
        have := hr (i + 1) (by simpa using hi)
        simp only [List.getElem_cons_succ] at this
        exact ⟨this.1, this.2.grow hg1⟩)
      refine ⟨I', a1, hg1.trans a2, by simp [a3], fun i hi => ?_, fun k hk => ?_, fun k hk => ?_⟩
      · cases i with
        | succ k => exact a4 k (by simpa using hi)
        | zero =>
          refine ⟨rfl, ?_⟩
          simp only [List.getElem_cons_zero]
          have hown := f3.own id (.cells xs false) (by rw [upd_apply, if_pos rfl])
          have hlen : ((xs.drop off).take (n * e)).length = n * e := by simp; omega
          generalize hus : us 0 = u0 at h0 ⊢
          cases h0.2 with
          | os _ _ _ _ _ blk base sz cap g1 g2 g3 =>
            have hrow := own_row hown g1
            simp only [OwnRel, g1] at hown
            have hI1 := hown.2.2 trivial
            refine Rel.grow (.sl n _ blk (base + off) cap (fun i => (w.cell? ⟨blk, base + off + i, none⟩).getD undef) hI1 g2 (fun i hi => ?_) (fun i hi => ?_) (fun i hi => ?_)) a2
            · rw [hlen] at hi
              obtain ⟨v, hv, _⟩ := hrow.get (off + i) (by omega)
              rw [← Nat.add_assoc] at hv; rw [hv]; rfl
            · rw [hlen] at hi
              rw [getElem_take', getElem_drop']; exact (hrow.get (off + i) (by omega)).choose_spec.2.1
            · rw [hlen] at hi
              rw [getElem_take', getElem_drop']
              obtain ⟨v, hv, _, hrel⟩ := hrow.get (off + i) (by omega)
              rw [← Nat.add_assoc] at hv; rw [hv]; exact hrel
          | osnil _ _ _ g1 => simp only [Nat.zero_mul, List.take_zero]; exact .slnil
          | oszero _ _ _ _ a g1 => simp only [Nat.zero_mul, List.take_zero]; exact .slzero a
      · rcases a5 k hk with hk | ⟨id', xs', mt', base, sz, e1, e2⟩
        · rcases f2 k hk with hk | ⟨base, sz, e2⟩
          · exact .inl hk
          · exact .inr ⟨id, xs, mt, base, sz, ho, e2⟩
        · rw [upd_apply] at e1
          split at e1
          · rename_i e; subst e; exact .inr ⟨id', xs, mt, base, sz, ho, e2⟩
          · exact .inr ⟨id', xs', mt', base, sz, e1, e2⟩
      · have := a6 k hk
        rw [upd_apply] at this
        split at this
        · cases this
        · exact this
    · exact other h

end
end Go.AX
