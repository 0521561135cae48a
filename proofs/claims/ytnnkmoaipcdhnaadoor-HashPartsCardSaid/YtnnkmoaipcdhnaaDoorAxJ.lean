/-
  AX, part J: operations that make memory say what the model's do.
-/
import Derived.Test.YtnnkmoaipcdhnaaDoorAxH
namespace Go.AX
open Go

/-- How a run goes on: names of own objects stay, what is not written any more stays. -/
structure Grow (σ : Nat → Loc) (I : Nat → Prop) (w : World) (σ' : Nat → Loc) (I' : Nat → Prop) (w' : World) : Prop where
  loc : ∀ id, σ id ≠ .unset → σ' id = σ id
  imm : ∀ k, I k → I' k
  heap : ∀ k, I k → w'.heap[k]? = w.heap[k]?

theorem Grow.refl (σ : Nat → Loc) (I : Nat → Prop) (w : World) : Grow σ I w σ I w := ⟨fun _ _ => rfl, fun _ h => h, fun _ _ => rfl⟩
theorem Grow.trans {σ σ' σ'' : Nat → Loc} {I I' I'' : Nat → Prop} {w w' w'' : World} (a : Grow σ I w σ' I' w') (b : Grow σ' I' w' σ'' I'' w'') : Grow σ I w σ'' I'' w'' :=
  ⟨fun id h => by have := a.loc id h; rw [b.loc id (by rw [this]; exact h), this], fun k h => b.imm k (a.imm k h), fun k h => by rw [b.heap k (a.imm k h), a.heap k h]⟩
theorem Rel.grow {σ σ' : Nat → Loc} {I I' : Nat → Prop} {w w' : World} {x : AV} {y : Value} (h : Rel σ I w x y) (g : Grow σ I w σ' I' w') : Rel σ' I' w' x y := h.mono g.loc g.imm g.heap

section
variable {P : Program} {c : Ctx} {σ : Nat → Loc} {I : Nat → Prop} {w : World} {hp : H} {un : Nat → Prop}

/-- A new block with cells that are known: what comes of it. -/
theorem make_new (h : Inv c σ I w hp un) {id : Nat} (hu : un id) (w0 : World) (hw0 : w0.heap = w.heap ∧ w0.os = w.os ∧ w0.tape = w.tape ∧ w0.output = w.output)
    (cs : Array Value) (T : TypeId) (fr : Nat × Nat) (hfr : Unfz fr.1 fr.2 cs.size) (xs : List AV) (hl : xs.length ≤ cs.size)
    (hr : ∀ (i : Nat) (x : AV), xs[i]? = some x → x.isCell = true ∧ ∃ v, cs[i]? = some v ∧ Rel σ I w x v) :
    ∃ σ', Inv c σ' I (w0.alloc (.cells cs T fr)) (upd hp id (.cells xs true)) (fun k => un k ∧ k ≠ id) ∧ σ' id = .at_ w.heap.size 0 cs.size ∧ Grow σ I w σ' I (w0.alloc (.cells cs T fr)) := by
  have h0 := h.world (w' := w0) hw0.1 hw0.2.1 hw0.2.2.1 hw0.2.2.2
  have key := h0.alloc hu cs T fr hfr xs hl (fun i hi => (hr i _ (List.getElem?_eq_getElem hi)).1) (fun i hi => by
    obtain ⟨_, v, hv, hrel⟩ := hr i _ (List.getElem?_eq_getElem hi)
    rw [Array.getD_eq_getD_getElem?, hv]; exact hrel.world hw0.1)
  refine ⟨_, key, by simp [setLoc, hw0.1], ⟨setLoc_ext (h.un id hu), fun _ h => h, fun k hk => ?_⟩⟩
  rw [heap_push_old _ _ k (by rw [hw0.1]; exact h.ilt k hk), hw0.1]

theorem rep_get {zs : List AV} {z : Nat} (hz : zs.length = z) (hpos : 0 < z) : ∀ (n i : Nat), i < n * z → (rep n zs)[i]? = zs[i % z]?
  | 0, i, h => by simp at h
  | n + 1, i, h => by
    have ih := rep_get hz hpos n
    unfold rep at ih ⊢
    rw [List.replicate_succ, List.flatten_cons, List.getElem?_append]
    split
    · rename_i hlt; rw [hz] at hlt; rw [Nat.mod_eq_of_lt hlt]
    · rename_i hge
      rw [hz] at hge ⊢
      rw [Nat.add_mul, Nat.one_mul] at h
      rw [ih (i - z) (by omega), Nat.mod_eq_sub_mod (a := i) (by omega)]
theorem rep_length {zs : List AV} (n : Nat) : (rep n zs).length = n * zs.length := by
  unfold rep; simp

theorem made_get {z : Array Value} {n i : Nat} (h : i < n) (hz : 0 < z.size) : (Go.madeCells z n)[i]? = z[i % z.size]? := by
  unfold Go.madeCells
  rw [Array.getElem?_map, Array.getElem?_range, if_pos h]
  simp only [Option.map_some]
  rw [Array.getElem?_eq_getElem (Nat.mod_lt _ hz), getElem!_pos z (i % z.size) (Nat.mod_lt _ hz)]

theorem rep_made {zs : List AV} {z : Array Value} (hzc : RelCells σ I w zs z) (hpos : 0 < zs.length) (n m : Nat) (hm : n * zs.length ≤ m) :
    ∀ (i : Nat) (x : AV), (rep n zs)[i]? = some x → x.isCell = true ∧ ∃ v, (Go.madeCells z m)[i]? = some v ∧ Rel σ I w x v := by
  intro i x hx
  have hlt : i < n * zs.length := by
    have := (List.getElem?_eq_some_iff.1 hx).1; rwa [rep_length] at this
  rw [rep_get rfl hpos n i hlt] at hx
  rw [made_get (by omega) (by rw [hzc.size]; exact hpos), hzc.size]
  exact (relCells_iff.1 hzc).2 _ x hx

theorem new_sound {o : Oper} {ρA : Operand → AV} {ρ : Operand → Value} {id : Nat} {x : AV} {xs : List AV} (h : newOp P o.op ρA id = some (x, xs)) (hρ : ∀ y, Rel σ I w (ρA y) (ρ y))
    (hi : Inv c σ I w hp un) (hu : un id) :
    ∃ v w' σ', (execOp ρ o).run P w = .ok (.value v) w' ∧ Inv c σ' I w' (upd hp id (.cells xs true)) (fun k => un k ∧ k ≠ id) ∧ Rel σ' I w' x v ∧ Grow σ I w σ' I w' := by
  obtain ⟨dst, op, type, pos, after, guard⟩ := o
  simp only at h
  unfold newOp at h
  split at h
  · rename_i t
    obtain ⟨zs, hzs, h⟩ := obind_inv h
    obtain ⟨rfl, rfl⟩ := Prod.mk.inj (Option.some.inj h)
    obtain ⟨z, hz, _, he, h1⟩ := run_zeroValue' hzs w
    have hzc : RelCells σ I w zs z.cells := relCells_zero he h1
    obtain ⟨σ', hinv, hloc, hg⟩ := make_new hi hu w ⟨rfl, rfl, rfl, rfl⟩ z.cells t (0, 0) ⟨Nat.le_refl _, fun _ _ => by omega⟩ zs (by rw [hzc.size]; omega) (relCells_iff.1 hzc).2
    refine ⟨.pointer (some ⟨w.heap.size, 0, none⟩), _, σ', runV ?_, hinv, .op id 0 _ _ _ hloc, hg⟩
    simp only [Instr.alloc, newVar, newRow, Sem.run_bind, hz, Result.andThen_ok, run_newObj, Sem.run_pure]
    rfl
  · rename_i t y
    obtain ⟨cs, hcs, h⟩ := obind_inv h
    obtain ⟨rfl, rfl⟩ := Prod.mk.inj (Option.some.inj h)
    have hc := relCells_cellsV hcs (hρ y)
    obtain ⟨σ', hinv, hloc, hg⟩ := make_new hi hu w ⟨rfl, rfl, rfl, rfl⟩ (ρ y).cells t (0, 0) ⟨Nat.le_refl _, fun _ _ => by omega⟩ cs (by rw [hc.size]; omega) (relCells_iff.1 hc).2
    refine ⟨.pointer (some ⟨w.heap.size, 0, none⟩), _, σ', runV ?_, hinv, .op id 0 _ _ _ hloc, hg⟩
    simp only [Instr.box, newVar, newRow, Sem.run_bind, Result.andThen_ok, run_newObj, Sem.run_pure]
    rfl
  · rename_i t len parts
    split at h
    · rename_i e hue
      obtain ⟨z, hz, h⟩ := obind_inv h
      obtain ⟨⟨hpos, hlim⟩, h⟩ := guardO_inv h
      obtain ⟨zs, hzs, h⟩ := obind_inv h
      obtain ⟨hzl, h⟩ := guardO_inv h
      obtain ⟨cs, hcs, h⟩ := obind_inv h
      obtain ⟨rfl, rfl⟩ := Prod.mk.inj (Option.some.inj h)
      obtain ⟨zv, hzv, _, he, h1⟩ := run_zeroValue' hzs w
      have hzc : RelCells σ I w zs zv.cells := relCells_zero he h1
      have hmade : RelCells σ I w (rep len zs) (Go.madeCells zv.cells (len * z)) := by
        rw [relCells_iff]
        exact ⟨by rw [Go.size_madeCells, rep_length, hzl], rep_made hzc (by omega) len (len * z) (by rw [hzl]; exact Nat.le_refl _)⟩
      obtain ⟨us, hus, hrel⟩ := fill_sound (placeM := fun i => some (i * z, z)) (fun k o hk => hk) _ (parts.map fun (i, x) => (i, ρ x)).toList _ _ _ (by simp) (parts_rel hρ) hmade hcs
      have hlen : cs.length = len * z := by
        have h2 : ∀ (parts : List (Nat × AV)) (place : Nat → Option (Nat × Nat)) (a b : List AV), fillA place a parts = some b → b.length = a.length := by
          intro parts
          induction parts with
          | nil => intro place a b hh; obtain rfl := Option.some.inj hh; rfl
          | cons p r ih =>
            intro place a b hh
            obtain ⟨k, v⟩ := p
            simp only [fillA] at hh
            obtain ⟨os, _, hh⟩ := obind_inv hh
            obtain ⟨vc, _, hh⟩ := obind_inv hh
            obtain ⟨⟨g1, g2⟩, hh⟩ := guardO_inv hh
            rw [ih _ _ _ hh, splice_length (by omega)]
        rw [h2 _ _ _ _ hcs, rep_length, hzl]
      obtain ⟨σ', hinv, hloc, hg⟩ := make_new hi hu w ⟨rfl, rfl, rfl, rfl⟩ us e (0, 0) ⟨Nat.le_refl _, fun _ _ => by omega⟩ cs (by rw [hrel.size]; omega) (relCells_iff.1 hrel).2
      have hne : ¬ (len * z > 2 ^ 24) := by have : (2 : Nat) ^ 24 = 16777216 := by decide
                                            omega
      refine ⟨.slice (some ⟨w.heap.size, 0, none⟩) len len, _, σ', runV ?_, hinv, ?_, hg⟩
      · simp only [Instr.buildSlice, newRow, Sem.run_bind, run_underlying hue, Result.andThen_ok, run_sizeOf' hz, if_neg hne]
        by_cases h0 : len * z = 0
        · have hm0 : Go.madeCells zv.cells (len * z) = (Array.range (len * z)).map (fun i => (#[] : Array Value)[i % (#[] : Array Value).size]!) := by
            rw [h0]; simp [Go.madeCells]
          simp only [if_pos h0]
          rw [hm0] at hus
          simp only [hus, Sem.run_bind, run_newObj, Result.andThen_ok, Sem.run_pure]
          rfl
        · simp only [if_neg h0, Sem.run_bind, hzv, Result.andThen_ok, Sem.run_pure]
          unfold Go.madeCells at hus
          simp only [hus, Sem.run_bind, run_newObj, Result.andThen_ok, Sem.run_pure]
          rfl
      · refine .os id 0 len z true _ 0 _ len hloc (Nat.le_refl _) (fun _ => ?_)
        rw [hrel.size, hlen]; omega
    · cases h
  · rename_i t l' c'
    split at h
    · rename_i e hue
      obtain ⟨z, hz, h⟩ := obind_inv h
      obtain ⟨by_, hby, h⟩ := obind_inv h
      obtain ⟨zs, hzs, h⟩ := obind_inv h
      obtain ⟨l, hl, h⟩ := obind_inv h
      obtain ⟨cc, hcc, h⟩ := obind_inv h
      obtain ⟨⟨hpos, hzl, h0, hlc, hc1, hc2⟩, h⟩ := guardO_inv h
      obtain ⟨rfl, rfl⟩ := Prod.mk.inj (Option.some.inj h)
      obtain ⟨zv, _, hzero, he, h1⟩ := run_zeroValue' hzs w
      have hzc : RelCells σ I w zs zv.cells := relCells_zero he h1
      obtain ⟨i, hinfo, hsz⟩ := szOf_inv hz
      obtain ⟨i', hinfo', hbz⟩ := byOf_inv hby
      rw [hinfo] at hinfo'
      obtain rfl := Option.some.inj hinfo'
      have hiz : i.zero = some zv := by rw [hinfo] at hzero; exact hzero
      obtain ⟨k1, hk1⟩ := ix_inv hl (hρ l')
      obtain ⟨k2, hk2⟩ := ix_inv hcc (hρ c')
      have hle : l.toNat * zs.length ≤ cc.toNat * i.size := by rw [hzl, hsz]; exact Nat.mul_le_mul_right _ (by omega)
      obtain ⟨σ', hinv, hloc, hg⟩ := make_new hi hu w ⟨rfl, rfl, rfl, rfl⟩ (Go.madeCells zv.cells (cc.toNat * i.size)) e (0, 0) ⟨Nat.le_refl _, fun _ _ => by omega⟩ (rep l.toNat zs)
        (by rw [Go.size_madeCells, rep_length]; exact hle) (rep_made hzc (by omega) _ _ hle)
      refine ⟨.slice (some ⟨w.heap.size, 0, none⟩) l.toNat cc.toNat, _, σ', runV (s := Instr.makeSlice t (ρ l') (ρ c')) ?_, hinv, ?_, hg⟩
      · rw [hk1, hk2, run_make w t e i zv hue hinfo hiz k1 k2 l cc h0 hlc (by rw [hbz, Int.mul_comm]; omega) (by omega)]
      · refine .os id 0 l.toNat z true _ 0 _ cc.toNat hloc (by omega) (fun _ => ?_)
        rw [Go.size_madeCells, hsz]; omega
    · cases h
  · rename_i src dst' y
    split at h
    · rename_i e hs hd
      split at h
      · rename_i l he eq
        obtain ⟨hlen, h⟩ := guardO_inv h
        obtain ⟨rfl, rfl⟩ := Prod.mk.inj (Option.some.inj h)
        have hy := hρ y
        rw [eq] at hy
        have hsv := s_inv hy
        have hrun := run_bytes_of_string (P := P) w src dst' e (encS l) hs hd he
        have hge : l.length ≤ grownCap w (encS l).size 0 e := by have := grownCap_ge w (encS l).size 0 e; have e2 := encS_size l; omega
        have hbs : (bytesRow (encS l) (grownCap w (encS l).size 0 e)).size = grownCap w (encS l).size 0 e := by
          simp only [bytesRow, Array.size_append, Array.size_map, Array.size_replicate, encS_size]
          have : (encS l).data.size = l.length := by simp [encS]
          rw [this]; simp only [encS_size] at hge ⊢; omega
        obtain ⟨σ', hinv, hloc, hg⟩ := make_new hi hu w.drew ⟨rfl, rfl, rfl, rfl⟩ (bytesRow (encS l) (grownCap w (encS l).size 0 e)) e ((bytesRow (encS l) (grownCap w (encS l).size 0 e)).size, (bytesRow (encS l) (grownCap w (encS l).size 0 e)).size + 1) ⟨Nat.le_succ _, fun _ _ => by omega⟩ (l.map .w8)
          (by rw [hbs, List.length_map]; exact hge) (fun i x hx => by
            rw [List.getElem?_map] at hx
            obtain ⟨b, hb, rfl⟩ := Option.map_eq_some_iff.1 hx
            obtain ⟨hlt, rfl⟩ := List.getElem?_eq_some_iff.1 hb
            refine ⟨rfl, .int .u8 (l[i].toNat : Int), ?_, .w8 _⟩
            simp only [bytesRow]
            rw [Array.getElem?_append_left (by simp [encS]; exact hlt)]
            simp [encS, List.getElem?_eq_getElem hlt])
        refine ⟨_, _, σ', runV (s := convert src dst' (ρ y)) (by rw [hsv]; exact hrun), hinv, ?_, hg⟩
        have := Rel.os (σ := σ') (I := I) (w := (w.drew.alloc (.cells (bytesRow (encS l) (grownCap w (encS l).size 0 e)) e ((bytesRow (encS l) (grownCap w (encS l).size 0 e)).size, (bytesRow (encS l) (grownCap w (encS l).size 0 e)).size + 1)))) id 0 l.length 1 true _ 0 _ (grownCap w (encS l).size 0 e) hloc hge (fun _ => by rw [hbs]; omega)
        rw [encS_size] at this ⊢
        exact this
      · cases h
    · cases h
  · cases h
end
end Go.AX
