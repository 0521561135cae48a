/-
  AX, part F: parts laid into cells; the plain operations.
-/
import Derived.Test.YtnnkmoaipcdhnaaDoorAxE
namespace Go.AX
open Go
section
variable {P : Program} {σ : Nat → Loc} {I : Nat → Prop} {w : World}

structure RelCells (σ : Nat → Loc) (I : Nat → Prop) (w : World) (xs : List AV) (vs : Array Value) : Prop where
  size : vs.size = xs.length
  cell : ∀ i (h : i < xs.length), xs[i].isCell = true
  rel : ∀ i (h : i < xs.length), Rel σ I w xs[i] (vs.getD i undef)

theorem RelCells.agg {xs : List AV} {vs : Array Value} (h : RelCells σ I w xs vs) : Rel σ I w (.agg xs) (.agg vs) := .agg xs vs h.size h.cell h.rel
theorem relCells_of {xs : List AV} {vs : Array Value} (h : Rel σ I w (.agg xs) (.agg vs)) : RelCells σ I w xs vs := by
  obtain ⟨a, b, c⟩ := rel_agg_sub h; exact ⟨a, b, c⟩
theorem relCells_cellsV {x : AV} {cs : List AV} {v : Value} (h : cellsV x = some cs) (hr : Rel σ I w x v) : RelCells σ I w cs v.cells := by
  obtain ⟨a, b, c⟩ := cellsV_inv h hr; exact ⟨a, b, c⟩

theorem relCells_iff {xs : List AV} {vs : Array Value} : RelCells σ I w xs vs ↔ vs.size = xs.length ∧ ∀ (i : Nat) (x : AV), xs[i]? = some x → x.isCell = true ∧ ∃ v, vs[i]? = some v ∧ Rel σ I w x v := by
  constructor
  · rintro ⟨h1, h2, h3⟩
    refine ⟨h1, fun i x hx => ?_⟩
    obtain ⟨hlt, rfl⟩ := List.getElem?_eq_some_iff.1 hx
    refine ⟨h2 i hlt, vs.getD i undef, ?_, h3 i hlt⟩
    rw [Array.getD_eq_getD_getElem?, Array.getElem?_eq_getElem (by omega)]; rfl
  · rintro ⟨h1, h2⟩
    refine ⟨h1, fun i hi => (h2 i _ (List.getElem?_eq_getElem hi)).1, fun i hi => ?_⟩
    obtain ⟨_, v, hv, hr⟩ := h2 i _ (List.getElem?_eq_getElem hi)
    rw [Array.getD_eq_getD_getElem?, hv]; exact hr

theorem splice_length {xs ys : List AV} {off : Nat} (h : off + ys.length ≤ xs.length) : (splice xs off ys).length = xs.length := by
  simp [splice]; omega
theorem splice_get {xs ys : List AV} {off i : Nat} (h : off + ys.length ≤ xs.length) : (splice xs off ys)[i]? = if i < off then xs[i]? else if i < off + ys.length then ys[i - off]? else xs[i]? := by
  unfold splice
  rw [List.getElem?_append, List.getElem?_append]
  simp only [List.length_append, List.length_take, Nat.min_eq_left (show off ≤ xs.length by omega)]
  by_cases h1 : i < off
  · rw [if_pos (show i < off + ys.length by omega), if_pos h1, if_pos h1, List.getElem?_take_of_lt h1]
  · by_cases h2 : i < off + ys.length
    · rw [if_pos h2, if_neg h1, if_neg h1, if_pos h2]
    · rw [if_neg h2, if_neg h1, if_neg h2, List.getElem?_drop]; congr 1; omega

theorem foldl_set (news : List Value) (off : Nat) : ∀ (k : Nat) (cur : Array Value), off + k + news.length ≤ cur.size →
    ((news.zipIdx k).foldl (fun cs p => cs.setIfInBounds (off + p.2) p.1) cur).size = cur.size ∧
    ∀ i, ((news.zipIdx k).foldl (fun cs p => cs.setIfInBounds (off + p.2) p.1) cur)[i]? = if i < off + k then cur[i]? else if i < off + k + news.length then news[i - (off + k)]? else cur[i]? := by
  induction news with
  | nil => intro k cur _; refine ⟨rfl, fun i => ?_⟩; simp; intro a b; omega
  | cons v r ih =>
    intro k cur h
    simp only [List.length_cons] at h
    obtain ⟨h1, h2⟩ := ih (k + 1) (cur.setIfInBounds (off + k) v) (by simp; omega)
    simp only [List.zipIdx_cons, List.foldl_cons]
    refine ⟨by rw [h1]; simp, fun i => ?_⟩
    rw [h2 i, Array.getElem?_setIfInBounds]
    simp only [List.length_cons]
    by_cases a : i < off + k
    · rw [if_pos (by omega), if_neg (by omega), if_pos a]
    · by_cases b : i = off + k
      · subst b
        rw [if_pos (by omega), if_pos rfl, if_pos (by omega), if_neg (by omega), if_pos (by omega)]
        simp
      · rw [if_neg (show ¬ i < off + (k + 1) by omega), if_neg a]
        by_cases d : i < off + (k + 1) + r.length
        · rw [if_pos d, if_pos (by omega), show i - (off + k) = i - (off + (k + 1)) + 1 from by omega]; simp
        · rw [if_neg d, if_neg (by omega), if_neg (by omega)]

theorem foldl_set' (news : Array Value) (off : Nat) (cur : Array Value) (h : off + news.size ≤ cur.size) :
    (news.zipIdx.foldl (fun cs (p : Value × Nat) => cs.setIfInBounds (off + p.2) p.1) cur).size = cur.size ∧
    ∀ i, (news.zipIdx.foldl (fun cs (p : Value × Nat) => cs.setIfInBounds (off + p.2) p.1) cur)[i]? = if i < off then cur[i]? else if i < off + news.size then news[i - off]? else cur[i]? := by
  have := foldl_set news.toList off 0 cur (by simpa using h)
  rw [← Array.foldl_toList, Array.toList_zipIdx]
  simpa using this

theorem relCells_splice {xs ys : List AV} {vs us : Array Value} {off : Nat} (hx : RelCells σ I w xs vs) (hy : RelCells σ I w ys us) (h : off + ys.length ≤ xs.length) :
    RelCells σ I w (splice xs off ys) (us.zipIdx.foldl (fun cs (p : Value × Nat) => cs.setIfInBounds (off + p.2) p.1) vs) := by
  obtain ⟨f1, f2⟩ := foldl_set' us off vs (by rw [hy.size, hx.size]; exact h)
  rw [relCells_iff]
  refine ⟨by rw [f1, splice_length h, hx.size], fun i x hi => ?_⟩
  rw [splice_get h] at hi
  rw [f2 i, hy.size]
  split at hi
  · rename_i h1
    rw [if_pos h1]; exact (relCells_iff.1 hx).2 i x hi
  · rename_i h1
    rw [if_neg h1]
    split at hi
    · rename_i h2
      rw [if_pos h2]; exact (relCells_iff.1 hy).2 _ x hi
    · rename_i h2
      rw [if_neg h2]; exact (relCells_iff.1 hx).2 i x hi

theorem fill_sound {place : Nat → Option (Nat × Nat)} {placeM : Nat → Option (Nat × Nat)} (hp : ∀ k o, place k = some o → placeM k = some o) :
    ∀ (parts : List (Nat × AV)) (partsM : List (Nat × Value)) (xs zs : List AV) (vs : Array Value),
      parts.length = partsM.length → (∀ (i : Nat) (p : Nat × AV) (q : Nat × Value), parts[i]? = some p → partsM[i]? = some q → p.1 = q.1 ∧ Rel σ I w p.2 q.2) →
      RelCells σ I w xs vs → fillA place xs parts = some zs → ∃ us, Instr.fill placeM vs partsM = some us ∧ RelCells σ I w zs us
  | [], [], xs, zs, vs, _, _, hx, h => by obtain rfl := Option.some.inj h; exact ⟨vs, rfl, hx⟩
  | [], _ :: _, _, _, _, hl, _, _, _ => by simp at hl
  | _ :: _, [], _, _, _, hl, _, _, _ => by simp at hl
  | (i, v) :: rest, (j, u) :: restM, xs, zs, vs, hl, hr, hx, h => by
    simp only [fillA] at h
    obtain ⟨os, hos, h⟩ := obind_inv h
    obtain ⟨vc, hvc, h⟩ := obind_inv h
    obtain ⟨⟨hsz, hle⟩, h⟩ := guardO_inv h
    obtain ⟨e1, e2⟩ := hr 0 _ _ rfl rfl
    simp only at e1 e2
    subst e1
    have hcs := relCells_cellsV hvc e2
    obtain ⟨us, hus, hrel⟩ := fill_sound hp rest restM _ zs _ (by simpa using hl) (fun k p q hpk hqk => hr (k + 1) p q (by simpa using hpk) (by simpa using hqk)) (relCells_splice hx hcs (by rw [hsz]; exact hle)) h
    refine ⟨us, ?_, hrel⟩
    have hs : ¬ (u.cells.size ≠ os.2) := by rw [hcs.size, hsz]; simp
    have hs2 : ¬ (os.1 + u.cells.size > vs.size) := by rw [hcs.size, hsz, hx.size]; omega
    simp only [Instr.fill, hp i os hos]
    rw [if_neg (by simp only [Bool.or_eq_true, decide_eq_true_eq]; exact fun hh => hh.elim hs hs2)]
    exact hus

/-- The cells of a list of values, one each. -/
theorem seqA_sound {z : Nat} (hz : z = 1) {placeM : Nat → Option (Nat × Nat)} (hp : ∀ k, placeM k = some (k * z, z)) :
    ∀ (parts : List (Nat × AV)) (partsM : List (Nat × Value)) (k : Nat) (cs pre : List AV) (vs : Array Value),
      parts.length = partsM.length → (∀ (i : Nat) (p : Nat × AV) (q : Nat × Value), parts[i]? = some p → partsM[i]? = some q → p.1 = q.1 ∧ Rel σ I w p.2 q.2) →
      (∃ suf, RelCells σ I w (pre ++ suf) vs ∧ suf.length = parts.length) → pre.length = k → seqA k parts = some cs →
      ∃ us, Instr.fill placeM vs partsM = some us ∧ RelCells σ I w (pre ++ cs) us
  | [], [], k, cs, pre, vs, _, _, hx, _, h => by
    obtain rfl := Option.some.inj h
    obtain ⟨suf, h1, h2⟩ := hx
    simp at h2; subst h2
    exact ⟨vs, rfl, h1⟩
  | [], _ :: _, _, _, _, _, hl, _, _, _, _ => by simp at hl
  | _ :: _, [], _, _, _, _, hl, _, _, _, _ => by simp at hl
  | (i, v) :: rest, (j, u) :: restM, k, cs, pre, vs, hl, hr, hx, hk, h => by
    simp only [seqA] at h
    obtain ⟨hi, h⟩ := guardO_inv h
    obtain ⟨c, hc, h⟩ := obind_inv h
    obtain ⟨r, hrr, h⟩ := obind_inv h
    obtain rfl := Option.some.inj h
    have hvc : cellsV v = some [c] := by
      split at hc
      · rename_i c' hc'; obtain rfl := Option.some.inj hc; exact hc'
      · cases hc
    obtain ⟨e1, e2⟩ := hr 0 _ _ rfl rfl
    simp only at e1 e2
    subst e1
    have hcs := relCells_cellsV hvc e2
    obtain ⟨suf, hx1, hx2⟩ := hx
    cases suf with
    | nil => simp at hx2
    | cons s0 suf =>
      have hlen : k + 1 ≤ (pre ++ s0 :: suf).length := by simp; omega
      have hsp := relCells_splice (off := k) hx1 hcs hlen
      have hsp' : splice (pre ++ s0 :: suf) k [c] = (pre ++ [c]) ++ suf := by
        subst hk
        unfold splice
        have e0 : pre ++ s0 :: suf = (pre ++ [s0]) ++ suf := by simp
        rw [List.take_left' rfl, e0, List.drop_left' (by simp)]
      rw [hsp'] at hsp
      obtain ⟨us, hus, hrel⟩ := seqA_sound hz hp rest restM (k + 1) r (pre ++ [c]) _ (by simpa using hl) (fun m p q hpk hqk => hr (m + 1) p q (by simpa using hpk) (by simpa using hqk)) ⟨suf, hsp, by simpa using hx2⟩ (by simp [hk]) hrr
      refine ⟨us, ?_, by simpa using hrel⟩
      subst hi
      have hs : ¬ (u.cells.size ≠ z) := by rw [hcs.size, hz]; simp
      have hs2 : ¬ (i * z + u.cells.size > vs.size) := by rw [hcs.size, hx1.size, hz]; simp only [List.length_singleton]; omega
      simp only [Instr.fill, hp i]
      rw [if_neg (by simp only [Bool.or_eq_true, decide_eq_true_eq]; exact fun hh => hh.elim hs hs2)]
      have e3 : i * z = i := by rw [hz]; omega
      rw [e3]
      exact hus

theorem relCells_zero {zs : List AV} {z : Value} (hz : zs = z.cells.toList.map ofV1) (h1 : ∀ x ∈ z.cells.toList, x.oneCell' = true) : RelCells σ I w zs z.cells := by
  subst hz
  rw [relCells_iff]
  refine ⟨by simp, fun i x hx => ?_⟩
  rw [List.getElem?_map] at hx
  obtain ⟨v, hv, rfl⟩ := Option.map_eq_some_iff.1 hx
  exact ⟨isCell_ofV1 (h1 v (List.mem_of_getElem? hv)), v, by simpa using hv, rel_ofV1 v⟩

theorem runV {s : Sem Value} {v : Value} {w' : World} (h : s.run P w = .ok v w') : (do pure (Next.value (← s)) : Sem Next).run P w = .ok (.value v) w' := by
  simp [h]
theorem runU {s : Sem Unit} {w' : World} (h : s.run P w = .ok () w') : (do s; pure Next.skip : Sem Next).run P w = .ok .skip w' := by
  simp [h]

theorem map_rel {l : List Operand} {ρA : Operand → AV} {ρ : Operand → Value} (hρ : ∀ y, Rel σ I w (ρA y) (ρ y)) : ∀ i (h : i < (l.map ρA).length), Rel σ I w (l.map ρA)[i] ((l.map ρ).toArray.getD i undef) := by
  intro i hi
  simp at hi
  rw [getD_list, List.getD_eq_getElem?_getD, List.getElem?_map, List.getElem?_eq_getElem hi, List.getElem_map]
  exact hρ _

theorem parts_rel {parts : Array (Nat × Operand)} {ρA : Operand → AV} {ρ : Operand → Value} (hρ : ∀ y, Rel σ I w (ρA y) (ρ y)) :
    ∀ (i : Nat) (p : Nat × AV) (q : Nat × Value), (parts.toList.map fun p => (p.1, ρA p.2))[i]? = some p → ((parts.map fun (i, x) => (i, ρ x)).toList)[i]? = some q → p.1 = q.1 ∧ Rel σ I w p.2 q.2 := by
  intro i p q hp hq
  rw [List.getElem?_map] at hp
  obtain ⟨a, ha, rfl⟩ := Option.map_eq_some_iff.1 hp
  rw [Array.toList_map, List.getElem?_map] at hq
  obtain ⟨b, hb, rfl⟩ := Option.map_eq_some_iff.1 hq
  rw [ha] at hb
  obtain rfl := Option.some.inj hb
  exact ⟨rfl, hρ _⟩

end
end Go.AX
