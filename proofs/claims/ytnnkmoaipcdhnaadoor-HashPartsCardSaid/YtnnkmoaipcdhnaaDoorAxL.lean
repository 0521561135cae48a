/-
  AX, part L: store, append, copy.
-/
import Derived.Test.YtnnkmoaipcdhnaaDoorAxK
namespace Go.AX
open Go
section
variable {P : Program} {c : Ctx} {σ : Nat → Loc} {I : Nat → Prop} {w : World} {hp : H} {un : Nat → Prop}

/-- What an append or a copy takes its cells from. -/
structure Src (P : Program) (σ : Nat → Loc) (I : Nat → Prop) (w : World) (z : Nat) (v : Value) (m : Nat) (ys : List AV) (news : List Value) : Prop where
  len : (Builtin.lenOf v).run P w = .ok m w
  first : ∀ w' : World, w'.heap = w.heap → ∀ k, k ≤ m → (Builtin.firstCells z k v).run P w' = .ok (news.take (k * z)).toArray w'
  size : ys.length = m * z
  nsize : news.length = ys.length
  rel : ∀ i (_h : i < ys.length), ys[i].isCell = true ∧ Rel σ I w ys[i] (news.getD i undef)

theorem src_run {z m : Nat} {y : AV} {ys : List AV} {v : Value} (h : srcA hp z y = some (m, ys)) (hy : Rel σ I w y v) (hown : ∀ id o, hp id = some o → OwnRel σ I w id o) :
    ∃ news, Src P σ I w z v m ys news := by
  have other : slCells hp z y = some (m, ys) → ∃ news, Src P σ I w z v m ys news := by
    intro h
    obtain ⟨h1, h2, a, cap, vs, rfl, h3, h4, h5⟩ := slCells_run h hy hown
    refine ⟨vs.toList, rfl, fun w' hw' k hk => ?_, h1, by simpa using h3, fun i hi => ⟨h2 i hi, by have := h4 i hi; rwa [← Array.toArray_toList (xs := vs), getD_list] at this⟩⟩
    cases a with
    | none => simp only at h5; subst h5; obtain rfl : k = 0 := by omega
              simp [run_firstCells_none]
    | some a =>
      simp only at h5
      exact run_firstCells_some w' z k a m cap _ (by rw [List.length_take, Array.length_toList, h3, h1]; exact Nat.min_eq_left (Nat.mul_le_mul_right _ hk)) (fun j v hj => by
        rw [List.getElem?_take] at hj
        split at hj
        · have := h5 j v hj; simp only [World.cell?, hw']; exact this
        · cases hj)
  unfold srcA at h
  split at h
  · rename_i l
    obtain ⟨rfl, h⟩ := guardO_inv h
    obtain ⟨rfl, rfl⟩ := Prod.mk.inj (Option.some.inj h)
    obtain rfl := s_inv hy
    refine ⟨l.map fun x => Value.int .u8 (x.toNat : Int), ?_, fun w' _ k hk => ?_, by simp, by simp, fun i hi => ?_⟩
    · simp [Builtin.lenOf, encS_size]
    · simp only [Builtin.firstCells, Sem.run_pure, Nat.mul_one]
      congr 1
      apply Array.ext'
      simp [encS, ByteArray.data_extract, List.map_take, Function.comp_def]
    · simp at hi
      have e : (l.map fun x => Value.int .u8 (x.toNat : Int)).getD i undef = .int .u8 (l[i].toNat : Int) := by
        rw [List.getD_eq_getElem?_getD, List.getElem?_map, List.getElem?_eq_getElem hi]; rfl
      rw [e, List.getElem_map]
      exact ⟨rfl, .w8 _⟩
  · exact other h

theorem noIntT_inv {t : TypeId} (h : noIntT P t = true) : ∃ d, P.underlying t = some d ∧ ∀ k, d ≠ .int k := by
  unfold noIntT at h
  split at h
  · cases h
  · rename_i d hne hd
    exact ⟨d, hd, fun k e => by subst e; exact hne k rfl⟩
  · cases h

section app
variable {t t' ty e : TypeId} {z by_ m : Nat} {v : Value} {ys : List AV} {news : List Value} (ht : P.underlying t = some (.slice e)) (ht' : noIntT P t' = true) (hz : szOf P e = some z) (hby : byOf P e = some by_)
  (hs : Src P σ I w z v m ys news)
include ht ht' hz hs

theorem run_append_in (base : Option Addr) (sLen sCap : Nat) (hroom : sLen + m ≤ sCap) :
    (Builtin.append_ #[t, t'] ty #[.slice base sLen sCap, v]).run P w =
      ((match base with | some a => storeCells (a.add (sLen * z)) news | none => pure () : Sem Unit).run P w).andThen fun _ w' => .ok (.slice base (sLen + m) sCap) w' := by
  obtain ⟨d, hd, hdi⟩ := noIntT_inv ht'
  have hf := hs.first w rfl m (Nat.le_refl _)
  rw [List.take_of_length_le (by rw [hs.nsize, hs.size]; exact Nat.le_refl _)] at hf
  cases d with
  | int k => exact absurd rfl (hdi k)
  | _ =>
    simp only [Builtin.append_, List.getElem?_toArray, List.getElem?_cons_zero, List.getElem?_cons_succ, Sem.run_bind, run_underlying ht, Result.andThen_ok, run_sizeOf' hz, run_underlying hd, Sem.run_pure, Bool.false_eq_true, if_false, hs.len,
      if_pos hroom, Bool.not_false, if_true, hf]
    cases base with
    | none => rfl
    | some a => simp only [Sem.run_bind]; rfl

include hby
theorem run_append_out {zv : Value} (hzv : ∀ w, (zeroValue e).run P w = .ok zv w) (base : Option Addr) (sLen sCap : Nat) (old : List Value) (hold : ∀ w', w'.heap = w.heap → (Builtin.firstCells z sLen (.slice base sLen sCap)).run P w' = .ok old.toArray w')
    (hgrow : sCap < sLen + m) (h63 : sLen + m ≤ 140737488355328) (hb : (sLen + m) * by_ ≤ 140737488355328) :
    (Builtin.append_ #[t, t'] ty #[.slice base sLen sCap, v]).run P w =
      .ok (.slice (some ⟨w.heap.size, 0, none⟩) (sLen + m) (grownCap w (sLen + m) sCap e))
        (w.drew.alloc (.cells (old.toArray ++ news.toArray ++ Builtin.zeroCells zv.cells (grownCap w (sLen + m) sCap e - (sLen + m))) e)) := by
  obtain ⟨d, hd, hdi⟩ := noIntT_inv ht'
  obtain ⟨i, hi, hib⟩ := byOf_inv hby
  have hf := hs.first w.drew rfl m (Nat.le_refl _)
  rw [List.take_of_length_le (by rw [hs.nsize, hs.size]; exact Nat.le_refl _)] at hf
  have hold' := hold w.drew rfl
  have n1 : ¬ sLen + m ≤ sCap := by omega
  have n2 : ¬ (((sLen + m : Nat) : Int) > IntKind.i64.max ∧ (False ∨ i.bytes = 0)) := by
    have e1 : IntKind.i64.max = 9223372036854775807 := by decide
    rw [e1]; omega
  have n3 : ¬ (Builtin.nextslicecap (sLen + m) sCap * i.bytes > 2 ^ 48) := by
    have := growslice_fits hgrow (bytes := by_) hb
    rw [hib]; have e1 : (2 : Nat) ^ 48 = 281474976710656 := by decide
    omega
  cases d with
  | int k => exact absurd rfl (hdi k)
  | _ =>
    simp only [Builtin.append_, List.getElem?_toArray, List.getElem?_cons_zero, List.getElem?_cons_succ, Sem.run_bind, run_underlying ht, Result.andThen_ok, run_sizeOf' hz, run_underlying hd, Sem.run_pure, Bool.false_eq_true, if_false, hs.len,
      if_neg n1, run_typeInfo' hi, Bool.not_false, if_true]
    rw [if_neg n2]
    simp only [Sem.run_bind, run_typeInfo' hi, Result.andThen_ok, if_neg n3]
    simp only [run_choose, Question.forced, Bool.false_eq_true, if_false, Result.andThen_ok, run_askRoom]
    have e0 : ({ w with drawn := w.drawn + 1 } : World) = w.drew := rfl
    simp only [e0, hold', hf, Result.andThen_ok, hzv, newRow, Sem.run_bind, run_newObj, Sem.run_pure]
    rfl
end app

theorem Src.grow {σ' : Nat → Loc} {I' : Nat → Prop} {z : Nat} {v : Value} {m : Nat} {ys : List AV} {news : List Value} (h : Src P σ I w z v m ys news) (ys' : List AV) (hl : ys'.length = ys.length)
    (hr : ∀ i (_h : i < ys'.length), ys'[i].isCell = true ∧ Rel σ' I' w ys'[i] (news.getD i undef)) : Src P σ' I' w z v m ys' news :=
  ⟨h.len, h.first, by rw [hl, h.size], by rw [h.nsize, hl], hr⟩

theorem frzL_sound {ys : List AV} {us : Nat → Value} {p : List AV × H} (h : frzL hp ys = some p) (hi : Inv c σ I w hp un) (hr : ∀ i (_h : i < ys.length), ys[i].isCell = true ∧ Rel σ I w ys[i] (us i)) :
    ∃ I', Inv c σ I' w p.2 un ∧ Grow σ I w σ I' w ∧ p.1.length = ys.length ∧ (∀ i (_h : i < p.1.length), p.1[i].isCell = true ∧ Rel σ I' w p.1[i] (us i)) := by
  unfold frzL at h
  split at h
  · obtain rfl := Option.some.inj h; exact ⟨I, hi, Grow.refl _ _ _, rfl, hr⟩
  · obtain ⟨I', a1, a2, a3, a4, _⟩ := frz_sound ys us h hi hr
    exact ⟨I', a1, a2, a3, a4⟩

structure Src0 (σ : Nat → Loc) (I : Nat → Prop) (w : World) (z m : Nat) (ys : List AV) (news : List Value) : Prop where
  size : ys.length = m * z
  nsize : news.length = ys.length
  rel : ∀ i (_h : i < ys.length), ys[i].isCell = true ∧ Rel σ I w ys[i] (news.getD i undef)

/-- Behind an append: the old own object is gone, the new one holds all. -/
theorem append_core {t t' ty e : TypeId} {x z0 : AV} {a b : Value} {id z by_ m : Nat} {ys' : List AV} {news : List Value} {hp1 hp' : H} {I1 : Nat → Prop} {zv : Value} (hi1 : Inv c σ I1 w hp1 un) (hu : un id) (hg1 : Grow σ I w σ I1 w)
    (hx1 : Rel σ I1 w x a) (hsrc1 : Src0 σ I1 w z m ys' news) (hzs' : zv.cells.size = z)
    (hin : ∀ (base : Option Addr) (sLen sCap : Nat) (_hroom : sLen + m ≤ sCap), (Builtin.append_ #[t, t'] ty #[.slice base sLen sCap, b]).run P w =
      ((match base with | some a => storeCells (a.add (sLen * z)) news | none => pure () : Sem Unit).run P w).andThen fun _ w' => .ok (.slice base (sLen + m) sCap) w')
    (hout : ∀ (base : Option Addr) (sLen sCap : Nat) (old : List Value) (_hold : ∀ w', w'.heap = w.heap → (Builtin.firstCells z sLen (.slice base sLen sCap)).run P w' = .ok old.toArray w')
      (_hgrow : sCap < sLen + m) (_h63 : sLen + m ≤ 140737488355328) (_hb : (sLen + m) * by_ ≤ 140737488355328), (Builtin.append_ #[t, t'] ty #[.slice base sLen sCap, b]).run P w =
      .ok (.slice (some ⟨w.heap.size, 0, none⟩) (sLen + m) (grownCap w (sLen + m) sCap e))
        (w.drew.alloc (.cells (old.toArray ++ news.toArray ++ Builtin.zeroCells zv.cells (grownCap w (sLen + m) sCap e - (sLen + m))) e)))
    (h : apTail z by_ x m ys' hp1 id = some (z0, hp')) :
    ∃ v w' σ' I', (Builtin.append_ #[t, t'] ty #[a, b]).run P w = .ok v w' ∧ Rel σ' I' w' z0 v ∧ Inv c σ' I' w' hp' (fun k => un k ∧ k ≠ id) ∧ Grow σ I w σ' I' w' := by
  unfold apTail at h
  have hr1 := hsrc1.rel
  have nlen : news.length = m * z := by rw [hsrc1.nsize, hsrc1.size]
  /- a new row: what is old, what is new -/
  have grown : ∀ (hp2 : H) (hi2 : Inv c σ I1 w hp2 un) (n cap : Nat) (old : List Value) (xs : List AV), cap < n + m → xs.length = n * z → old.length = xs.length → (∀ i (_h : i < xs.length), xs[i].isCell = true ∧ Rel σ I1 w xs[i] (old.getD i undef)) →
      ∃ σ', Rel σ' I1 (w.drew.alloc (.cells (old.toArray ++ news.toArray ++ Builtin.zeroCells zv.cells (grownCap w (n + m) cap e - (n + m))) e)) (.os id 0 (n + m) z true) (.slice (some ⟨w.heap.size, 0, none⟩) (n + m) (grownCap w (n + m) cap e)) ∧
        Inv c σ' I1 (w.drew.alloc (.cells (old.toArray ++ news.toArray ++ Builtin.zeroCells zv.cells (grownCap w (n + m) cap e - (n + m))) e)) (upd hp2 id (.cells (xs ++ ys') true)) (fun k => un k ∧ k ≠ id) ∧
        Grow σ I1 w σ' I1 (w.drew.alloc (.cells (old.toArray ++ news.toArray ++ Builtin.zeroCells zv.cells (grownCap w (n + m) cap e - (n + m))) e)) := by
    intro hp2 hi2 n cap old xs hlt hxl hol hor
    have hge := grownCap_ge w (n + m) cap e
    have hsize : (old.toArray ++ news.toArray ++ Builtin.zeroCells zv.cells (grownCap w (n + m) cap e - (n + m))).size = grownCap w (n + m) cap e * z := by
      simp only [Array.size_append, List.size_toArray, size_zeroCells, hzs', hol, hxl, nlen, ← Nat.add_mul]
      congr 1; omega
    have hxy : (xs ++ ys').length = (n + m) * z := by rw [List.length_append, hxl, hsrc1.size, Nat.add_mul]
    have hle : (n + m) * z ≤ grownCap w (n + m) cap e * z := Nat.mul_le_mul_right _ hge
    obtain ⟨σ', hinv, hloc, hg⟩ := make_new hi2 hu w.drew ⟨rfl, rfl, rfl, rfl⟩ (old.toArray ++ news.toArray ++ Builtin.zeroCells zv.cells (grownCap w (n + m) cap e - (n + m))) e (0, 0) ⟨Nat.le_refl _, fun _ _ => by omega⟩ (xs ++ ys')
      (by rw [hsize, hxy]; exact hle) (fun i x hx => by
        rw [List.getElem?_append] at hx
        rw [Array.append_assoc, Array.getElem?_append]
        simp only [List.size_toArray, hol]
        split at hx
        · rename_i hlt
          obtain ⟨_, rfl⟩ := List.getElem?_eq_some_iff.1 hx
          rw [if_pos hlt]
          refine ⟨(hor i hlt).1, _, ?_, (hor i hlt).2⟩
          rw [List.getElem?_toArray, List.getElem?_eq_getElem (by omega), List.getD_eq_getElem?_getD, List.getElem?_eq_getElem (by omega)]; rfl
        · rename_i hge'
          obtain ⟨hlt, rfl⟩ := List.getElem?_eq_some_iff.1 hx
          rw [if_neg hge', Array.getElem?_append_left (by simp [hsrc1.nsize]; exact hlt)]
          refine ⟨(hr1 _ hlt).1, _, ?_, (hr1 _ hlt).2⟩
          have := hsrc1.nsize
          rw [List.getElem?_toArray, List.getElem?_eq_getElem (by omega), List.getD_eq_getElem?_getD, List.getElem?_eq_getElem (by omega)]; rfl)
    exact ⟨σ', .os id 0 (n + m) z true _ 0 _ _ hloc hge (fun _ => by rw [hsize]; omega), hinv, hg⟩
  split at h
  · replace h := guardO_inv h; obtain ⟨⟨hm1, hm2⟩, h⟩ := h
    obtain ⟨rfl, rfl⟩ := Prod.mk.inj (Option.some.inj h)
    cases hx1
    by_cases hm : m = 0
    · subst hm
      have hrun := hin none 0 0 (by omega)
      have hnil := hi1.newNil hu
      have hys : ys' = [] := List.eq_nil_of_length_eq_zero (by rw [hsrc1.size]; simp)
      subst hys
      exact ⟨.slice none 0 0, w, _, I1, hrun, .osnil _ _ _ (by simp [setLoc]), hnil, hg1.trans ⟨setLoc_ext (hi1.un id hu), fun _ h => h, fun _ _ => rfl⟩⟩
    · obtain ⟨σ', r1, r2, r3⟩ := grown hp1 hi1 0 0 [] [] (by omega) (by simp) rfl (fun i hi => by simp at hi)
      have hrun := hout none 0 0 [] (fun w' _ => run_firstCells_none w' z 0 0 0) (by omega) (by omega) (by rw [Nat.zero_add]; exact hm2)
      rw [Nat.zero_add] at hrun r1
      simp only [Nat.zero_add, List.nil_append] at r1 r2 r3 hrun
      exact ⟨_, _, σ', I1, hrun, r1, r2, hg1.trans r3⟩
  · rename_i i off n e' g
    replace h := obind_inv h; obtain ⟨o, ho, h⟩ := h
    obtain ⟨xs, mt⟩ := o
    simp only at h
    replace h := guardO_inv h; obtain ⟨⟨hmt, hgt, hez, hend, hb1, hb2⟩, h⟩ := h
    obtain ⟨rfl, rfl⟩ := Prod.mk.inj (Option.some.inj h)
    subst hmt
    subst hez
    subst hgt
    have hown := hi1.own i _ ho
    have hdel : Inv c σ I1 w (del hp1 i) un := hi1.sub (del_sub hp1 i)
    have hxl : (xs.drop off).length = n * e' := by simp; omega
    have hne : i ≠ id := fun e => by subst e; rw [hi1.none_un hu] at ho; cases ho
    have zero : ∀ (base : Option Addr) (hh : ∀ w' : World, w'.heap = w.heap → (Builtin.firstCells e' 0 (.slice base 0 0)).run P w' = .ok #[] w') (hn : n = 0) (hσ : σ i ≠ .unset),
        ∃ v w' σ' I', (Builtin.append_ #[t, t'] ty #[.slice base 0 0, b]).run P w = .ok v w' ∧ Rel σ' I' w' (.os id 0 (n + m) e' true) v ∧ Inv c σ' I' w' (upd (del hp1 i) id (.cells (xs.drop off ++ ys') true)) (fun k => un k ∧ k ≠ id) ∧ Grow σ I w σ' I' w' := by
      intro base hh hn hσ
      subst hn
      have hd0 : xs.drop off = [] := List.eq_nil_of_length_eq_zero (by rw [hxl]; simp)
      by_cases hm : m = 0
      · subst hm
        have hrun := hin base 0 0 (by omega)
        have hn0 : news = [] := List.eq_nil_of_length_eq_zero (by rw [nlen]; simp)
        subst hn0
        have hnil := hdel.newNil hu
        have hys : ys' = [] := List.eq_nil_of_length_eq_zero (by rw [hsrc1.size]; simp)
        subst hys
        rw [hd0]
        have hrun' : (Builtin.append_ #[t, t'] ty #[.slice base 0 0, b]).run P w = .ok (.slice base 0 0) w := by
          rw [hrun]; cases base <;> rfl
        cases base with
        | none => exact ⟨.slice none 0 0, w, _, I1, hrun', .osnil _ _ _ (by simp [setLoc]), hnil, hg1.trans ⟨setLoc_ext (hi1.un id hu), fun _ h => h, fun _ _ => rfl⟩⟩
        | some a => exact ⟨.slice (some a) 0 0, w, _, I1, hrun', .oszero _ _ _ _ _ (by simp [setLoc]), hnil, hg1.trans ⟨setLoc_ext (hi1.un id hu), fun _ h => h, fun _ _ => rfl⟩⟩
      · rw [hd0]
        obtain ⟨σ', r1, r2, r3⟩ := grown (del hp1 i) hdel 0 0 [] [] (by omega) (by simp) rfl (fun i hi => by simp at hi)
        have hrun := hout base 0 0 [] hh (by omega) (by omega) hb2
        exact ⟨_, _, σ', I1, hrun, r1, r2, hg1.trans r3⟩
    cases hx1 with
    | osnil _ _ _ g1 => exact zero none (fun w' _ => run_firstCells_none w' e' 0 0 0) rfl (by rw [g1]; simp)
    | oszero _ _ _ _ a g1 => exact zero (some a) (fun w' _ => by simp [Builtin.firstCells, loadCells, loadCellsFrom]) rfl g1
    | os _ _ _ _ _ blk base sz cap g1 g2 g3 =>
      replace g3 := g3 rfl
      have hrow := own_row hown g1
      have hlen := own_len hown g1
      by_cases hroom : n + m ≤ cap
      · have hrun := hin (some ⟨blk, base + off, none⟩) n cap hroom
        simp only [add_off] at hrun
        have hfit : base + xs.length + ys'.length ≤ sz := by
          rw [hsrc1.size]
          have : (n + m) * e' ≤ cap * e' := Nat.mul_le_mul_right _ hroom
          rw [Nat.add_mul] at this
          omega
        /- the cells are laid behind the old ones, in the same block: the object is another one now -/
        have key : ∃ w' σ', (storeCells ⟨blk, base + off + n * e', none⟩ news 0).run P w = .ok () w' ∧ Inv c σ' I1 w' (upd (del hp1 i) id (.cells (xs.drop off ++ ys') true)) (fun k => un k ∧ k ≠ id) ∧ σ' id = .at_ blk (base + off) sz ∧ Grow σ I1 w σ' I1 w' := by
          simp only [OwnRel, g1] at hown
          obtain ⟨⟨⟨cs, T, lo, hi_, q1, q2, q3, q4, q5⟩, q6⟩, q7, _⟩ := hown
          have hnI := q7 trivial
          have h1 : ∀ v ∈ news, v.oneCell' = true := by
            intro v hv
            obtain ⟨k, hk, rfl⟩ := List.getElem_of_mem hv
            have hk' : k < ys'.length := by rw [← hsrc1.nsize]; exact hk
            have := (hr1 k hk').2
            rw [List.getD_eq_getElem?_getD, List.getElem?_eq_getElem hk] at this
            exact this.oneCell (hr1 k hk').1
          obtain ⟨w', r1, r2, r3, r4, r5, r6, cur', r7, r8, r9⟩ := run_storeCells_row (P := P) blk (base + off + n * e') T lo hi_ news 0 cs w q1 (by rw [q2]; exact q4.out) (by rw [hsrc1.nsize, q2]; omega) h1
          have hw : ∀ k, I1 k → w'.heap[k]? = w.heap[k]? := fun k hk => r6 k (fun e => hnI (e ▸ hk))
          have hσ := setLoc_ext (l := .at_ blk (base + off) sz) (hi1.un id hu)
          have lim := hi1.lim i xs blk base sz ho g1
          have other : ∀ k o, k ≠ i → hp1 k = some o → ∀ blk' base' sz', σ k = .at_ blk' base' sz' → blk' ≠ blk := by
            intro k o hk hko blk' base' sz' e eb
            subst eb
            exact hi1.inj i k xs o blk' base sz base' sz' ho hko (Ne.symm hk) g1 e
          have get : ∀ k o, upd (del hp1 i) id (.cells (xs.drop off ++ ys') true) k = some o → (k = id ∧ o = .cells (xs.drop off ++ ys') true) ∨ (k ≠ id ∧ k ≠ i ∧ hp1 k = some o) := by
            intro k o hk
            rw [upd_apply] at hk
            split at hk
            · rename_i e; exact .inl ⟨e, (Option.some.inj hk).symm⟩
            · rename_i e
              rw [del_apply] at hk
              split at hk
              · cases hk
              · rename_i e2; exact .inr ⟨e, e2, hk⟩
          refine ⟨w', setLoc σ id (.at_ blk (base + off) sz), r1, ?_, by simp [setLoc], ⟨hσ, fun _ h => h, hw⟩⟩
          refine ⟨fun k hk => ?_, hi1.imm, fun k hk => ?_, by rw [r2]; exact hi1.os, by rw [r3]; exact hi1.tape, by rw [r4]; exact hi1.output, by rw [r5]; exact hi1.size, fun k hk hO => ?_, fun k hk => by rw [r5]; exact hi1.ilt k hk, ?_, ?_, ?_, ?_, fun g zs hg => (hi1.glob g zs hg).mono hσ (fun _ h => h) hw, hi1.inew⟩
          · have := hi1.ext k hk
            rw [hσ k (by rw [this]; exact hk), this]
          · rw [hw k (hi1.imm k hk)]; exact hi1.iw k hk
          · by_cases e : k = blk
            · subst e
              rcases lim with lim | lim
              · omega
              · exact absurd lim hO
            · rw [r6 k e]; exact hi1.old k hk hO
          · intro k o hk
            rcases get k o hk with ⟨rfl, rfl⟩ | ⟨e1, e2, e3⟩
            · simp only [OwnRel, setLoc, if_true]
              have hcell : ∀ j (_h : j < (xs.drop off ++ ys').length), (xs.drop off ++ ys')[j].isCell = true := by
                intro j hj
                rw [List.getElem_append]
                split
                · rw [getElem_drop']; exact q6 _ _
                · exact (hr1 _ _).1
              refine ⟨⟨⟨cur', T, lo, hi_, r7, by rw [r8]; exact q2, by rw [List.length_append, hxl]; omega, q4, fun j hj => ?_⟩, hcell⟩, fun _ => hnI, fun hm => by simp at hm⟩
              refine Rel.mono (σ := σ) (I := I1) (w := w) ?_ hσ (fun _ h => h) hw
              rw [Array.getD_eq_getD_getElem?, r9]
              rw [List.getElem_append]
              split
              · rename_i hlt
                rw [getElem_drop', if_pos (by rw [hxl] at hlt; omega)]
                have := q5 (off + j) (by rw [hxl] at hlt; omega)
                rw [Array.getD_eq_getD_getElem?] at this
                rw [show base + off + j = base + (off + j) from by omega]; exact this
              · rename_i hge
                have hj' : j - (xs.drop off).length < ys'.length := by rw [List.length_append] at hj; omega
                have hns := hsrc1.nsize
                rw [if_neg (by rw [hxl] at hge; omega), if_pos (by rw [hxl] at hge hj'; omega)]
                have := (hr1 _ hj').2
                rw [List.getD_eq_getElem?_getD] at this
                rw [show base + off + j - (base + off + n * e' + 0) = j - (xs.drop off).length from by rw [hxl]; omega]; exact this
            · exact (hi1.own k o e3).mono hσ (fun _ h => h) hw fun blk' base' sz' e => ⟨r6 blk' (other k o e2 e3 blk' base' sz' e), fun _ h => h⟩
          · intro k k' xs' o' blk1 base1 sz1 base2 sz2 h1 h2 hn e1 e2
            rcases get k _ h1 with ⟨rfl, _⟩ | ⟨a1, a2, a3⟩
            · rcases get k' _ h2 with ⟨rfl, _⟩ | ⟨b1, b2, b3⟩
              · exact hn rfl
              · simp only [setLoc, if_true, Loc.at_.injEq] at e1
                simp only [setLoc, if_neg b1] at e2
                exact other k' o' b2 b3 blk1 base2 sz2 e2 e1.1.symm
            · simp only [setLoc, if_neg a1] at e1
              rcases get k' _ h2 with ⟨rfl, _⟩ | ⟨b1, b2, b3⟩
              · simp only [setLoc, if_true, Loc.at_.injEq] at e2
                exact other k _ a2 a3 blk1 base1 sz1 e1 e2.1.symm
              · simp only [setLoc, if_neg b1] at e2
                exact hi1.inj k k' xs' o' blk1 base1 sz1 base2 sz2 a3 b3 hn e1 e2
          · intro k xs' blk1 base1 sz1 h1 e1
            rcases get k _ h1 with ⟨rfl, _⟩ | ⟨a1, a2, a3⟩
            · simp only [setLoc, if_true, Loc.at_.injEq] at e1
              rw [← e1.1]; exact lim
            · simp only [setLoc, if_neg a1] at e1
              exact hi1.lim k xs' blk1 base1 sz1 a3 e1
          · intro k ⟨hk, hn⟩
            simp only [setLoc, if_neg hn]
            exact hi1.un k hk
        obtain ⟨w', σ', k1, k2, k3, k4⟩ := key
        simp only [k1, Result.andThen_ok] at hrun
        refine ⟨_, w', σ', I1, hrun, ?_, k2, hg1.trans k4⟩
        have := Rel.os (σ := σ') (I := I1) (w := w') id 0 (n + m) e' true blk (base + off) sz cap k3 hroom (fun _ => by omega)
        exact this
      · have hold : ∀ w' : World, w'.heap = w.heap → (Builtin.firstCells e' n (.slice (some ⟨blk, base + off, none⟩) n cap)).run P w' = .ok ((List.range (n * e')).map fun j => (w.cell? ⟨blk, base + off + j, none⟩).getD undef).toArray w' := by
          intro w' hw'
          refine run_firstCells_some w' e' n _ n cap _ (by simp) (fun j v hj => ?_)
          rw [List.getElem?_map] at hj
          obtain ⟨k, hk, rfl⟩ := Option.map_eq_some_iff.1 hj
          rw [List.getElem?_eq_some_iff] at hk
          obtain ⟨hlt, hk⟩ := hk
          simp at hlt hk
          subst hk
          obtain ⟨v, hv, _⟩ := hrow.get (off + j) (by omega)
          rw [← Nat.add_assoc] at hv
          rw [add_off]
          simp only [World.cell?, hw'] at hv ⊢
          rw [hv]; rfl
        obtain ⟨σ', r1, r2, r3⟩ := grown (del hp1 i) hdel n cap ((List.range (n * e')).map fun j => (w.cell? ⟨blk, base + off + j, none⟩).getD undef) (xs.drop off) (by omega) hxl (by rw [hxl, List.length_map, List.length_range]) (fun j hj => by
          rw [hxl] at hj
          rw [getElem_drop']
          obtain ⟨v, hv, hc, hr⟩ := hrow.get (off + j) (by omega)
          rw [← Nat.add_assoc] at hv
          refine ⟨hc, ?_⟩
          rw [List.getD_eq_getElem?_getD, List.getElem?_map, List.getElem?_range hj]
          simp only [Option.map_some, hv, Option.getD_some]
          exact hr)
        have hrun := hout (some ⟨blk, base + off, none⟩) n cap _ hold (by omega) (by omega) hb2
        exact ⟨_, _, σ', I1, hrun, r1, r2, hg1.trans r3⟩
  · cases h

theorem zeroCells_get {z : Array Value} {n i : Nat} (h : i < n * z.size) : (Builtin.zeroCells z n)[i]? = z[i % z.size]? := by
  have hz : 0 < z.size := by
    rcases Nat.eq_zero_or_pos z.size with e | e
    · rw [e] at h; omega
    · exact e
  have hm := Nat.mod_lt i hz
  simp only [Builtin.zeroCells, Array.getElem?_map]
  rw [Array.getElem?_eq_getElem (by simpa using h)]
  simp only [Array.getElem_range, Option.map_some]
  rw [Array.getElem?_eq_getElem hm, getElem!_pos z _ hm]

theorem zero_facts {e : TypeId} {z : Nat} {zs : List AV} (hzs : zcells P e = some zs) (hzl : zs.length = z) : ∃ zv : Value, (∀ w, (zeroValue e).run P w = .ok zv w) ∧ zv.cells.size = z ∧ zs = zv.cells.toList.map ofV1 ∧ ∀ x ∈ zv.cells.toList, x.oneCell' = true := by
  obtain ⟨zv, _, hzero, _, _⟩ := run_zeroValue' hzs (default : World)
  refine ⟨zv, fun w => ?_, ?_, ?_, ?_⟩
  · obtain ⟨zv', h1, h2, _⟩ := run_zeroValue' hzs w
    rw [hzero] at h2; obtain rfl := Option.some.inj h2; exact h1
  · obtain ⟨zv', _, h2, h3, _⟩ := run_zeroValue' hzs (default : World)
    rw [hzero] at h2; obtain rfl := Option.some.inj h2
    rw [← hzl, h3]; simp
  · obtain ⟨zv', _, h2, h3, _⟩ := run_zeroValue' hzs (default : World)
    rw [hzero] at h2; obtain rfl := Option.some.inj h2
    exact h3
  · obtain ⟨zv', _, h2, _, h4⟩ := run_zeroValue' hzs (default : World)
    rw [hzero] at h2; obtain rfl := Option.some.inj h2
    exact h4

theorem append_sound {t t' ty : TypeId} {x y z0 : AV} {a b : Value} {id : Nat} {hp' : H} (h : appendA P t x y hp id = some (z0, hp')) (ht' : noIntT P t' = true) (hx : Rel σ I w x a) (hy : Rel σ I w y b)
    (hi : Inv c σ I w hp un) (hu : un id) :
    ∃ v w' σ' I', (Builtin.append_ #[t, t'] ty #[a, b]).run P w = .ok v w' ∧ Rel σ' I' w' z0 v ∧ Inv c σ' I' w' hp' (fun k => un k ∧ k ≠ id) ∧ Grow σ I w σ' I' w' := by
  unfold appendA at h
  split at h
  rotate_left
  · cases h
  rename_i e ht
  replace h := obind_inv h; obtain ⟨z, hz, h⟩ := h
  replace h := obind_inv h; obtain ⟨by_, hby, h⟩ := h
  replace h := obind_inv h; obtain ⟨zs, hzs, h⟩ := h
  replace h := guardO_inv h; obtain ⟨⟨hpos, hzl⟩, h⟩ := h
  replace h := obind_inv h; obtain ⟨my, hmy, h⟩ := h
  replace h := obind_inv h; obtain ⟨fy, hfy, h⟩ := h
  obtain ⟨m, ys⟩ := my
  obtain ⟨ys', hp1⟩ := fy
  simp only at hmy hfy h
  obtain ⟨news, hsrc⟩ := src_run (P := P) hmy hy hi.own
  obtain ⟨I1, hi1, hg1, hl1, hr1⟩ := frzL_sound (us := fun i => news.getD i undef) hfy hi hsrc.rel
  simp only at hi1 hl1 hr1
  obtain ⟨zv, hzv, hzs', _, _⟩ := zero_facts (P := P) hzs hzl
  exact append_core (by_ := by_) (e := e) (zv := zv) hi1 hu hg1 (hx.grow hg1) ⟨by rw [hl1, hsrc.size], by rw [hl1, hsrc.nsize], hr1⟩ hzs'
    (fun base sLen sCap hroom => run_append_in (ty := ty) ht ht' hz hsrc base sLen sCap hroom)
    (fun base sLen sCap old hold hg h6 hb => run_append_out (ty := ty) ht ht' hz hby hsrc hzv base sLen sCap old hold hg h6 hb) h

theorem int_fits {m : Nat} (hm : m ≤ 140737488355328) : IntKind.i64.wrap (m : Int) = m := by
  have := W_eq (n := (m : Int)) (by omega) (by omega)
  exact this

section appz
variable {t t' ty e : TypeId} {z by_ m : Nat} {k : IntKind} {zv : Value} (ht : P.underlying t = some (.slice e)) (ht' : P.underlying t' = some (.int k)) (hz : szOf P e = some z) (hby : byOf P e = some by_) (hpos : 0 < z)
  (hzv : ∀ w, (zeroValue e).run P w = .ok zv w) (hm : m ≤ 140737488355328) (hmb : m * by_ ≤ 140737488355328)
include ht ht' hz hby hpos hzv hm hmb

theorem run_appz_in (base : Option Addr) (sLen sCap : Nat) (hroom : sLen + m ≤ sCap) :
    (Builtin.append_ #[t, t'] ty #[.slice base sLen sCap, .int .i64 m]).run P w =
      ((match base with | some a => storeCells (a.add (sLen * z)) (Builtin.zeroCells zv.cells m).toList | none => pure () : Sem Unit).run P w).andThen fun _ w' => .ok (.slice base (sLen + m) sCap) w' := by
  obtain ⟨i, hi, hib⟩ := byOf_inv hby
  have hw := int_fits hm
  have e2 : (2 : Int) ^ 48 = 281474976710656 := by decide
  have n3 : ¬ ((m : Int) * (i.bytes : Int) > 2 ^ 48) := by
    rw [hib, e2, ← Int.natCast_mul]; omega
  have n4 : ¬ ((m : Int) < 0) := by omega
  simp only [Builtin.append_, List.getElem?_toArray, List.getElem?_cons_zero, List.getElem?_cons_succ, Sem.run_bind, run_underlying ht, Result.andThen_ok, run_sizeOf' hz, run_underlying ht', Sem.run_pure, if_true, asInt, asIntOf, hw, if_neg n4, run_typeInfo' hi, if_neg n3, Int.toNat_natCast,
    if_pos hroom, Bool.not_true, Bool.false_eq_true, if_false]
  by_cases hm0 : m * z = 0
  · have : m = 0 := by
      rcases Nat.mul_eq_zero.1 hm0 with h | h
      · exact h
      · omega
    subst this
    have hz0 : (Builtin.zeroCells zv.cells 0).toList = [] := by simp [Builtin.zeroCells]
    rw [hz0]
    simp only [Nat.zero_mul, if_true, Sem.run_pure, Result.andThen_ok]
    cases base <;> rfl
  · simp only [if_neg hm0, Sem.run_bind, hzv, Result.andThen_ok, Sem.run_pure]
    cases base with
    | none => rfl
    | some a => simp only [Sem.run_bind]; rfl

theorem run_appz_out (base : Option Addr) (sLen sCap : Nat) (old : List Value) (hold : ∀ w', w'.heap = w.heap → (Builtin.firstCells z sLen (.slice base sLen sCap)).run P w' = .ok old.toArray w')
    (hgrow : sCap < sLen + m) (h63 : sLen + m ≤ 140737488355328) (hb : (sLen + m) * by_ ≤ 140737488355328) :
    (Builtin.append_ #[t, t'] ty #[.slice base sLen sCap, .int .i64 m]).run P w =
      .ok (.slice (some ⟨w.heap.size, 0, none⟩) (sLen + m) (grownCap w (sLen + m) sCap e))
        (w.drew.alloc (.cells (old.toArray ++ (Builtin.zeroCells zv.cells m).toList.toArray ++ Builtin.zeroCells zv.cells (grownCap w (sLen + m) sCap e - (sLen + m))) e)) := by
  obtain ⟨i, hi, hib⟩ := byOf_inv hby
  have hw := int_fits hm
  have e2 : (2 : Int) ^ 48 = 281474976710656 := by decide
  have n3 : ¬ ((m : Int) * (i.bytes : Int) > 2 ^ 48) := by
    rw [hib, e2, ← Int.natCast_mul]; omega
  have n4 : ¬ ((m : Int) < 0) := by omega
  have hold' := hold w.drew rfl
  have n1 : ¬ sLen + m ≤ sCap := by omega
  have n2 : ¬ (((sLen + m : Nat) : Int) > IntKind.i64.max ∧ (True ∨ i.bytes = 0)) := by
    have e1 : IntKind.i64.max = 9223372036854775807 := by decide
    rw [e1]; omega
  have n5 : ¬ (Builtin.nextslicecap (sLen + m) sCap * i.bytes > 2 ^ 48) := by
    have := growslice_fits hgrow (bytes := by_) hb
    rw [hib]; have e1 : (2 : Nat) ^ 48 = 281474976710656 := by decide
    omega
  simp only [Builtin.append_, List.getElem?_toArray, List.getElem?_cons_zero, List.getElem?_cons_succ, Sem.run_bind, run_underlying ht, Result.andThen_ok, run_sizeOf' hz, run_underlying ht', Sem.run_pure, if_true, asInt, asIntOf, hw, if_neg n4, run_typeInfo' hi, if_neg n3, Int.toNat_natCast,
    if_neg n1, Bool.not_true, Bool.false_eq_true, if_false]
  rw [if_neg n2]
  simp only [Sem.run_bind, run_typeInfo' hi, Result.andThen_ok, if_neg n5]
  simp only [run_choose, Question.forced, Bool.false_eq_true, if_false, Result.andThen_ok, run_askRoom]
  have e0 : ({ w with drawn := w.drawn + 1 } : World) = w.drew := rfl
  simp only [e0, hold', Result.andThen_ok]
  by_cases hm0 : m * z = 0
  · have : m = 0 := by
      rcases Nat.mul_eq_zero.1 hm0 with h | h
      · exact h
      · omega
    subst this
    have hz0 : Builtin.zeroCells zv.cells 0 = #[] := by simp [Builtin.zeroCells]
    simp only [Nat.zero_mul, if_true, Sem.run_pure, Result.andThen_ok, hzv, newRow, Sem.run_bind, run_newObj, hz0]
    rfl
  · simp only [if_neg hm0, Sem.run_bind, hzv, Result.andThen_ok, Sem.run_pure, newRow, run_newObj, Array.toArray_toList]
    rfl
end appz

theorem isIntT_inv {t : TypeId} (h : isIntT P t = true) : ∃ k, P.underlying t = some (.int k) := by
  unfold isIntT at h
  split at h
  · exact ⟨_, ‹_›⟩
  · cases h

theorem appendZ_sound {t t' ty : TypeId} {x y z0 : AV} {a b : Value} {id : Nat} {hp' : H} (h : appendZ P t x y hp id = some (z0, hp')) (ht' : isIntT P t' = true) (hx : Rel σ I w x a) (hy : Rel σ I w y b)
    (hi : Inv c σ I w hp un) (hu : un id) :
    ∃ v w' σ' I', (Builtin.append_ #[t, t'] ty #[a, b]).run P w = .ok v w' ∧ Rel σ' I' w' z0 v ∧ Inv c σ' I' w' hp' (fun k => un k ∧ k ≠ id) ∧ Grow σ I w σ' I' w' := by
  obtain ⟨k, ht'⟩ := isIntT_inv ht'
  unfold appendZ at h
  split at h
  rotate_left
  · cases h
  rename_i e ht
  replace h := obind_inv h; obtain ⟨z, hz, h⟩ := h
  replace h := obind_inv h; obtain ⟨by_, hby, h⟩ := h
  replace h := obind_inv h; obtain ⟨zs, hzs, h⟩ := h
  replace h := guardO_inv h; obtain ⟨⟨hpos, hzl⟩, h⟩ := h
  replace h := obind_inv h; obtain ⟨m, hm, h⟩ := h
  replace h := guardO_inv h; obtain ⟨⟨hm1, hm2⟩, h⟩ := h
  obtain ⟨zv, hzv, hzs', hze, hzc⟩ := zero_facts (P := P) hzs hzl
  unfold cntA at hm
  split at hm
  rotate_left
  · cases hm
  rename_i n
  replace hm := guardO_inv hm; obtain ⟨hn, hm⟩ := hm
  obtain rfl := Option.some.inj hm
  cases hy
  obtain ⟨m, rfl⟩ := Int.eq_ofNat_of_zero_le hn
  simp only [Int.toNat_natCast] at *
  have hrl : (rep m zs).length = m * z := by rw [rep_length, hzl]
  have hnl : (Builtin.zeroCells zv.cells m).toList.length = m * z := by rw [Array.length_toList, size_zeroCells, hzs']
  have hrc : RelCells σ I w zs zv.cells := relCells_zero hze hzc
  refine append_core (by_ := by_) (e := e) (zv := zv) hi hu (Grow.refl _ _ _) hx ⟨hrl, by rw [hnl, hrl], fun i hi' => ?_⟩ hzs'
    (fun base sLen sCap hroom => run_appz_in (ty := ty) ht ht' hz hby hpos hzv hm1 hm2 base sLen sCap hroom)
    (fun base sLen sCap old hold hg h6 hb => run_appz_out (ty := ty) ht ht' hz hby hpos hzv hm1 hm2 base sLen sCap old hold hg h6 hb) h
  have hg := rep_get hzl hpos m i (by omega)
  rw [List.getElem?_eq_getElem hi'] at hg
  obtain ⟨c1, v, c2, c3⟩ := (relCells_iff.1 hrc).2 _ _ hg.symm
  refine ⟨c1, ?_⟩
  have e1 : (Builtin.zeroCells zv.cells m).toList.getD i undef = v := by
    rw [List.getD_eq_getElem?_getD, Array.getElem?_toList, zeroCells_get (by rw [hzs']; omega), hzs', c2]; rfl
  rw [e1]; exact c3

theorem copy_sound {t t' ty : TypeId} {x y z0 : AV} {a b : Value} {hp' : H} (h : copyA P t x y hp = some (z0, hp')) (hx : Rel σ I w x a) (hy : Rel σ I w y b) (hi : Inv c σ I w hp un) :
    ∃ v w', (Builtin.copy_ #[t, t'] ty #[a, b]).run P w = .ok v w' ∧ Rel σ I w' z0 v ∧ Inv c σ I w' hp' un ∧ Grow σ I w σ I w' := by
  unfold copyA at h
  split at h
  rotate_left
  · cases h
  rename_i e ht
  replace h := obind_inv h; obtain ⟨z, hz, h⟩ := h
  replace h := obind_inv h; obtain ⟨my, hmy, h⟩ := h
  obtain ⟨m, ys⟩ := my
  simp only at hmy h
  obtain ⟨news, hsrc⟩ := src_run (P := P) hmy hy hi.own
  split at h
  · rename_i i off n e' g
    replace h := obind_inv h; obtain ⟨o, ho, h⟩ := h
    obtain ⟨xs, mt⟩ := o
    simp only at h
    replace h := guardO_inv h; obtain ⟨⟨hmt, hez, hend⟩, h⟩ := h
    obtain ⟨rfl, rfl⟩ := Prod.mk.inj (Option.some.inj h)
    subst hmt
    subst hez
    have hown := hi.own i _ ho
    have hlen : (ys.take (min m n * e')).length = min m n * e' := by
      rw [List.length_take, hsrc.size]; exact Nat.min_eq_left (Nat.mul_le_mul_right _ (Nat.min_le_left _ _))
    have hnl : (news.take (min m n * e')).length = min m n * e' := by
      rw [List.length_take, hsrc.nsize, hsrc.size]; exact Nat.min_eq_left (Nat.mul_le_mul_right _ (Nat.min_le_left _ _))
    have hmn : min m n * e' ≤ n * e' := Nat.mul_le_mul_right _ (Nat.min_le_right _ _)
    have hf := hsrc.first w rfl (min m n) (Nat.min_le_left _ _)
    have start : ∀ (base : Option Addr) (cap : Nat), (Builtin.copy_ #[t, t'] ty #[.slice base n cap, b]).run P w =
        ((match base with | some a => storeCells a (news.take (min m n * e')) | none => pure () : Sem Unit).run P w).andThen fun _ w' => .ok (.int .i64 (min m n : Nat)) w' := by
      intro base cap
      have hf' : (Builtin.firstCells e' (Nat.min m n) b).run P w = .ok (news.take (min m n * e')).toArray w := hf
      simp only [Builtin.copy_, List.getElem?_toArray, List.getElem?_cons_zero, List.getElem?_cons_succ, Sem.run_bind, run_underlying ht, Result.andThen_ok, hsrc.len, run_sizeOf' hz, hf', goInt]
      cases base with
      | none => rfl
      | some a => simp only [Sem.run_bind]; rfl
    have hrel : ∀ j (_h : j < (ys.take (min m n * e')).length), (ys.take (min m n * e'))[j].isCell = true ∧ Rel σ I w (ys.take (min m n * e'))[j] ((news.take (min m n * e')).getD j undef) := by
      intro j hj
      have hj' := hj
      rw [hlen] at hj'
      rw [getElem_take']
      have hjy : j < ys.length := by rw [List.length_take] at hj; omega
      have := hsrc.rel j hjy
      refine ⟨this.1, ?_⟩
      rw [List.getD_eq_getElem?_getD, List.getElem?_take_of_lt hj', ← List.getD_eq_getElem?_getD]
      exact this.2
    have zero : ∀ base : Option Addr, n = 0 → ∃ v w', (Builtin.copy_ #[t, t'] ty #[.slice base n 0, b]).run P w = .ok v w' ∧ Rel σ I w' (.i (min m n : Nat)) v ∧ Inv c σ I w' (upd hp i (.cells (splice xs off (ys.take (min m n * e'))) true)) un ∧ Grow σ I w σ I w' := by
      intro base hn
      subst hn
      refine ⟨_, w, by rw [start base 0]; simp only [Nat.min_zero, Nat.zero_mul, List.take_zero]; cases base <;> rfl, .i _, ?_, Grow.refl _ _ _⟩
      have : upd hp i (.cells (splice xs off (ys.take (min m 0 * e'))) true) = hp := by
        funext k
        rw [upd_apply]
        split
        · rename_i e; subst e; rw [ho]; simp [splice]
        · rfl
      rw [this]; exact hi
    cases hx with
    | osnil => exact zero none rfl
    | oszero _ _ _ _ a => exact zero (some a) rfl
    | os _ _ _ _ _ blk base sz cap g1 g2 g3 =>
      obtain ⟨w', r1, r2, r3⟩ := store_own (P := P) hi (off := off) (ys := ys.take (min m n * e')) (zs := splice xs off (ys.take (min m n * e'))) (us := news.take (min m n * e')) ho g1 (by rw [hlen]; omega) (by rw [hlen, hnl])
        (fun j hj => (hrel j hj).1) (fun j hj => (hrel j hj).2) (splice_length (by rw [hlen]; omega)) (fun j => splice_get (by rw [hlen]; omega))
      refine ⟨_, w', by rw [start]; simp only [r1, Result.andThen_ok], .i _, r2, r3⟩
  · cases h

theorem freeze_out {w : World} {blk : Nat} {cs : Array Value} {T : TypeId} {lo hi : Nat} (h : w.heap[blk]? = some (.cells cs T (lo, hi))) (hu : Unfz lo hi cs.size) :
    ∃ lo' hi', (w.freeze ⟨blk, cs.size, none⟩ 1).heap[blk]? = some (.cells cs T (lo', hi')) ∧ Unfz lo' hi' cs.size ∧ (w.freeze ⟨blk, cs.size, none⟩ 1).heap.size = w.heap.size ∧ ∀ k, k ≠ blk → (w.freeze ⟨blk, cs.size, none⟩ 1).heap[k]? = w.heap[k]? := by
  unfold World.freeze
  rw [if_neg (by decide)]
  simp only [Array.size_modify, Array.getElem?_modify, h, if_true, Option.map_some]
  obtain ⟨u1, u2⟩ := hu
  have hlo : lo = hi ∨ cs.size ≤ lo := by
    rcases Nat.lt_or_ge lo cs.size with e | e
    · left
      have := u2 lo e
      omega
    · exact .inr e
  by_cases e : lo = hi
  · subst e
    exact ⟨cs.size, cs.size + 1, by simp, ⟨by omega, fun o ho => by omega⟩, trivial, fun k hk => by rw [if_neg (fun e => hk e.symm)]⟩
  · have hs : cs.size ≤ lo := hlo.resolve_left e
    have e2 : (lo == hi) = false := by simpa using e
    exact ⟨min lo cs.size, max hi (cs.size + 1), by simp [e2], ⟨by omega, fun o ho => by omega⟩, trivial, fun k hk => by rw [if_neg (fun e => hk e.symm)]⟩

theorem mark_sound {e t : TypeId} {x z0 : AV} {a : Value} {hp' : H} (h : markA P e x hp = some (z0, hp')) (ht : P.underlying t = some (.slice e)) (hx : Rel σ I w x a) (hi : Inv c σ I w hp un) :
    ∃ w', (convert t t a).run P w = .ok a w' ∧ Rel σ I w' z0 a ∧ Inv c σ I w' hp' un ∧ Grow σ I w σ I w' := by
  unfold markA at h
  split at h
  rotate_left
  · cases h
  rename_i he
  split at h
  rotate_left
  · cases h
  rename_i i off n e' g
  replace h := obind_inv h; obtain ⟨o, ho, h⟩ := h
  obtain ⟨xs, mt⟩ := o
  simp only at h
  replace h := guardO_inv h; obtain ⟨⟨hmt, hn⟩, h⟩ := h
  obtain ⟨rfl, rfl⟩ := Prod.mk.inj (Option.some.inj h)
  subst hmt
  cases hx with
  | osnil => omega
  | oszero => omega
  | os _ _ _ _ _ blk base sz cap g1 g2 g3 =>
    have hown := hi.own i _ ho
    have hnI : ¬ I blk := by simp only [OwnRel, g1] at hown; exact hown.2.1 trivial
    obtain ⟨⟨cs, T, lo, hi_, q1, q2, q3, q4, q5⟩, q6⟩ := own_row hown g1
    subst q2
    obtain ⟨lo', hi', f1, f2, f3, f4⟩ := freeze_out q1 q4
    have hw : ∀ k, I k → (w.freeze ⟨blk, cs.size, none⟩ 1).heap[k]? = w.heap[k]? := fun k hk => f4 k (fun e => hnI (e ▸ hk))
    have hinv : Inv c σ I (w.freeze ⟨blk, cs.size, none⟩ 1) (upd hp i (.cells xs true)) un := by
      refine hi.setRowG ho g1 ?_ ?_ ?_ f3 f4 q6 (fun cs2 T2 lo2 hi2 r1 r2 r3 => ?_)
      · unfold World.freeze; split <;> rfl
      · unfold World.freeze; split <;> rfl
      · unfold World.freeze; split <;> rfl
      · rw [q1] at r1
        simp only [Option.some.injEq, Obj.cells.injEq, Prod.mk.injEq] at r1
        obtain ⟨rfl, rfl, rfl, rfl⟩ := r1
        exact ⟨cs, lo', hi', f1, rfl, f2, q3, q5⟩
    refine ⟨_, ?_, ?_, hinv, ⟨fun _ _ => rfl, fun _ h => h, hw⟩⟩
    · have hsh : w.shape? blk = some (T, cs.size) := by unfold World.shape?; rw [q1]
      simp [convert, run_underlying ht, run_underlying he, markStringish, hsh]
    · exact .os i off n e' g blk base cs.size cap g1 g2 g3

theorem store_sound {t : TypeId} {x : AV} {i off z : Nat} {cs xs : List AV} {mt : Bool} {a v : Value} (ha : Rel σ I w (.op i off) a) (hv : Rel σ I w x v) (hcs : cellsV x = some cs) (hz : szOf P t = some z)
    (ho : hp i = some (.cells xs mt)) (hmt : mt = true) (hl : cs.length = z) (hfit : off + z ≤ xs.length) (hi : Inv c σ I w hp un) :
    ∃ w', (Instr.storeAt t a v).run P w = .ok () w' ∧ Inv c σ I w' (upd hp i (.cells (storeL xs off cs) true)) un ∧ Grow σ I w σ I w' := by
  subst hmt
  obtain ⟨blk, base, sz, hloc, rfl⟩ := op_inv ha
  have hc := relCells_cellsV hcs hv
  obtain ⟨w', r1, r2, r3⟩ := store_own (P := P) hi (off := off) (ys := cs) (zs := storeL xs off cs) (us := v.cells.toList) ho hloc (by omega) (by simpa using hc.size) hc.cell
    (fun j hj => by have := hc.rel j hj; rwa [← Array.toArray_toList (xs := v.cells), getD_list] at this) (storeL_length (by omega)) (fun j => storeL_get (by omega))
  refine ⟨w', ?_, r2, r3⟩
  have hne : ¬ (v.cells.size ≠ z) := by rw [hc.size, hl]; simp
  simp only [Instr.storeAt, Instr.sureAddr, storeVar, Sem.run_bind, Sem.run_pure, Result.andThen_ok, run_sizeOf' hz, if_neg hne, r1]

theorem write_sound {o : Oper} {ρA : Operand → AV} {ρ : Operand → Value} {id : Nat} {x : AV} {hp' : H} (h : writeOp P o.op ρA hp id = some (x, hp')) (hρ : ∀ y, Rel σ I w (ρA y) (ρ y))
    (hi : Inv c σ I w hp un) (hu : un id) :
    ∃ r w' σ' I', (execOp ρ o).run P w = .ok r w' ∧ ((∃ v, r = .value v ∧ Rel σ' I' w' x v) ∨ (r = .skip ∧ x = .junk)) ∧ Inv c σ' I' w' hp' (fun k => un k ∧ k ≠ id) ∧ Grow σ I w σ' I' w' := by
  obtain ⟨dst, op, type, pos, after, guard⟩ := o
  simp only at h
  unfold writeOp at h
  split at h
  · rename_i t a y
    have ha := hρ a
    split at h
    · rename_i i off eq
      rw [eq] at ha
      replace h := obind_inv h; obtain ⟨cs, hcs, h⟩ := h
      replace h := obind_inv h; obtain ⟨z, hz, h⟩ := h
      replace h := obind_inv h; obtain ⟨o, ho, h⟩ := h
      obtain ⟨xs, mt⟩ := o
      simp only at h
      replace h := guardO_inv h; obtain ⟨⟨hmt, hl, hfit⟩, h⟩ := h
      obtain ⟨rfl, rfl⟩ := Prod.mk.inj (Option.some.inj h)
      obtain ⟨w', r1, r2, r3⟩ := store_sound (P := P) ha (hρ y) hcs hz ho hmt hl hfit hi
      exact ⟨.skip, w', σ, I, runU r1, .inr ⟨rfl, rfl⟩, r2.mono_un (fun _ h => h.1), r3⟩
    · cases h
  · rename_i src dst' y
    replace h := guardO_inv h; obtain ⟨hs, h⟩ := h
    subst hs
    split at h
    · rename_i e ht
      obtain ⟨w', r1, r2, r3, r4⟩ := mark_sound (P := P) h ht (hρ y) hi
      exact ⟨.value (ρ y), w', σ, I, by simp only [execOp, Sem.run_bind, r1, Result.andThen_ok, Sem.run_pure], .inl ⟨_, rfl, r2⟩, r3.mono_un (fun _ h => h.1), r4⟩
    · cases h
  · rename_i cl
    obtain ⟨callee, args, argTypes⟩ := cl
    simp only at h
    split at h
    · rename_i a b t t' e1 e2
      have ea : args = #[a, b] := by rw [← Array.toArray_toList (xs := args), e1]
      have et : argTypes = #[t, t'] := by rw [← Array.toArray_toList (xs := argTypes), e2]
      subst ea; subst et
      split at h
      · rename_i hni
        obtain ⟨v, w', σ', I', r1, r2, r3, r4⟩ := append_sound (ty := type) h hni (hρ a) (hρ b) hi hu
        refine ⟨.value v, w', σ', I', ?_, .inl ⟨v, rfl, r2⟩, r3, r4⟩
        simp only [execOp, resolve, invoke, builtin, Sem.run_bind, Sem.run_pure, Result.andThen_ok, List.map_toArray, List.map_cons, List.map_nil, r1]
      · replace h := guardO_inv h; obtain ⟨hni, h⟩ := h
        obtain ⟨v, w', σ', I', r1, r2, r3, r4⟩ := appendZ_sound (ty := type) h hni (hρ a) (hρ b) hi hu
        refine ⟨.value v, w', σ', I', ?_, .inl ⟨v, rfl, r2⟩, r3, r4⟩
        simp only [execOp, resolve, invoke, builtin, Sem.run_bind, Sem.run_pure, Result.andThen_ok, List.map_toArray, List.map_cons, List.map_nil, r1]
    · rename_i a b t t' e1 e2
      have ea : args = #[a, b] := by rw [← Array.toArray_toList (xs := args), e1]
      have et : argTypes = #[t, t'] := by rw [← Array.toArray_toList (xs := argTypes), e2]
      subst ea; subst et
      obtain ⟨v, w', r1, r2, r3, r4⟩ := copy_sound (P := P) (t' := t') (ty := type) h (hρ a) (hρ b) hi
      refine ⟨.value v, w', σ, I, ?_, .inl ⟨v, rfl, r2⟩, r3.mono_un (fun _ h => h.1), r4⟩
      simp only [execOp, resolve, invoke, builtin, Sem.run_bind, Sem.run_pure, Result.andThen_ok, List.map_toArray, List.map_cons, List.map_nil, r1]
    · cases h
  · cases h

end
end Go.AX
