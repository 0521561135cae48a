/-
  AX, part U: what is known of a function, out of its code's run.
-/
import Derived.Test.YtnnkmoaipcdhnaaDoorAxT
namespace Go.AX
open Go

def initS (args : List AV) (hp : H) (nx : Nat) : S := { fr := frOf 0 args, hp := hp, nx := nx, cx := nx }

def pureQ (P : Program) (rs : List ResultVar) (r : AV) : Exit → S → Prop
  | .ret, t => obind (resA P rs t) (immF 4 t.hp) = some r
  | .normal, t => obind (resA P rs t) (immF 4 t.hp) = some r
  | _, _ => False

def freshR (P : Program) (rs : List ResultVar) (e : Nat) (t : S) : Option (Nat × Nat × List AV) :=
  obind (resA P rs t) fun x => match x with
    | .os id off m e' g => obind (t.hp id) fun o => match o with
      | .cells ys mt => guardO (mt = true ∧ g = true ∧ off + m * e' = ys.length) (obind (immL (immF 3 (del t.hp id)) (ys.drop off)) fun zs => some (m, e', zs))
    | .v (.slice none 0 0) => some (0, e, [])
    | _ => none

def freshQ (P : Program) (rs : List ResultVar) (r : Nat × Nat × List AV) : Exit → S → Prop
  | .ret, t => freshR P rs r.2.1 t = some r
  | .normal, t => freshR P rs r.2.1 t = some r
  | _, _ => False

structure HeapEnd (P : Program) (rs : List ResultVar) (r : AV) (hp' : H) (nx' : Nat) (t : S) : Prop where
  res : resA P rs t = some r
  hp : ∀ id o, hp' id = some o → t.hp id = some o
  cx : t.cx ≤ nx'

def heapQ (P : Program) (rs : List ResultVar) (r : AV) (hp' : H) (nx' : Nat) : Exit → S → Prop
  | .ret, t => HeapEnd P rs r hp' nx' t
  | .normal, t => HeapEnd P rs r hp' nx' t
  | _, _ => False

section
variable {P : Program} {GL : Nat → Option (List AV)}

theorem look_init {args : List AV} {vals : Array Value} {σ : Nat → Loc} {I : Nat → Prop} {w : World} {n : Nat} (hs : vals.size = args.length) (hr : ∀ i (_h : i < args.length), Rel σ I w args[i] (vals.getD i undef)) (t : Nat) :
    Rel σ I w (look (frOf 0 args) t) ((vals ++ Array.replicate n undef).getD t undef) := by
  rw [look_frOf]
  split
  · rename_i h
    simp only [Nat.sub_zero, Nat.zero_le, true_and] at h ⊢
    have := hr t h
    rw [Array.getD_eq_getD_getElem?] at this ⊢
    rw [Array.getElem?_append_left (by omega)]; exact this
  · exact .junk _

theorem run_fn {f : FuncId} {fn : Func} {code : Code} (hf : P.funcs[f]? = some fn) (hb : fn.body = some code) (c : Ctx) (hGL : c.GL = GL) (hnt : c.nt = fn.ntmps) {args : List AV} {vals : Array Value} {σ : Nat → Loc} {I : Nat → Prop} {w : World} {hp : H} {nx : Nat}
    {Q : Exit → S → Prop} (hlen : args.length ≤ fn.ntmps) (hQ : ∀ e t, Q e t → e = .ret ∨ e = .normal) (h : Awp P GL fn.ntmps code (initS args hp nx) Q) (hi : Inv c σ I w hp (fun id => nx ≤ id ∨ c.u0 id)) (hu0 : ∀ id, c.u0 id → id < nx)
    (hs : vals.size = args.length) (hr : ∀ i (_h : i < args.length), Rel σ I w args[i] (vals.getD i undef)) {Rr : Ending → World → Prop}
    (hfin : ∀ e t a w', Q e t → R c σ I w (fun _ => False) t a w' → ∃ v, (results fn a.tmps).run P w' = .ok v w' ∧ Rr (.returned v) w') : Calls P f vals w Rr := by
  refine calls_of_wp hf hb (wp_mono (h c hGL hnt σ I w { tmps := vals ++ Array.replicate (fn.ntmps - vals.size) undef, defers := [] } w ?_) ?_)
  · refine ⟨⟨σ, I, ?_, Grow.refl _ _ _, fun t => look_init hs hr t⟩, rfl, by simp [hs]; omega, fun k hk => hk.elim, fun id hid => ⟨hu0 id hid, hu0 id hid⟩⟩
    refine hi.mono_un fun id hid => ?_
    rcases hid with hid | ⟨k, hk, _⟩ | hid
    · exact .inl hid
    · exact hk.elim
    · exact .inr hid
  · rintro e a' w' ⟨t, hq, hR⟩
    obtain ⟨v, hv, hr⟩ := hfin e t a' w' hq hR
    have hd := hR.defers
    rcases hQ e t hq with rfl | rfl
    · exact ⟨hd, v, hv, hr⟩
    · exact ⟨hd, v, hv, hr⟩

/-- The context of a function that has no own objects at first. -/
def ctx0 (σ : Nat → Loc) (I : Nat → Prop) (w : World) (GL : Nat → Option (List AV)) (nt nx : Nat) : Ctx := { w0 := w, σ0 := σ, I0 := I, O := fun _ => False, GL := GL, nt := nt, u0 := fun id => id < nx ∧ σ id = .unset }

theorem inv0 {σ : Nat → Loc} {I : Nat → Prop} {w : World} {nt nx : Nat} (h1 : ∀ id, nx ≤ id → σ id = .unset) (h2 : ∀ k, I k → k < w.heap.size) (h3 : ∀ g xs, GL g = some xs → Rel σ I w (.rp xs) (.pointer (some ⟨g, 0, none⟩))) :
    Inv (ctx0 σ I w GL nt nx) σ I w (fun _ => none) (fun id => nx ≤ id ∨ (ctx0 σ I w GL nt nx).u0 id) :=
  ⟨fun _ _ => rfl, fun _ h => h, fun _ _ => rfl, rfl, rfl, rfl, Nat.le_refl _, fun _ _ _ => rfl, h2, fun _ _ h => by simp at h, fun _ _ _ _ _ _ _ _ _ h => by simp at h, fun _ _ _ _ _ h => by simp at h, fun id h => h.elim (h1 id) (fun h => h.2), h3, fun _ h => .inl h⟩

theorem keep_loc {σ σ' : Nat → Loc} {I I' : Nat → Prop} {w w' : World} {nt nx cx : Nat} {hp : H} {rem : Nat → Prop} (h : Inv (ctx0 σ I w GL nt nx) σ' I' w' hp (fun id => cx ≤ id ∨ rem id ∨ (ctx0 σ I w GL nt nx).u0 id)) : ∀ id, id < nx → σ' id = σ id := by
  intro id hid
  by_cases e : σ id = .unset
  · rw [e]; exact h.un id (.inr (.inr ⟨hid, e⟩))
  · exact h.ext id e

theorem pure_of_awp {f : FuncId} {fn : Func} {code : Code} {g : List AV → Option AV} (hf : P.funcs[f]? = some fn) (hb : fn.body = some code)
    (h : ∀ args r, g args = some r → args.length ≤ fn.ntmps ∧ ∀ nx, Awp P GL fn.ntmps code (initS args (fun _ => none) nx) (pureQ P fn.results.toList r)) : PureOK P GL f g := by
  intro σ I w nx args vals r h1 h2 h3 hs hr hg
  obtain ⟨hlen, haw⟩ := h args r hg
  have hQ : ∀ e t, pureQ P fn.results.toList r e t → (e = .ret ∨ e = .normal) ∧ obind (resA P fn.results.toList t) (immF 4 t.hp) = some r := by
    intro e t hq; cases e <;> first | exact ⟨.inl rfl, hq⟩ | exact ⟨.inr rfl, hq⟩ | exact hq.elim
  refine run_fn hf hb (ctx0 σ I w GL fn.ntmps nx) rfl rfl hlen (fun e t hq => (hQ e t hq).1) (haw nx) (inv0 h1 h2 h3) (fun _ h => h.1) hs hr ?_
  intro e t a w' hq hR
  obtain ⟨⟨σ', I', a1, a2, a3⟩, _⟩ := hR
  have := (hQ e t hq).2
  replace this := obind_inv this; obtain ⟨x, hx, him⟩ := this
  obtain ⟨v, hv, hrel⟩ := resA_sound (P := P) a1 a3 hx
  have hI : ∀ k, I' k → (I' k ∨ ∃ id o base sz, t.hp id = some o ∧ σ' id = .at_ k base sz) := fun k hk => .inl hk
  obtain ⟨him', _⟩ := imm_sound a1 hI (fun id o blk base sz e1 e2 => .inr ⟨id, o, base, sz, e1, e2⟩) 4 him hrel
  refine ⟨v, hv, v, σ', fun k => I' k ∨ ∃ id o base sz, t.hp id = some o ∧ σ' id = .at_ k base sz, rfl, a1.os, a1.tape, a1.output, a1.size, fun k hk => a1.old k hk (fun h => h), keep_loc a1, fun k hk => ?_, fun k hk => ?_, him'⟩
  · rcases hk with hk | ⟨id, o, base, sz, e1, e2⟩
    · rcases a1.inew k hk with h | h | h
      · exact .inl h
      · exact .inr h
      · exact h.elim
    · obtain ⟨xs, mt⟩ := o
      cases mt with
      | true =>
        rcases a1.lim id xs k base sz e1 e2 with h | h
        · exact .inr h
        · exact h.elim
      | false =>
        have := a1.own id _ e1
        simp only [OwnRel, e2] at this
        rcases a1.inew k (this.2.2 trivial) with h | h | h
        · exact .inl h
        · exact .inr h
        · exact h.elim
  · rcases hk with hk | ⟨id, o, base, sz, e1, e2⟩
    · exact a1.ilt k hk
    · exact (a1.own id o e1).lt e2

theorem fresh_of_awp {f : FuncId} {fn : Func} {code : Code} {g : List AV → Option (Nat × Nat × List AV)} (hf : P.funcs[f]? = some fn) (hb : fn.body = some code)
    (h : ∀ args r, g args = some r → args.length ≤ fn.ntmps ∧ ∀ nx, Awp P GL fn.ntmps code (initS args (fun _ => none) nx) (freshQ P fn.results.toList r)) : FreshOK P GL f g := by
  intro σ I w nx args vals n e xs h1 h2 h3 hs hr hg
  obtain ⟨hlen, haw⟩ := h args _ hg
  have hQ : ∀ e' t, freshQ P fn.results.toList (n, e, xs) e' t → (e' = .ret ∨ e' = .normal) ∧ freshR P fn.results.toList e t = some (n, e, xs) := by
    intro e' t hq; cases e' <;> first | exact ⟨.inl rfl, hq⟩ | exact ⟨.inr rfl, hq⟩ | exact hq.elim
  refine run_fn hf hb (ctx0 σ I w GL fn.ntmps nx) rfl rfl hlen (fun e t hq => (hQ e t hq).1) (haw nx) (inv0 h1 h2 h3) (fun _ h => h.1) hs hr ?_
  intro e' t a w' hq hR
  obtain ⟨⟨σ', I', a1, a2, a3⟩, _⟩ := hR
  have := (hQ e' t hq).2
  unfold freshR at this
  replace this := obind_inv this; obtain ⟨x, hx, this⟩ := this
  obtain ⟨v, hv, hrel⟩ := resA_sound (P := P) a1 a3 hx
  split at this
  · rename_i id off m e0 g0
    replace this := obind_inv this; obtain ⟨o, ho, this⟩ := this
    obtain ⟨ys, mt⟩ := o
    simp only at this
    replace this := guardO_inv this; obtain ⟨⟨hmt, hgt, hend⟩, this⟩ := this
    replace this := obind_inv this; obtain ⟨zs, hzs, this⟩ := this
    simp only [Option.some.injEq, Prod.mk.injEq] at this; obtain ⟨rfl, rfl, rfl⟩ := this
    subst hmt; subst hgt
    have a1d := a1.sub (del_sub t.hp id)
    have hdel : ∀ id' o', del t.hp id id' = some o' → id' ≠ id := fun id' o' hd e => by subst e; rw [del_apply, if_pos rfl] at hd; cases hd
    have hI : ∀ k, I' k → (I' k ∨ ∃ id' o base sz, del t.hp id id' = some o ∧ σ' id' = .at_ k base sz) := fun k hk => .inl hk
    have hnew : ∀ k, (I' k ∨ ∃ id' o base sz, del t.hp id id' = some o ∧ σ' id' = .at_ k base sz) → I k ∨ w.heap.size ≤ k := by
      intro k hk
      rcases hk with hk | ⟨id', o, base, sz, e1, e2⟩
      · rcases a1.inew k hk with h | h | h
        · exact .inl h
        · exact .inr h
        · exact h.elim
      · obtain ⟨xs', mt'⟩ := o
        cases mt' with
        | true =>
          rcases a1d.lim id' xs' k base sz e1 e2 with h | h
          · exact .inr h
          · exact h.elim
        | false =>
          have := a1d.own id' _ e1
          simp only [OwnRel, e2] at this
          rcases a1.inew k (this.2.2 trivial) with h | h | h
          · exact .inl h
          · exact .inr h
          · exact h.elim
    have hlt : ∀ k, (I' k ∨ ∃ id' o base sz, del t.hp id id' = some o ∧ σ' id' = .at_ k base sz) → k < w'.heap.size := by
      intro k hk
      rcases hk with hk | ⟨id', o, base, sz, e1, e2⟩
      · exact a1.ilt k hk
      · exact (a1d.own id' o e1).lt e2
    refine ⟨v, hv, v, σ', fun k => I' k ∨ ∃ id' o base sz, del t.hp id id' = some o ∧ σ' id' = .at_ k base sz, rfl, a1.os, a1.tape, a1.output, a1.size, fun k hk => a1.old k hk (fun h => h), keep_loc a1, hnew, hlt, ?_⟩
    have hzl : zs.length = (ys.drop off).length ∧ ∀ (f : Nat → Value), (∀ i (_h : i < (ys.drop off).length), Rel σ' I' w' (ys.drop off)[i] (f i)) → ∀ i (_h : i < zs.length), Rel σ' (fun k => I' k ∨ ∃ id' o base sz, del t.hp id id' = some o ∧ σ' id' = .at_ k base sz) w' zs[i] (f i) ∧ ∀ h2 : i < (ys.drop off).length, (ys.drop off)[i].isCell = true → zs[i].isCell = true := by
      have one : ∀ (xs ys : List AV), immL (immF 3 (del t.hp id)) xs = some ys → ys.length = xs.length ∧ ∀ (f : Nat → Value), (∀ i (_h : i < xs.length), Rel σ' I' w' xs[i] (f i)) → ∀ i (_h : i < ys.length), Rel σ' (fun k => I' k ∨ ∃ id' o base sz, del t.hp id id' = some o ∧ σ' id' = .at_ k base sz) w' ys[i] (f i) ∧ ∀ h2 : i < xs.length, xs[i].isCell = true → ys[i].isCell = true := by
        intro xs ys hh
        have hM : ∀ (xs ys : List AV), immM (immF 3 (del t.hp id)) xs = some ys → ys.length = xs.length ∧ ∀ (f : Nat → Value), (∀ i (_h : i < xs.length), Rel σ' I' w' xs[i] (f i)) → ∀ i (_h : i < ys.length), Rel σ' (fun k => I' k ∨ ∃ id' o base sz, del t.hp id id' = some o ∧ σ' id' = .at_ k base sz) w' ys[i] (f i) ∧ ∀ h2 : i < xs.length, xs[i].isCell = true → ys[i].isCell = true := by
          intro xs
          induction xs with
          | nil => intro ys h; obtain rfl := Option.some.inj h; exact ⟨rfl, fun f _ i h => by simp at h⟩
          | cons b r ihr =>
            intro ys h
            simp only [immM] at h
            replace h := obind_inv h; obtain ⟨d, hd, h⟩ := h
            replace h := obind_inv h; obtain ⟨l, hl, h⟩ := h
            obtain rfl := Option.some.inj h
            obtain ⟨e1, e2⟩ := ihr l hl
            refine ⟨by simp [e1], fun f hf i hi' => ?_⟩
            cases i with
            | zero =>
              have := imm_sound a1d hI (fun id o blk base sz e1 e2 => .inr ⟨id, o, base, sz, e1, e2⟩) 3 hd (hf 0 (by simp))
              exact ⟨this.1, fun _ hc => this.2 hc⟩
            | succ k =>
              have := e2 (fun i => f (i + 1)) (fun i hi => by have := hf (i + 1) (by simpa using hi); simpa using this) k (by simpa using hi')
              exact ⟨this.1, fun h2 hc => this.2 (by simpa using h2) (by simpa using hc)⟩
        unfold immL at hh
        split at hh
        · obtain rfl := Option.some.inj hh
          exact ⟨rfl, fun f hf i hi => ⟨(hf i hi).mono (fun _ _ => rfl) hI (fun _ _ => rfl), fun _ h => h⟩⟩
        · exact hM xs ys hh
      exact one _ _ hzs
    have hown := a1.own id _ ho
    cases hrel with
    | osnil _ _ _ g1 =>
      have : ys = [] := own_nil hown g1
      subst this
      refine .inl ⟨.inl rfl, rfl, List.eq_nil_of_length_eq_zero (by rw [hzl.1]; simp)⟩
    | oszero _ _ _ _ ad g1 => exact .inl ⟨.inr ⟨ad, rfl⟩, rfl, List.eq_nil_of_length_eq_zero (by rw [hzl.1]; simp; omega)⟩
    | os _ _ _ _ _ blk base sz cap g1 g2 g3 =>
      have hrow := own_row hown g1
      have hlen := own_len hown g1
      simp only [OwnRel, g1] at hown
      refine .inr ⟨blk, base + off, sz, cap, rfl, g2, g3 rfl, ?_, ?_, ?_⟩
      · rcases a1.lim id ys blk base sz ho g1 with h | h
        · exact h
        · exact h.elim
      · rintro (h | ⟨id', o', base', sz', e1, e2⟩)
        · exact hown.2.1 trivial h
        · exact a1.inj id id' ys o' blk base sz base' sz' ho (del_sub _ _ _ _ e1) (Ne.symm (hdel id' o' e1)) g1 e2
      · obtain ⟨⟨cs, T, lo, hi_, q1, q2, q3, q4, q5⟩, q6⟩ := hrow
        have hget : ∀ i (_h : i < (ys.drop off).length), Rel σ' I' w' (ys.drop off)[i] (cs.getD (base + off + i) undef) := by
          intro i hi
          rw [getElem_drop']
          simp at hi
          have := q5 (off + i) (by omega)
          rw [Nat.add_assoc]; exact this
        have hz := hzl.2 _ hget
        have hoff : off ≤ ys.length ∨ ys.length < off := by omega
        refine ⟨⟨cs, T, lo, hi_, q1, q2, ?_, q4, fun i hi => (hz i hi).1⟩, fun i hi => (hz i hi).2 (by rw [← hzl.1]; exact hi) (by rw [getElem_drop']; exact q6 _ _)⟩
        rw [hzl.1]; simp
        have := g3 rfl
        omega
  · simp only [Option.some.injEq, Prod.mk.injEq] at this; obtain ⟨rfl, _, rfl⟩ := this
    cases hrel
    refine ⟨_, hv, _, σ', I', rfl, a1.os, a1.tape, a1.output, a1.size, fun k hk => a1.old k hk (fun h => h), keep_loc a1, fun k hk => ?_, a1.ilt, .inl ⟨.inl rfl, rfl, rfl⟩⟩
    rcases a1.inew k hk with h | h | h
    · exact .inl h
    · exact .inr h
    · exact h.elim
  · cases this

theorem heap_of_awp {f : FuncId} {fn : Func} {code : Code} {g : List AV → H → Nat → Option (AV × H × Nat)} (hf : P.funcs[f]? = some fn) (hb : fn.body = some code)
    (h : ∀ args hp nx r hp' nx', g args hp nx = some (r, hp', nx') → args.length ≤ fn.ntmps ∧ nx ≤ nx' ∧ ((∀ id, nx ≤ id → hp id = none) → Awp P GL fn.ntmps code (initS args hp nx) (heapQ P fn.results.toList r hp' nx'))) : HeapOK P GL f g := by
  intro c σ I w hp nx args vals r hp' nx' hGL hi hs hr hg
  obtain ⟨hlen, hle, haw⟩ := h args hp nx r hp' nx' hg
  refine ⟨hle, ?_⟩
  have hQ : ∀ e t, heapQ P fn.results.toList r hp' nx' e t → (e = .ret ∨ e = .normal) ∧ HeapEnd P fn.results.toList r hp' nx' t := by
    intro e t hq; cases e <;> first | exact ⟨.inl rfl, hq⟩ | exact ⟨.inr rfl, hq⟩ | exact hq.elim
  have hi' : Inv { c with nt := fn.ntmps, u0 := fun id => id < nx ∧ σ id = .unset } σ I w hp (fun id => nx ≤ id ∨ (id < nx ∧ σ id = .unset)) :=
    ⟨hi.ext, hi.imm, hi.iw, hi.os, hi.tape, hi.output, hi.size, hi.old, hi.ilt, hi.own, hi.inj, hi.lim, fun id h => h.elim (hi.un id) (fun h => h.2), hi.glob, hi.inew⟩
  refine run_fn hf hb { c with nt := fn.ntmps, u0 := fun id => id < nx ∧ σ id = .unset } hGL rfl hlen (fun e t hq => (hQ e t hq).1) (haw fun id hid => hi.none_un hid) hi' (fun _ h => h.1) hs hr ?_
  intro e t a w' hq hR
  obtain ⟨⟨σ', I', a1, a2, a3⟩, _⟩ := hR
  obtain ⟨q1, q2, q3⟩ := (hQ e t hq).2
  obtain ⟨v, hv, hrel⟩ := resA_sound (P := P) a1 a3 q1
  have a1' := a1.sub q2
  refine ⟨v, hv, v, σ', I', rfl, ?_, hrel, a2, fun id hid hun => a1.un id (.inr (.inr ⟨hid, hun⟩))⟩
  exact ⟨a1'.ext, a1'.imm, a1'.iw, a1'.os, a1'.tape, a1'.output, a1'.size, a1'.old, a1'.ilt, a1'.own, a1'.inj, a1'.lim, fun id h => a1'.un id (.inl (Nat.le_trans q3 h)), a1'.glob, a1'.inew⟩

end
end Go.AX
