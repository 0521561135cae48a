/-
  AX, part AyC: calls that panic: what has been done is left, and all own objects are given up. AX, part AyD: a region that draws its order and ends with a call that panics. AX, part AyE: functions that turn one own object in place, answer with what may be read from then on, or panic. AX, part AyF: functions that defer one closure, which recovers. AX, part AyG: a region that draws its order, walked in each order that it may take (where operations meet that need not wait for each other, such as a load of one own object and a store to another). AX, part AyH: a plain function that is handed a closure over an own object. AX, part AyI: a plain function that is handed something and a closure over an own object. AX, part AyJ: an own object that is no more written becomes a plain one. AX, part AyK: a region that draws its order, in which one pair of operations that don't wait for each other meets: two orders are walked. AX, more, part M: maps: evaluation.
-/
import Derived.Test.YtkpgebeipmedeaaDoorBD
import Derived.Defers
import Derived.Recover
namespace Go.AX
open Go

/-- The function panics so, wherever g answers: with the own objects that g tells. -/
def PanOK (P : Program) (GL : Nat → Option (List AV)) (f : FuncId) (ch : List PanicEntry) (g : List AV → H → Nat → Option (H × Nat)) : Prop :=
  ∀ (c : Ctx) (σ : Nat → Loc) (I : Nat → Prop) (w : World) (hp : H) (nx : Nat) (args : List AV) (vals : Array Value) (hp' : H) (nx' : Nat),
    c.GL = GL → Inv c σ I w hp (fun id => nx ≤ id) → vals.size = args.length → (∀ i (_h : i < args.length), Rel σ I w args[i] (vals.getD i undef)) → g args hp nx = some (hp', nx') →
    nx ≤ nx' ∧ Calls P f vals w fun e w' => ∃ σ' I', e = .panicked ch ∧ Inv c σ' I' w' hp' (fun id => nx' ≤ id) ∧ Grow σ I w σ' I' w' ∧ (∀ id, id < nx → σ id = .unset → σ' id = .unset)

/-- What an operation that calls a function comes to where that panics. -/
def panC (GL : Nat → Option (List AV)) (f : FuncId) (g : List AV → H → Nat → Option (H × Nat)) (Z : S → Prop) (o : LOp) (t : S) : Prop :=
  gdS t.fr o.g = some true ∧ match o.op with
    | .call c => match c.callee with
      | .value fo => match ev GL t.fr fo with
        | .fn f' caps => f' = f ∧ ∃ p, g (c.args.toList.map (ev GL t.fr) ++ caps) t.hp t.cx = some p ∧ Z { fr := t.fr, hp := p.1, nx := t.nx, cx := p.2 }
        | _ => False
      | _ => False
    | _ => False

structure PanEnd (hp' : H) (nx' : Nat) (t : S) : Prop where
  hp : ∀ id o, hp' id = some o → t.hp id = some o
  cx : t.cx ≤ nx'
def panQ (ch : List PanicEntry) (hp' : H) (nx' : Nat) : Exit → S → Prop
  | .panic c, t => c = ch ∧ PanEnd hp' nx' t
  | _, _ => False

section
variable {P : Program} {GL : Nat → Option (List AV)} {nt : Nat} {Q : Exit → S → Prop}

theorem gd_wanted {ops : Array Oper} {o : Oper} {fr : List (Nat × AV)} {a : Act} {σ : Nat → Loc} {I : Nat → Prop} {w : World} {b : Bool} (hb : gdO ops fr o = some b) (hf : ∀ t, Rel σ I w (look fr t) (a.tmps.getD t undef)) : Region.wanted o (yielded ops a.tmps) = b := by
  unfold gdO at hb
  cases hgd : o.guard with
  | none => rw [hgd] at hb; obtain rfl := Option.some.inj hb; simp [Region.wanted, hgd]
  | some jw =>
    obtain ⟨j, want⟩ := jw
    rw [hgd] at hb
    simp only at hb
    split at hb
    · rename_i t ht
      simp only [Region.wanted, hgd]
      exact guard_run (s := { fr := fr, hp := fun _ => none, nx := 0, cx := 0 }) ht hb hf
    · cases hb
theorem gd_light (ops : Array Oper) (fr : List (Nat × AV)) (o : Oper) : gdO ops fr o = gdS fr (light ops o).g := by
  unfold gdO light
  cases o.guard with
  | none => rfl
  | some p =>
    simp only [Option.map_some]
    cases (ops[p.1]?).bind (·.dst) <;> rfl

/-- An operation whose call panics. -/
theorem pan_op {c : Ctx} {σ0 : Nat → Loc} {I0 : Nat → Prop} {w0 : World} {rem : Nat → Prop} {t : S} {a : Act} {w : World} {ops : Array Oper} {o : Oper} {f : FuncId} {ch : List PanicEntry} {g : List AV → H → Nat → Option (H × Nat)} {K : Act → World → Prop} {Q' : Exit → Act → World → Prop}
    (hpan : PanOK P c.GL f ch g) (hcall : Callable P f) {Z : S → Prop} (hc : panC c.GL f g Z (light ops o) t) (hR : R c σ0 I0 w0 rem t a w)
    (hQ : ∀ t' a' w', Z t' → R c σ0 I0 w0 (fun _ => False) t' a' w' → Q' (.panic ch) a' w') :
    Region.wanted o (yielded ops a.tmps) = true ∧ o.wp P a w K Q' := by
  obtain ⟨hgd, hc⟩ := hc
  obtain ⟨⟨σ, I, hi, hg, hf⟩, hd, hsz, hlt, hlt0⟩ := hR
  refine ⟨gd_wanted (by rw [gd_light]; exact hgd) hf, ?_⟩
  have hρ := ev_rel hi hf
  obtain ⟨dst, op, type, pos, after, guard⟩ := o
  simp only [light] at hc
  split at hc
  rotate_left
  · exact hc.elim
  rename_i cl
  obtain ⟨callee, cargs, argTypes⟩ := cl
  simp only at hc
  split at hc
  rotate_left
  · exact hc.elim
  rename_i fo
  split at hc
  rotate_left
  · exact hc.elim
  rename_i f' caps hfo
  obtain ⟨rfl, ⟨hp', nx'⟩, hgt, hZ⟩ := hc
  have hfv := hρ fo
  rw [hfo] at hfv
  have hv : ∃ vs : Array Value, a.eval fo = .func (.func f') #[] vs ∧ vs.size = caps.length ∧ ∀ i (_h : i < caps.length), Rel σ I w caps[i] (vs.getD i undef) := by
    generalize a.eval fo = u at hfv
    cases hfv with
    | fn _ _ vs h1 h2 => exact ⟨vs, rfl, h1, h2⟩
  obtain ⟨vs, hv, hvs, hvr⟩ := hv
  have hsize : (cargs.map a.eval ++ vs).size = (cargs.toList.map (ev c.GL t.fr) ++ caps).length := by simp [hvs]
  have hargs : ∀ i (_h : i < (cargs.toList.map (ev c.GL t.fr) ++ caps).length), Rel σ I w (cargs.toList.map (ev c.GL t.fr) ++ caps)[i] ((cargs.map a.eval ++ vs).getD i undef) := by
    intro i hi'
    rw [List.getElem_append]
    rw [Array.getD_eq_getD_getElem?, Array.getElem?_append]
    split
    · rename_i hlt
      rw [if_pos (by simpa using hlt)]
      have := map_rel (l := cargs.toList) hρ i hlt
      rw [getD_list, List.getD_eq_getElem?_getD] at this
      have e : (Array.map a.eval cargs)[i]? = (List.map a.eval cargs.toList)[i]? := by rw [← Array.toList_map, Array.getElem?_toList]
      rw [e]; exact this
    · rename_i hge
      rw [if_neg (by simpa using hge)]
      simp only [List.length_map, Array.length_toList, Array.size_map] at hge ⊢
      have := hvr (i - cargs.size) (by simp at hi'; omega)
      rw [Array.getD_eq_getD_getElem?] at this
      exact this
  obtain ⟨fn, h1, h2, h3⟩ := hcall
  have hrun : (execOp a.eval { dst := dst, op := .call { callee := .value fo, args := cargs, argTypes := argTypes }, type := type, pos := pos, after := after, guard := guard }).run P w = .ok (.enter f' (cargs.map a.eval ++ vs)) w := by
    simp only [execOp, resolve, hv, Deferred.ofValue, Array.empty_append, Sem.run_bind, Sem.run_pure, Result.andThen_ok, invoke, callFunc, run_program, h1, h2, h3, Bool.false_eq_true, if_false]
  unfold Oper.wp
  rw [hrun]
  obtain ⟨hle, hcalls⟩ := hpan c σ I w t.hp t.cx _ _ hp' nx' rfl (hi.mono_un fun id hid => .inl hid) hsize hargs hgt
  refine hcalls.mono ?_
  rintro e w' ⟨σ', I', rfl, hinv, hgr, hun⟩
  refine hQ _ a w' hZ ⟨⟨σ', I', { hinv with un := fun id hid => ?_ }, hg.trans hgr, fun k => (hf k).grow hgr⟩, hd, hsz, fun _ h => h.elim, fun id hid => ⟨(hlt0 id hid).1, Nat.lt_of_lt_of_le (hlt0 id hid).2 hle⟩⟩
  rcases hid with hid | ⟨k, hk, _⟩ | hid
  · exact hinv.un id hid
  · exact hk.elim
  · exact hun id (hlt0 id hid).2 (hi.un id (.inr (.inr hid)))

theorem runL_pan {Γ : Env} {c : Ctx} {σ0 : Nat → Loc} {I0 : Nat → Prop} {w0 : World} {md : Nat → Nat} (hΓ : EnvOK P c.GL Γ) {ops : Array Oper} {Q' : Exit → Act → World → Prop} (hdst : okDst c.nt ops.toList = true) {t : S} {o : Oper} {post : List Oper}
    {f : FuncId} {ch : List PanicEntry} {g : List AV → H → Nat → Option (H × Nat)} (hpan : PanOK P c.GL f ch g) (hcall : Callable P f) {Z : S → Prop} (hc : panC c.GL f g Z (light ops o) t)
    (hQ : ∀ t' a' w', Z t' → R c σ0 I0 w0 (fun _ => False) t' a' w' → Q' (.panic ch) a' w') :
    ∀ (l : List Oper) (k : Nat) (s : S) (a : Act) (w : World), (∀ o ∈ l, o ∈ ops.toList) → k + l.length < ops.size → runL P Γ c.GL md ops k l s = some t → R c σ0 I0 w0 (fun m => k ≤ m ∧ m < ops.size) s a w → wpList P ops Q' (l ++ o :: post) a w
  | [], k, s, a, w, _, hk, h, hR => by
    obtain rfl := Option.some.inj h
    obtain ⟨h1, h2⟩ := pan_op (K := wpList P ops Q' post) (ops := ops) hpan hcall hc hR hQ
    rw [List.nil_append]
    unfold wpList
    rw [if_pos h1]; exact .inl h2
  | x :: r, k, s, a, w, hmem, hk, h, hR => by
    simp only [runL] at h
    replace h := obind_inv h; obtain ⟨s1, hs1, h⟩ := h
    simp only [List.length_cons] at hk
    have := step_sound (K := wpList P ops Q' (r ++ o :: post)) (Q := Q') hΓ hs1 (okDst_mem hdst (hmem x (by simp))) (rem := fun m => k ≤ m ∧ m < ops.size) ⟨Nat.le_refl _, by omega⟩ hR (fun a' w' hR' =>
      runL_pan hΓ hdst hpan hcall hc hQ r (k + 1) s1 a' w' (fun o ho => hmem o (by simp [ho])) (by omega) h (hR'.un fun m hm => ⟨⟨by omega, hm.2⟩, by omega⟩))
    rw [List.cons_append]
    unfold wpList
    split
    · rename_i hw; rw [if_pos hw] at this; exact .inl this
    · rename_i hw; rw [if_neg hw] at this; exact this

def panK (GL : Nat → Option (List AV)) (f : FuncId) (g : List AV → H → Nat → Option (H × Nat)) (Z : S → Prop) : Option LOp → S → Prop
  | some o, t => panC GL f g Z o t
  | none, _ => False
def panV (f : FuncId) (g : List AV → H → Nat → Option (H × Nat)) (Z : S → Prop) (args : List AV) (fr : List (Nat × AV)) (hp : H) (nx cx : Nat) : AV → Prop
  | .fn f' caps => f' = f ∧ ∃ p, g (args ++ caps) hp cx = some p ∧ Z { fr := fr, hp := p.1, nx := nx, cx := p.2 }
  | _ => False
theorem panK_call (GL : Nat → Option (List AV)) (f : FuncId) (g : List AV → H → Nat → Option (H × Nat)) (Z : S → Prop) (d : Option Tmp) (fo : Operand) (args : Array Operand) (ty : Array TypeId) (fr : List (Nat × AV)) (hp : H) (nx cx : Nat) (gd : Option (Option Tmp × Bool)) :
    panK GL f g Z (some { d := d, op := .call { callee := .value fo, args := args, argTypes := ty }, g := gd }) { fr := fr, hp := hp, nx := nx, cx := cx } = (gdS fr gd = some true ∧ panV f g Z (args.toList.map (ev GL fr)) fr hp nx cx (ev GL fr fo)) := by
  simp only [panK, panC]
  unfold panV
  cases ev GL fr fo <;> rfl
theorem panV_fn (f f' : FuncId) (g : List AV → H → Nat → Option (H × Nat)) (Z : S → Prop) (args caps : List AV) (fr : List (Nat × AV)) (hp : H) (nx cx : Nat) : panV f g Z args fr hp nx cx (.fn f' caps) = (f' = f ∧ ∃ p, g (args ++ caps) hp cx = some p ∧ Z { fr := fr, hp := p.1, nx := nx, cx := p.2 }) := (rfl)
theorem pan_some {o : Option (H × Nat)} {Z : H × Nat → Prop} {p : H × Nat} (h : o = some p) : (∃ q, o = some q ∧ Z q) = Z p := by
  subst h
  exact propext ⟨fun ⟨_, e, h⟩ => by obtain rfl := Option.some.inj e; exact h, fun h => ⟨p, rfl, h⟩⟩
theorem ex_some (p : H × Nat) (Z : H × Nat → Prop) : (∃ q, some p = some q ∧ Z q) = Z p := pan_some rfl
theorem awp_panP {s : S} {code : Code} {Γ : Env} (k : Nat) {f : FuncId} {ch : List PanicEntry} {g : List AV → H → Nat → Option (H × Nat)} (hpan : PanOK P GL f ch g) (hcall : Callable P f) (hΓ : EnvOK P GL Γ) (hc : isReg code = true) (hd : rDraw code = false) (ho : okDst nt (rOps code).toList = true)
    (h : ∀ Z : S → Prop, (∀ t, Q (.panic ch) t → Z t) → someP (runQ P Γ GL (fun _ => 0) (rN code) ((lights code).take k) (enterR (rN code) s)) (panK GL f g Z (lights code)[k]?)) : Awp P GL nt code s Q := by
  replace h := h (Q (.panic ch)) fun _ h => h
  cases code with
  | region id ops dr =>
    simp only [rDraw] at hd
    subst hd
    intro c h1 h2 σ0 I0 w0 a w hR
    subst h1; subst h2
    have hk : ∃ o, ops.toList[k]? = some o := by
      cases e : ops.toList[k]? with
      | some o => exact ⟨o, rfl⟩
      | none =>
        have : (lights (.region id ops false))[k]? = none := by simp only [lights, rOps, List.getElem?_map, e, Option.map_none]
        rw [this] at h
        unfold someP at h
        split at h
        · exact h.elim
        · exact h.elim
    obtain ⟨o, hk⟩ := hk
    have hl : (lights (.region id ops false))[k]? = some (light ops o) := by simp only [lights, rOps, List.getElem?_map, hk, Option.map_some]
    have ht : (lights (.region id ops false)).take k = (ops.toList.take k).map (light ops) := by simp only [lights, rOps, List.map_take]
    rw [hl, ht] at h
    have hr : runQ P Γ c.GL (fun _ => 0) (rN (.region id ops false)) ((ops.toList.take k).map (light ops)) (enterR (rN (.region id ops false)) s) = runL P Γ c.GL (fun _ => 0) ops 0 (ops.toList.take k) (enterR ops.size s) := by
      rw [run_eq]; rfl
    rw [hr] at h
    have hex : ∃ t, runL P Γ c.GL (fun _ => 0) ops 0 (ops.toList.take k) (enterR ops.size s) = some t ∧ panC c.GL f g (Q (.panic ch)) (light ops o) t := by
      unfold someP at h
      split at h
      · rename_i t e; exact ⟨t, e, h⟩
      · exact h.elim
    obtain ⟨t, e1, e2⟩ := hex
    have hlt : k < ops.toList.length := (List.getElem?_eq_some_iff.1 hk).1
    have hsplit : ops.toList = ops.toList.take k ++ o :: ops.toList.drop (k + 1) := by
      have := (List.getElem?_eq_some_iff.1 hk).2
      rw [← this, ← List.drop_eq_getElem_cons hlt, List.take_append_drop]
    refine wp_region_list ?_
    have := runL_pan (post := ops.toList.drop (k + 1)) (Q' := fun e a' w' => ∃ s', Q e s' ∧ R c σ0 I0 w0 (fun _ => False) s' a' w') hΓ ho hpan hcall e2 (fun t' a' w' hZ hR' => ⟨t', hZ, hR'⟩) (ops.toList.take k) 0 (enterR ops.size s) a w (fun _ h => List.mem_of_mem_take h) (by show 0 + (ops.toList.take k).length < ops.size; rw [Nat.zero_add, List.length_take]; have : ops.toList.length = ops.size := Array.length_toList; omega) e1 ((hR.enter ops.size).un fun _ hm => hm.2)
    rw [← hsplit] at this; exact this
  | _ => cases hc

theorem pan_of_awp {f : FuncId} {fn : Func} {code : Code} {ch : List PanicEntry} {g : List AV → H → Nat → Option (H × Nat)} (hf : P.funcs[f]? = some fn) (hb : fn.body = some code)
    (h : ∀ args hp nx hp' nx', g args hp nx = some (hp', nx') → args.length ≤ fn.ntmps ∧ nx ≤ nx' ∧ ((∀ id, nx ≤ id → hp id = none) → Awp P GL fn.ntmps code (initS args hp nx) (panQ ch hp' nx'))) : PanOK P GL f ch g := by
  intro c σ I w hp nx args vals hp' nx' hGL hi hs hr hg
  obtain ⟨hlen, hle, haw⟩ := h args hp nx hp' nx' hg
  refine ⟨hle, ?_⟩
  have hi' : Inv { c with nt := fn.ntmps, u0 := fun id => id < nx ∧ σ id = .unset, df := [] } σ I w hp (fun id => nx ≤ id ∨ (id < nx ∧ σ id = .unset)) :=
    ⟨hi.ext, hi.imm, hi.iw, hi.os, hi.tape, hi.output, hi.size, hi.old, hi.ilt, hi.own, hi.inj, hi.lim, fun id h => h.elim (hi.un id) (fun h => h.2), hi.glob, hi.inew⟩
  refine calls_of_wp hf hb (wp_mono (haw (fun id hid => hi.none_un hid) { c with nt := fn.ntmps, u0 := fun id => id < nx ∧ σ id = .unset, df := [] } hGL rfl σ I w { tmps := vals ++ Array.replicate (fn.ntmps - vals.size) undef, defers := [] } w ?_) ?_)
  · refine ⟨⟨σ, I, ?_, Grow.refl _ _ _, fun t => look_init hs hr t⟩, rfl, by simp [hs]; omega, fun k hk => hk.elim, fun id hid => ⟨hid.1, hid.1⟩⟩
    refine hi'.mono_un fun id hid => ?_
    rcases hid with hid | ⟨k, hk, _⟩ | hid
    · exact .inl hid
    · exact hk.elim
    · exact .inr hid
  · rintro e a' w' ⟨t, hq, hR⟩
    have hd := hR.defers
    obtain ⟨⟨σ', I', a1, a2, a3⟩, _⟩ := hR
    cases e with
    | panic c' =>
      obtain ⟨rfl, q2, q3⟩ := hq
      have a1' := a1.sub q2
      refine ⟨hd, σ', I', rfl, ?_, a2, fun id hid hun => a1.un id (.inr (.inr ⟨hid, hun⟩))⟩
      exact ⟨a1'.ext, a1'.imm, a1'.iw, a1'.os, a1'.tape, a1'.output, a1'.size, a1'.old, a1'.ilt, a1'.own, a1'.inj, a1'.lim, fun id h => a1'.un id (.inl (Nat.le_trans q3 h)), a1'.glob, a1'.inew⟩
    | _ => exact hq.elim
end
end Go.AX

namespace Go.AX
open Go

section
variable {P : Program} {Γ : Env} {c : Ctx} {σ0 : Nat → Loc} {I0 : Nat → Prop} {w0 : World} {md : Nat → Nat} {ops : Array Oper}

theorem drawn_pan (hΓ : EnvOK P c.GL Γ) {Q : Exit → Act → World → Prop} (hdst : okDst c.nt ops.toList = true) (hok : okDraw P Γ md ops = true) {m : Nat} {o : Oper} (hm : ops[m]? = some o) (hn : ops.size = m + 1)
    (hb : ∀ j, j < m → ((Region.before ops).getD m 0).testBit j = true) {s' : S}
    (hP : ∀ a w, R c σ0 I0 w0 (fun k => k = m) s' a w → Region.wanted o (yielded ops a.tmps) = true ∧ ∀ K, o.wp P a w K Q) :
    ∀ (fuel : Nat) (listed : Array Bool) (s sf : S) (a : Act) (w : World), listed.size = ops.size → listed.getD m true = false → (unl ops.size listed).length ≤ fuel →
      (∀ m o, listed.getD m false = true → ops[m]? = some o → ∀ e ∈ o.after, Region.binds .any e = true → listed.getD e.on false = true) →
      runIx P Γ c.GL md ops ((unl ops.size listed).filter (· != m)) s = some sf → Seqv s' sf → R c σ0 I0 w0 (fun k => k ∈ unl ops.size listed) s a w → wpAny P .any ops Q fuel listed a w := by
  have hchk : ∀ j y, ops[j]? = some y → (∀ e ∈ y.after, Region.binds .any e = true → e.on < j) ∧ ∀ i x, i < j → ops[i]? = some x → ((Region.before ops).getD j 0).testBit i = true ∨ (x.apart ops y = true ∧ compat i j (dcOf P Γ (md i) x.op) (dcOf P Γ (md j) y.op) = true) := by
    intro j y hy
    have hlt := (Array.getElem?_eq_some_iff.1 hy).1
    have h := List.all_eq_true.1 hok j (List.mem_range.2 hlt)
    simp only [hy, Bool.and_eq_true] at h
    refine ⟨fun e he hb => ?_, fun i x hi hx => ?_⟩
    · have := Array.all_eq_true_iff_forall_mem.1 h.1 e he
      simpa [hb] using this
    · have := List.all_eq_true.1 h.2 i (List.mem_range.2 hi)
      simp only [hx, Bool.or_eq_true, Bool.and_eq_true] at this
      exact this
  have mem_unl : ∀ (listed : Array Bool) i, i ∈ unl ops.size listed ↔ i < ops.size ∧ listed.getD i true = false := by
    intro listed i; simp [unl]
  have noready : ∀ (listed : Array Bool), listed.size = ops.size → Region.ready .any ops listed = [] → unl ops.size listed = [] := by
    intro listed hsz hr
    refine List.eq_nil_iff_forall_not_mem.2 fun i => ?_
    induction i using Nat.strongRecOn with
    | _ i ih =>
      intro hi
      obtain ⟨hlt, hun⟩ := (mem_unl listed i).1 hi
      have : i ∈ Region.ready .any ops listed := by
        rw [mem_ready]
        refine ⟨hun, ops[i], Array.getElem?_eq_getElem hlt, fun e he hb => ?_⟩
        have hlt' := (hchk i _ (Array.getElem?_eq_getElem hlt)).1 e he hb
        have hn := ih e.on hlt'
        rw [mem_unl] at hn
        have hs2 : e.on < listed.size := by omega
        rw [Array.getD_eq_getD_getElem?, Array.getElem?_eq_getElem hs2] at hn ⊢
        simp only [Option.getD_some] at hn ⊢
        cases hv : listed[e.on] with
        | true => rfl
        | false => exact absurd ⟨by omega, hv⟩ hn
      rw [hr] at this; cases this
  have hmu : ∀ (listed : Array Bool), listed.getD m true = false → m ∈ unl ops.size listed := fun listed h => (mem_unl listed m).2 ⟨by omega, h⟩
  intro fuel
  induction fuel with
  | zero =>
    intro listed s sf a w hsz hml hlen hdc hrun heq hR
    have h0 : unl ops.size listed = [] := List.eq_nil_of_length_eq_zero (by omega)
    have := hmu listed hml
    rw [h0] at this; cases this
  | succ fuel ih =>
    intro listed s sf a w hsz hml hlen hdc hrun heq hR
    refine ⟨fun hr => ?_, fun i hi => ?_⟩
    · have h0 := noready listed hsz hr
      have := hmu listed hml
      rw [h0] at this; cases this
    obtain ⟨hun, x, hx, hall⟩ := mem_ready.1 hi
    have hlt := (Array.getElem?_eq_some_iff.1 hx).1
    have hmem : i ∈ unl ops.size listed := (mem_unl listed i).2 ⟨hlt, hun⟩
    have hanc : ∀ m j, Anc ops m j → (∀ o, ops[m]? = some o → ∀ e ∈ o.after, Region.binds .any e = true → listed.getD e.on false = true) → listed.getD j false = true := by
      intro m j ha
      induction ha with
      | edge ho he hb => exact fun h => h _ ho _ he hb
      | step ho he hb _ ih2 => exact fun h => ih2 fun o ho' e' he' hb' => hdc _ o (h _ ho _ he hb) ho' e' he' hb'
    by_cases him : i = m
    · subst him
      rw [hm] at hx
      obtain rfl := Option.some.inj hx
      have hlisted : ∀ j, j < i → j ∉ unl ops.size listed := by
        intro j hj hju
        have h1 := hanc i j (before_anc ops i j (hb j hj)) (fun o' ho e he hb => by rw [hm] at ho; obtain rfl := Option.some.inj ho; exact hall e he hb)
        have h2 := ((mem_unl listed j).1 hju).2
        have hs2 : j < listed.size := by omega
        rw [Array.getD_eq_getD_getElem?, Array.getElem?_eq_getElem hs2] at h1 h2
        simp only [Option.getD_some] at h1 h2
        rw [h1] at h2; cases h2
      have honly : ∀ j, j ∈ unl ops.size listed → j = i := by
        intro j hj
        have := ((mem_unl listed j).1 hj).1
        apply Classical.byContradiction
        intro hne
        exact hlisted j (by omega) hj
      have hnil : (unl ops.size listed).filter (· != i) = [] := by
        refine List.filter_eq_nil_iff.2 fun j hj => ?_
        rw [honly j hj]; simp
      rw [hnil] at hrun
      obtain rfl := Option.some.inj hrun
      obtain ⟨h1, h2⟩ := hP a w ((hR.un fun k hk => by subst hk; exact hmem).eqv heq.symm)
      unfold wpOp
      simp only [hm]
      rw [if_pos h1]; exact .inl (h2 _)
    · have hmem2 : i ∈ (unl ops.size listed).filter (· != m) := List.mem_filter.2 ⟨hmem, by simpa using him⟩
      obtain ⟨l1, l2, hl⟩ := List.append_of_mem hmem2
      have hpw : ((unl ops.size listed).filter (· != m)).Pairwise (· < ·) := List.Pairwise.filter _ (List.Pairwise.filter _ List.pairwise_lt_range)
      rw [hl] at hpw hrun
      have hlt1 : ∀ j ∈ l1, j < i := fun j hj => (List.pairwise_append.1 hpw).2.2 j hj i (by simp)
      have hlt2 : ∀ j ∈ l2, i < j := fun j hj => (List.pairwise_cons.1 (List.pairwise_append.1 hpw).2.1).1 j hj
      obtain ⟨s1, sf1, f1, f2, f3⟩ := forward hx l1 l2 (fun j hj => by
        have hjm : j ∈ unl ops.size listed := (List.mem_filter.1 (show j ∈ (unl ops.size listed).filter (· != m) by rw [hl]; simp [hj])).1
        obtain ⟨hjlt, hjun⟩ := (mem_unl listed j).1 hjm
        refine ⟨by have := hlt1 j hj; omega, ops[j], Array.getElem?_eq_getElem hjlt, ?_⟩
        rcases (hchk i x hx).2 j _ (hlt1 j hj) (Array.getElem?_eq_getElem hjlt) with h | h
        · have := hanc i j (before_anc ops i j h) (fun o ho e he hb => by rw [hx] at ho; obtain rfl := Option.some.inj ho; exact hall e he hb)
          have hs2 : j < listed.size := by omega
          rw [Array.getD_eq_getD_getElem?, Array.getElem?_eq_getElem hs2] at hjun this
          simp only [Option.getD_some] at hjun this
          rw [hjun] at this; cases this
        · exact h) hrun
      have e0 : unl ops.size (listed.setIfInBounds i true) = (unl ops.size listed).filter (fun k => k != i) := by
        unfold unl
        rw [List.filter_filter]
        refine List.filter_congr fun k hk => ?_
        by_cases hki : k = i
        · subst hki
          rw [Array.getD_eq_getD_getElem?, Array.getElem?_setIfInBounds_self_of_lt (by omega)]; simp
        · rw [getD_set_ne true (Ne.symm hki)]
          simp [hki]
      have hnew : (unl ops.size (listed.setIfInBounds i true)).filter (· != m) = l1 ++ l2 := by
        have e1 : (unl ops.size (listed.setIfInBounds i true)).filter (· != m) = ((unl ops.size listed).filter (· != m)).filter (fun k => k != i) := by
          rw [e0, List.filter_filter, List.filter_filter]
          refine List.filter_congr fun k _ => Bool.and_comm _ _
        rw [e1, hl, List.filter_append, List.filter_cons]
        simp only [bne_self_eq_false, Bool.false_eq_true, if_false]
        congr 1
        · exact List.filter_eq_self.2 fun k hk => by have := hlt1 k hk; simp; omega
        · exact List.filter_eq_self.2 fun k hk => by have := hlt2 k hk; simp; omega
      have hlen2 : (unl ops.size (listed.setIfInBounds i true)).length < (unl ops.size listed).length := by
        rw [e0]
        refine Nat.lt_of_le_of_ne (List.length_filter_le _ _) fun e => ?_
        have := List.length_filter_eq_length_iff.1 e i hmem
        simp at this
      have hstep := step_sound (K := wpAny P .any ops Q fuel (listed.setIfInBounds i true)) (Q := Q) (ops := ops) hΓ f1 (okDst_mem hdst (Array.mem_toList_iff.2 (Array.mem_of_getElem? hx))) (rem := fun k => k ∈ unl ops.size listed) hmem hR (fun a' w' hR' =>
        ih (listed.setIfInBounds i true) s1 sf1 a' w' (by simpa using hsz) (by rw [getD_set_ne true him]; exact hml) (by omega) (fun m' o' hm' ho e he hb => by
            by_cases hmi : m' = i
            · subst hmi
              rw [hx] at ho; obtain rfl := Option.some.inj ho
              exact getD_set_true (hall e he hb)
            · rw [getD_set_ne false (Ne.symm hmi)] at hm'
              exact getD_set_true (hdc m' o' hm' ho e he hb))
          (by rw [hnew]; exact f2) (heq.trans f3) (hR'.un fun k hk => by
            rw [e0, List.mem_filter] at hk
            exact ⟨hk.1, by simpa using hk.2⟩))
      unfold wpOp
      simp only [hx]
      split
      · rename_i hw; rw [if_pos hw] at hstep; exact .inl hstep
      · rename_i hw; rw [if_neg hw] at hstep; exact hstep
end

def befAll (c : Code) (m : Nat) : Bool := (List.range m).all fun j => ((Region.before (rOps c)).getD m 0).testBit j
theorem awp_panD {P : Program} {GL : Nat → Option (List AV)} {nt : Nat} {Q : Exit → S → Prop} {s : S} {code : Code} {Γ : Env} (k : Nat) (md : Nat → Nat) {f : FuncId} {ch : List PanicEntry} {g : List AV → H → Nat → Option (H × Nat)} (hm : P.follows .mixedOrders = true) (hpan : PanOK P GL f ch g) (hcall : Callable P f) (hΓ : EnvOK P GL Γ) (hc : isReg code = true) (hd : rDraw code = true) (ho : okDst nt (rOps code).toList = true)
    (hk : okDraw P Γ md (rOps code) = true) (hn : (rOps code).size = k + 1) (hb : befAll code k = true)
    (h : ∀ Z : S → Prop, (∀ t, Q (.panic ch) t → Z t) → someP (runQ P Γ GL md (rN code) ((lights code).take k) (enterR (rN code) s)) (panK GL f g Z (lights code)[k]?)) : Awp P GL nt code s Q := by
  replace h := h (Q (.panic ch)) fun _ h => h
  cases code with
  | region id ops dr =>
    simp only [rDraw] at hd
    subst hd
    intro c h1 h2 σ0 I0 w0 a w hR
    subst h1; subst h2
    simp only [rOps] at hn ho hk
    have hlt : k < ops.toList.length := by rw [Array.length_toList]; omega
    have hk2 : ops.toList[k]? = some ops.toList[k] := List.getElem?_eq_getElem hlt
    obtain ⟨o, hko⟩ : ∃ o, ops.toList[k] = o := ⟨_, rfl⟩
    rw [hko] at hk2
    have hka : ops[k]? = some o := by rw [← Array.getElem?_toList]; exact hk2
    have hl : (lights (.region id ops true))[k]? = some (light ops o) := by simp only [lights, rOps, List.getElem?_map, hk2, Option.map_some]
    have ht : (lights (.region id ops true)).take k = (ops.toList.take k).map (light ops) := by simp only [lights, rOps, List.map_take]
    rw [hl, ht] at h
    have hr : runQ P Γ c.GL md (rN (.region id ops true)) ((ops.toList.take k).map (light ops)) (enterR (rN (.region id ops true)) s) = runL P Γ c.GL md ops 0 (ops.toList.take k) (enterR ops.size s) := by
      rw [run_eq]; rfl
    rw [hr] at h
    obtain ⟨t, e1, e2⟩ := someP_inv h
    have h0 : unl ops.size (Array.replicate ops.size false) = List.range ops.size := by
      unfold unl
      refine List.filter_eq_self.2 fun k hk => ?_
      rw [List.mem_range] at hk
      rw [Array.getD_eq_getD_getElem?, Array.getElem?_replicate, if_pos hk]; rfl
    have h0f : (unl ops.size (Array.replicate ops.size false)).filter (· != k) = List.range k := by
      rw [h0, hn, List.range_succ, List.filter_append]
      have a1 : (List.range k).filter (· != k) = List.range k := List.filter_eq_self.2 fun j hj => by have := List.mem_range.1 hj; simp; omega
      rw [a1]; simp
    have hbk : ∀ j, j < k → ((Region.before ops).getD k 0).testBit j = true := fun j hj => List.all_eq_true.1 hb j (List.mem_range.2 hj)
    have hlk : (ops.toList.take k).length = k := by rw [List.length_take]; omega
    have hrun2 : runIx P Γ c.GL md ops (List.range k) (enterR ops.size s) = some t := by
      have hgen : ∀ (l : List Oper) (q : Nat) (s : S), (∀ m, m < l.length → l[m]? = ops[q + m]?) → runL P Γ c.GL md ops q l s = runIx P Γ c.GL md ops (List.range' q l.length) s := by
        intro l
        induction l with
        | nil => intro q s _; rfl
        | cons o r ih =>
          intro q s hq
          have h0 : ops[q]? = some o := by have := (hq 0 (by simp)).symm; simpa using this
          simp only [runL, List.length_cons, List.range'_succ, runIx, h0]
          congr 1
          funext s'
          exact ih (q + 1) s' (fun m hm => by have := hq (m + 1) (by simpa using hm); simpa [Nat.add_assoc, Nat.add_comm 1 m] using this)
      have := hgen (ops.toList.take k) 0 (enterR ops.size s) (fun m hm => by rw [hlk] at hm; rw [List.getElem?_take, if_pos hm, Nat.zero_add, Array.getElem?_toList])
      rw [hlk] at this
      rw [List.range_eq_range', ← this]; exact e1
    refine wp_region_any hm (drawn_pan (σ0 := σ0) (I0 := I0) (w0 := w0) hΓ ho hk hka hn hbk (fun a' w' hR' => ?_) ops.size _ (enterR ops.size s) t a _ (by simp) ?_ (by rw [h0]; simp) (fun m o hl => ?_) (by rw [h0f]; exact hrun2) (Seqv.refl _) ?_)
    · have key := fun K => pan_op (K := K) (ops := ops) (Q' := fun e a' w' => ∃ s', Q e s' ∧ R c σ0 I0 w0 (fun _ => False) s' a' w') hpan hcall e2 hR' (fun t' a' w' hZ hR' => ⟨t', hZ, hR'⟩)
      exact ⟨(key fun _ _ => True).1, fun K => (key K).2⟩
    · rw [Array.getD_eq_getD_getElem?, Array.getElem?_replicate, if_pos (by omega)]; rfl
    · rw [Array.getD_eq_getD_getElem?, Array.getElem?_replicate] at hl; split at hl <;> cases hl
    · exact ((hR.enter ops.size).un fun k hk => by rw [h0] at hk; exact List.mem_range.1 hk).world rfl rfl rfl rfl
  | _ => cases hc
end Go.AX

namespace Go.AX
open Go

def rdH (g : List AV → List AV → Option (Option (AV × List AV))) : List AV → H → Nat → Option (AV × H × Nat)
  | .op id off :: rest, hp, nx => obind (hp id) fun o => match o with
    | .cells xs mt => guardO (mt = true) (obind (g (.op id off :: rest) xs) fun p => obind p fun q => some (q.1, upd hp id (.cells q.2 true), nx))
    | _ => none
  | _, _, _ => none
def rdP (g : List AV → List AV → Option (Option (AV × List AV))) : List AV → H → Nat → Option (H × Nat)
  | .op id off :: rest, hp, nx => obind (hp id) fun o => match o with
    | .cells xs mt => guardO (mt = true) (obind (g (.op id off :: rest) xs) fun p => match p with
      | some _ => none
      | none => some (del hp id, nx))
    | _ => none
  | _, _, _ => none
def rdO (g : List AV → List AV → Option (Option (AV × List AV))) (args : List AV) (id : Nat) (hp : H) (nx : Nat) : AO → Option (AV × H × Nat)
  | .cells xs mt => guardO (mt = true) (obind (g args xs) fun p => obind p fun q => some (q.1, upd hp id (.cells q.2 true), nx))
  | _ => none
theorem rdH_op (g : List AV → List AV → Option (Option (AV × List AV))) (id off : Nat) (rest : List AV) (hp : H) (nx : Nat) : rdH g (.op id off :: rest) hp nx = obind (hp id) (rdO g (.op id off :: rest) id hp nx) := by
  unfold rdH rdO; rfl
theorem rdO_c (g : List AV → List AV → Option (Option (AV × List AV))) (args : List AV) (id : Nat) (hp : H) (nx : Nat) (xs : List AV) (mt : Bool) : rdO g args id hp nx (.cells xs mt) = guardO (mt = true) (obind (g args xs) fun p => obind p fun q => some (q.1, upd hp id (.cells q.2 true), nx)) := (rfl)
def rdR (id : Nat) (hp : H) (nx : Nat) : Option (AV × List AV) → Option (H × Nat)
  | some _ => none
  | none => some (del hp id, nx)
def rdU (g : List AV → List AV → Option (Option (AV × List AV))) (args : List AV) (id : Nat) (hp : H) (nx : Nat) : AO → Option (H × Nat)
  | .cells xs mt => guardO (mt = true) (obind (g args xs) (rdR id hp nx))
  | _ => none
theorem rdP_op (g : List AV → List AV → Option (Option (AV × List AV))) (id off : Nat) (rest : List AV) (hp : H) (nx : Nat) : rdP g (.op id off :: rest) hp nx = obind (hp id) (rdU g (.op id off :: rest) id hp nx) := by
  unfold rdP rdU rdR; rfl
theorem rdU_c (g : List AV → List AV → Option (Option (AV × List AV))) (args : List AV) (id : Nat) (hp : H) (nx : Nat) (xs : List AV) (mt : Bool) : rdU g args id hp nx (.cells xs mt) = guardO (mt = true) (obind (g args xs) (rdR id hp nx)) := (rfl)
theorem rdR_n (id : Nat) (hp : H) (nx : Nat) : rdR id hp nx none = some (del hp id, nx) := (rfl)
theorem ob_s {α β : Type} (x : α) (f : α → Option β) : obind (some x) f = f x := (rfl)
attribute [go_sem] rdH_op rdO_c rdP_op rdU_c rdR_n
theorem b_eql_sl (P : Program) (t : TypeId) (n : Nat) (xs : List AV) : binT P .eql t (.sl n xs) (.v (.slice none 0 0)) = guardO (isSlT P t = true ∧ 0 < n) (some (.b false)) := (rfl)
theorem b_neq_sl (P : Program) (t : TypeId) (n : Nat) (xs : List AV) : binT P .neq t (.sl n xs) (.v (.slice none 0 0)) = guardO (isSlT P t = true ∧ 0 < n) (some (.b true)) := (rfl)
theorem b_eql_os (P : Program) (t : TypeId) (i off n e : Nat) (g : Bool) : binT P .eql t (.os i off n e g) (.v (.slice none 0 0)) = guardO (isSlT P t = true ∧ 0 < n) (some (.b false)) := (rfl)
theorem b_neq_os (P : Program) (t : TypeId) (i off n e : Nat) (g : Bool) : binT P .neq t (.os i off n e g) (.v (.slice none 0 0)) = guardO (isSlT P t = true ∧ 0 < n) (some (.b true)) := (rfl)
attribute [go_sem] b_eql_sl b_neq_sl b_eql_os b_neq_os
theorem b_neq_if (P : Program) (t t' : TypeId) (v : Value) : binT P .neq t (.v (.iface t' v)) (.v .nilIface) = guardO (isIfT P t = true) (some (.b true)) := (rfl)
theorem b_eql_if (P : Program) (t t' : TypeId) (v : Value) : binT P .eql t (.v (.iface t' v)) (.v .nilIface) = guardO (isIfT P t = true) (some (.b false)) := (rfl)
def tasV (P : Program) (t : TypeId) : AV → Option AV
  | .v (.iface t' v) => guardO (t' = t ∧ isIfT P t = false ∧ (P.underlying t).isSome = true) (some (.tup [ofV v, .b true]))
  | _ => none
theorem tasV_if (P : Program) (t t' : TypeId) (v : Value) : tasV P t (.v (.iface t' v)) = guardO (t' = t ∧ isIfT P t = false ∧ (P.underlying t).isSome = true) (some (.tup [ofV v, .b true])) := (rfl)
theorem e_tas {P : Program} {Γ : Env} {ρ : Operand → AV} {m nx n id cx : Nat} {hp : H} {x : Operand} {xt t : TypeId} : eff P Γ (.typeAssert x xt t true) ρ m nx n hp id cx = obind (tasV P t (ρ x)) fun y => some (y, hp, cx) := by
  simp only [eff, cls, pureOp, tasV]
  generalize ρ x = y
  cases y <;> first | rfl | (rename_i v; cases v <;> rfl)
theorem ofv_nif : ofV .nilIface = .v .nilIface := (rfl)
attribute [go_sem] b_neq_if b_eql_if tasV_if e_tas ofv_nif
theorem im4_fn (hp : H) (f xs) : immF 4 hp (.fn f xs) = obind (immL (immF 3 hp) xs) fun l => some (.fn f l) := (rfl)
theorem im3_fn (hp : H) (f xs) : immF 3 hp (.fn f xs) = obind (immL (immF 2 hp) xs) fun l => some (.fn f l) := (rfl)
theorem noOwn_fn (f xs r) : noOwn (.fn f xs :: r) = false := (rfl)
attribute [go_sem] im4_fn im3_fn noOwn_fn
structure RdEnd (P : Program) (rs : List ResultVar) (r : AV) (id : Nat) (ys : List AV) (t : S) : Prop where
  res : obind (resA P rs t) (immF 4 (del t.hp id)) = some r
  row : t.hp id = some (.cells ys true)
  ids : r.ids = 0
  idys : AV.ids.idsL ys = 0
def rdQ (P : Program) (rs : List ResultVar) (ch : List PanicEntry) (id : Nat) : Option (AV × List AV) → Exit → S → Prop
  | some (r, ys), .ret, t => RdEnd P rs r id ys t
  | some (r, ys), .normal, t => RdEnd P rs r id ys t
  | none, .panic c, _ => c = ch
  | _, _, _ => False

section
variable {P : Program} {GL : Nat → Option (List AV)}

theorem rd_of_awp {f : FuncId} {fn : Func} {code : Code} {ch : List PanicEntry} {g : List AV → List AV → Option (Option (AV × List AV))} (hf : P.funcs[f]? = some fn) (hb : fn.body = some code)
    (h : ∀ id off rest nx xs o, g (.op id off :: rest) xs = some o → rest.length + 1 ≤ fn.ntmps ∧ (id < nx → Awp P GL fn.ntmps code (initS (.op id off :: rest) (upd (fun _ => none) id (.cells xs true)) nx) (rdQ P fn.results.toList ch id o))) : HeapOK P GL f (rdH g) ∧ PanOK P GL f ch (rdP g) := by
  have main : ∀ (c : Ctx) (σ : Nat → Loc) (I : Nat → Prop) (w : World) (hp : H) (nx : Nat) (id off : Nat) (rest : List AV) (vals : Array Value) (xs : List AV) (o : Option (AV × List AV)), c.GL = GL → Inv c σ I w hp (fun id => nx ≤ id) → hp id = some (.cells xs true) →
      vals.size = (AV.op id off :: rest).length → (∀ i (_h : i < (AV.op id off :: rest).length), Rel σ I w (AV.op id off :: rest)[i] (vals.getD i undef)) → g (.op id off :: rest) xs = some o →
      Calls P f vals w fun e w' => (∃ r ys v I', o = some (r, ys) ∧ e = .returned v ∧ Inv c σ I' w' (upd hp id (.cells ys true)) (fun id => nx ≤ id) ∧ Rel σ I' w' r v ∧ Grow σ I w σ I' w') ∨
        (o = none ∧ e = .panicked ch ∧ Inv c σ I w' (del hp id) (fun id => nx ≤ id) ∧ Grow σ I w σ I w') := by
    intro c σ I w hp nx id off rest vals xs o hGL hi ho hs hr hg
    obtain ⟨hlen, haw⟩ := h id off rest nx xs o hg
    have hset : σ id ≠ .unset := by
      intro hu
      have := hi.own id _ ho
      simp [OwnRel, hu] at this
    have hid : id < nx := by
      apply Classical.byContradiction
      intro hc
      exact hset (hi.un id (by omega))
    have get1 : ∀ k o, upd (fun _ => none : H) id (.cells xs true) k = some o → k = id ∧ o = .cells xs true := by
      intro k o hk
      rw [upd_apply] at hk
      split at hk
      · rename_i e; exact ⟨e, (Option.some.inj hk).symm⟩
      · cases hk
    have hnI : ∀ blk base sz, σ id = .at_ blk base sz → ¬ I blk := by
      intro blk base sz e1
      have := hi.own id _ ho
      simp only [OwnRel, e1] at this
      exact this.2.1 trivial
    let c' : Ctx := { w0 := w, σ0 := σ, I0 := I, O := fun k => ∃ base sz, σ id = .at_ k base sz, GL := GL, nt := fn.ntmps, u0 := fun k => k < nx ∧ σ k = .unset }
    have hi' : Inv c' σ I w (upd (fun _ => none) id (.cells xs true)) (fun k => nx ≤ k ∨ (k < nx ∧ σ k = .unset)) := by
      refine ⟨fun _ _ => rfl, fun _ h => h, fun _ _ => rfl, rfl, rfl, rfl, Nat.le_refl _, fun _ _ _ => rfl, hi.ilt, fun k o hk => ?_, fun k k' zs o' blk base sz base' sz' h1 hm h2 hne e1 => ?_, fun k zs blk base sz h1 hm e1 => ?_, fun k hk => hk.elim (hi.un k) (fun h => h.2), fun g xs hg => hi.glob g xs (by rw [hGL]; exact hg), fun _ h => .inl h⟩
      · obtain ⟨rfl, rfl⟩ := get1 k o hk; exact hi.own _ _ ho
      · obtain ⟨rfl, _⟩ := get1 k _ h1
        obtain ⟨rfl, _⟩ := get1 k' _ h2
        exact absurd rfl hne
      · obtain ⟨rfl, _⟩ := get1 k _ h1
        exact .inr ⟨base, sz, e1⟩
    refine calls_of_wp hf hb (wp_mono (haw hid c' rfl rfl σ I w { tmps := vals ++ Array.replicate (fn.ntmps - vals.size) undef, defers := [] } w ?_) ?_)
    · refine ⟨⟨σ, I, ?_, Grow.refl _ _ _, fun t => look_init hs hr t⟩, rfl, (by show _ = fn.ntmps; simp at hs ⊢; omega), fun k hk => hk.elim, fun id hid => ⟨hid.1, hid.1⟩⟩
      refine hi'.mono_un fun id hid => ?_
      rcases hid with hid | ⟨k, hk, _⟩ | hid
      · exact .inl hid
      · exact hk.elim
      · exact .inr hid
    rintro e a w' ⟨t, hq, hR⟩
    have hd : a.defers = [] := hR.defers
    obtain ⟨⟨σ', I', a1, a2, a3⟩, _⟩ := hR
    have hold : ∀ k, k < w.heap.size → (∀ base sz, σ id ≠ .at_ k base sz) → w'.heap[k]? = w.heap[k]? := fun k hk hn => a1.old k hk (fun ⟨base, sz, e⟩ => hn base sz e)
    have hIs : ∀ k, I k → w'.heap[k]? = w.heap[k]? := fun k hk => hold k (hi.ilt k hk) (fun base sz e => hnI k base sz e hk)
    have hO : ∀ k, k < c.w0.heap.size → ¬ c.O k → w'.heap[k]? = c.w0.heap[k]? := fun k hk hO => by
      rw [hold k (Nat.lt_of_lt_of_le hk hi.size) (fun base sz e => ?_)]
      · exact hi.old k hk hO
      · rcases hi.lim id _ k base sz ho rfl e with h5 | h5
        · omega
        · exact hO h5
    have other : ∀ (J : Nat → Prop), (∀ k, I k → J k) → (∀ k, J k → I k ∨ w.heap.size ≤ k) → ∀ k o, k ≠ id → hp k = some o → OwnRel σ J w' k o := by
      intro J hJ1 hJ2 k o hne h2
      have h3 := hi.own k o h2
      refine h3.mono (fun _ _ => rfl) hJ1 hIs fun blk base sz e1 => ⟨hold blk (h3.lt e1) (fun base' sz' e2 => ?_), fun _ hn hb => ?_⟩
      · exact hi.inj id k _ o blk base' sz' base sz ho rfl h2 (fun e => hne e.symm) e2 e1
      · rcases hJ2 blk hb with h | h
        · exact hn h
        · have := h3.lt e1; omega
    match o, e, hq with
    | none, .panic c2, hq =>
      obtain rfl : c2 = ch := hq
      refine ⟨hd, .inr ⟨rfl, rfl, ?_, ⟨fun _ _ => rfl, fun _ h => h, hIs⟩⟩⟩
      refine ⟨hi.ext, hi.imm, fun k hk => by rw [hIs k (hi.imm k hk)]; exact hi.iw k hk, by rw [a1.os]; exact hi.os, by rw [a1.tape]; exact hi.tape, by rw [a1.output]; exact hi.output, Nat.le_trans hi.size a1.size, hO, fun k hk => Nat.lt_of_lt_of_le (hi.ilt k hk) a1.size, fun k o hk => ?_, fun k k' zs o' blk base sz base' sz' h1 hm h2 hne e1 => ?_, fun k zs blk base sz h1 hm e1 => ?_, hi.un, fun g zs hg => (hi.glob g zs hg).mono (fun _ _ => rfl) (fun _ h => h) hIs, hi.inew⟩
      · rw [del_apply] at hk
        split at hk
        · cases hk
        · rename_i hne; exact other I (fun _ h => h) (fun _ h => .inl h) k o hne hk
      · rw [del_apply] at h1 h2
        split at h1
        · cases h1
        · split at h2
          · cases h2
          · exact hi.inj k k' zs o' blk base sz base' sz' h1 hm h2 hne e1
      · rw [del_apply] at h1
        split at h1
        · cases h1
        · exact hi.lim k zs blk base sz h1 hm e1
    | some (r, ys), e, hq =>
      have hq2 : (e = .ret ∨ e = .normal) ∧ RdEnd P fn.results.toList r id ys t := by
        cases e <;> first | exact ⟨.inl rfl, hq⟩ | exact ⟨.inr rfl, hq⟩ | exact hq.elim
      obtain ⟨he, q1, q2, q3, q4⟩ := hq2
      replace q1 := obind_inv q1; obtain ⟨x, hx, him⟩ := q1
      obtain ⟨v, hv, hrel⟩ := resA_sound (P := P) a1 a3 hx
      have h4 : σ' id = σ id := a2.loc id hset
      have hidI : ∀ blk base sz, σ id = .at_ blk base sz → ¬ I' blk := by
        intro blk base sz e1
        have := a1.own id _ q2
        simp only [OwnRel, h4, e1] at this
        exact this.2.1 trivial
      obtain ⟨J, hJ⟩ : ∃ J : Nat → Prop, ∀ k, J k ↔ (I' k ∨ ∃ k' o base sz, del t.hp id k' = some o ∧ σ' k' = .at_ k base sz) := ⟨_, fun _ => Iff.rfl⟩
      have hJI' : ∀ k, I' k → J k := fun k hk => (hJ k).2 (.inl hk)
      have hI'c : ∀ k, I' k → I k ∨ w.heap.size ≤ k := by
        intro k hk
        rcases a1.inew k hk with h | h | ⟨base, sz, h⟩
        · exact .inl h
        · exact .inr h
        · exact absurd hk (hidI k base sz h)
      have hJc : ∀ k, J k → (I k ∨ w.heap.size ≤ k) ∧ k < w'.heap.size ∧ ∀ base sz, σ id ≠ .at_ k base sz := by
        intro k hk
        rcases (hJ k).1 hk with hk | ⟨k', o, base, sz, e1, e2⟩
        · exact ⟨hI'c k hk, a1.ilt k hk, fun base sz e => hidI k base sz e hk⟩
        · rw [del_apply] at e1
          split at e1
          · cases e1
          rename_i hne
          have hcl : ∀ base sz, σ id ≠ .at_ k base sz := by
            intro base' sz' e3
            exact a1.inj id k' _ o k base' sz' base sz q2 rfl e1 (fun e => hne e.symm) (by rw [h4]; exact e3) e2
          refine ⟨?_, (a1.own k' o e1).lt e2, hcl⟩
          cases hm : o.mt with
          | true =>
            rcases a1.lim k' o k base sz e1 hm e2 with h | ⟨base', sz', h⟩
            · exact .inr h
            · exact absurd h (hcl base' sz')
          | false => exact hI'c k ((a1.own k' _ e1).fz hm e2)
      obtain ⟨him', _⟩ := imm_sound (a1.sub (del_sub t.hp id)) hJI' (fun k' o blk base sz e1 e2 => (hJ blk).2 (.inr ⟨k', o, base, sz, e1, e2⟩)) 4 him hrel
      have hIJ : ∀ k, I k → J k := fun k hk => hJI' k (a2.imm k hk)
      have hres : Rel σ J w' r v := him'.congr_ids fun k hk => by rw [q3] at hk; omega
      have hinv : Inv c σ J w' (upd hp id (.cells ys true)) (fun id => nx ≤ id) := by
        refine ⟨hi.ext, fun k hk => hIJ k (hi.imm k hk), fun k hk => by rw [hIs k (hi.imm k hk)]; exact hi.iw k hk, by rw [a1.os]; exact hi.os, by rw [a1.tape]; exact hi.tape, by rw [a1.output]; exact hi.output, Nat.le_trans hi.size a1.size, hO, fun k hk => (hJc k hk).2.1, fun k o hk => ?_, (hi.updIL ho (.cells ys true) fun _ => rfl).1, (hi.updIL ho (.cells ys true) fun _ => rfl).2, hi.un, fun g zs hg => (hi.glob g zs hg).mono (fun _ _ => rfl) hIJ hIs, fun k hk => ?_⟩
        · rw [upd_apply] at hk
          split at hk
          · rename_i e
            subst e
            obtain rfl := Option.some.inj hk
            have h3 := a1.own k _ q2
            have h6 := hi.own k _ ho
            simp only [OwnRel, h4] at h3 h6 ⊢
            cases e5 : σ k with
            | unset => exact absurd e5 hset
            | nil => simp only [e5] at h3 ⊢; exact h3
            | at_ blk base sz =>
              simp only [e5] at h3 h6 ⊢
              obtain ⟨⟨⟨cs, T, lo, hi2, b1, b2, b3, b4, b5⟩, b6⟩, b7⟩ := h3
              refine ⟨⟨⟨cs, T, lo, hi2, b1, b2, b3, b4, fun i hi3 => ?_⟩, b6⟩, fun _ hb => (hJc blk hb).2.2 base sz e5, fun hm => by cases hm⟩
              exact ((b5 i hi3).congr_ids (σ' := σ) fun k hk => by have := AV.ids_get ys i hi3; omega).mono (fun _ _ => rfl) hJI' (fun _ _ => rfl)
          · rename_i hne; exact other J hIJ (fun k hk => (hJc k hk).1) k o hne hk
        · rcases (hJc k hk).1 with h | h
          · exact hi.inew k h
          · exact .inr (.inl (Nat.le_trans hi.size h))
      have fin : a.defers = [] ∧ ∃ v, (results fn a.tmps).run P w' = .ok v w' ∧ ((∃ r' ys' v' I', some (r, ys) = some (r', ys') ∧ Ending.returned v = .returned v' ∧ Inv c σ I' w' (upd hp id (.cells ys' true)) (fun id => nx ≤ id) ∧ Rel σ I' w' r' v' ∧ Grow σ I w σ I' w') ∨
          (some (r, ys) = none ∧ Ending.returned v = .panicked ch ∧ Inv c σ I w' (del hp id) (fun id => nx ≤ id) ∧ Grow σ I w σ I w')) :=
        ⟨hd, v, hv, .inl ⟨r, ys, v, J, rfl, rfl, hinv, hres, ⟨fun _ _ => rfl, hIJ, hIs⟩⟩⟩
      rcases he with rfl | rfl
      · exact fin
      · exact fin
  refine ⟨?_, ?_⟩
  · intro c σ I w hp nx args vals r hp' nx' hGL hi hs hr hg
    unfold rdH at hg
    split at hg
    case h_2 => cases hg
    rename_i id off rest
    replace hg := obind_inv hg; obtain ⟨o, ho, hg⟩ := hg
    obtain ⟨xs, mt, rfl⟩ : ∃ a b, o = AO.cells a b := by cases o <;> first | exact ⟨_, _, rfl⟩ | (simp at hg)
    simp only at hg
    replace hg := guardO_inv hg; obtain ⟨rfl, hg⟩ := hg
    replace hg := obind_inv hg; obtain ⟨p, hp1, hg⟩ := hg
    replace hg := obind_inv hg; obtain ⟨⟨r0, ys⟩, rfl, hg⟩ := hg
    simp only [Option.some.injEq, Prod.mk.injEq] at hg
    obtain ⟨rfl, rfl, rfl⟩ := hg
    refine ⟨Nat.le_refl _, (main c σ I w hp nx id off rest vals xs _ hGL hi ho hs hr hp1).mono ?_⟩
    rintro e w' (⟨r', ys', v, I', e1, rfl, b1, b2, b3⟩ | ⟨e1, _⟩)
    · simp only [Option.some.injEq, Prod.mk.injEq] at e1; obtain ⟨rfl, rfl⟩ := e1
      exact ⟨v, σ, I', rfl, b1, b2, b3, fun _ _ h => h⟩
    · cases e1
  · intro c σ I w hp nx args vals hp' nx' hGL hi hs hr hg
    unfold rdP at hg
    split at hg
    case h_2 => cases hg
    rename_i id off rest
    replace hg := obind_inv hg; obtain ⟨o, ho, hg⟩ := hg
    obtain ⟨xs, mt, rfl⟩ : ∃ a b, o = AO.cells a b := by cases o <;> first | exact ⟨_, _, rfl⟩ | (simp at hg)
    simp only at hg
    replace hg := guardO_inv hg; obtain ⟨rfl, hg⟩ := hg
    replace hg := obind_inv hg; obtain ⟨p, hp1, hg⟩ := hg
    split at hg
    · cases hg
    simp only [Option.some.injEq, Prod.mk.injEq] at hg
    obtain ⟨rfl, rfl⟩ := hg
    refine ⟨Nat.le_refl _, (main c σ I w hp nx id off rest vals xs _ hGL hi ho hs hr hp1).mono ?_⟩
    rintro e w' (⟨r', ys', v, I', e1, _⟩ | ⟨_, rfl, b1, b2⟩)
    · cases e1
    · exact ⟨σ, I, rfl, b1, b2, fun _ _ h => h⟩
end

def ppG (g : List AV → Option (Option AV)) (args : List AV) : Option AV := obind (g args) fun o => o
def ppR (hp : H) (nx : Nat) : Option AV → Option (H × Nat)
  | some _ => none
  | none => some (hp, nx)
def ppP (g : List AV → Option (Option AV)) (args : List AV) (hp : H) (nx : Nat) : Option (H × Nat) := obind (g args) (ppR hp nx)
theorem ppG_eq (g : List AV → Option (Option AV)) (args : List AV) : ppG g args = obind (g args) fun o => o := (rfl)
theorem ppP_eq (g : List AV → Option (Option AV)) (args : List AV) (hp : H) (nx : Nat) : ppP g args hp nx = obind (g args) (ppR hp nx) := (rfl)
theorem ppR_n (hp : H) (nx : Nat) : ppR hp nx none = some (hp, nx) := (rfl)
attribute [go_sem] ppG_eq ppP_eq ppR_n
def ppQ (P : Program) (rs : List ResultVar) (ch : List PanicEntry) : Option AV → Exit → S → Prop
  | some r, e, t => pureQ P rs r e t
  | none, .panic c, _ => c = ch
  | none, _, _ => False
theorem ppQ_s (P : Program) (rs : List ResultVar) (ch : List PanicEntry) (r : AV) (e : Exit) (t : S) : ppQ P rs ch (some r) e t = pureQ P rs r e t := (rfl)
attribute [go_sem] ppQ_s
section
variable {P : Program} {GL : Nat → Option (List AV)}
/-- A function of plain arguments that answers or panics. -/
theorem pp_of_awp {f : FuncId} {fn : Func} {code : Code} {ch : List PanicEntry} {g : List AV → Option (Option AV)} (hf : P.funcs[f]? = some fn) (hb : fn.body = some code)
    (h : ∀ args o, g args = some o → args.length ≤ fn.ntmps ∧ ∀ nx, Awp P GL fn.ntmps code (initS args (fun _ => none) nx) (ppQ P fn.results.toList ch o)) : PureOK P GL f (ppG g) ∧ PanOK P GL f ch (ppP g) := by
  refine ⟨pure_of_awp hf hb fun args r hg => ?_, ?_⟩
  · unfold ppG at hg
    replace hg := obind_inv hg; obtain ⟨o, ho, rfl⟩ := hg
    exact h args _ ho
  intro c σ I w hp nx args vals hp' nx' hGL hi hs hr hg
  unfold ppP at hg
  replace hg := obind_inv hg; obtain ⟨o, ho, hg⟩ := hg
  cases o with
  | some r => cases hg
  | none =>
    obtain ⟨rfl, rfl⟩ : hp' = hp ∧ nx' = nx := by
      simp only [ppR, Option.some.injEq, Prod.mk.injEq] at hg; exact ⟨hg.1.symm, hg.2.symm⟩
    obtain ⟨hlen, haw⟩ := h args none ho
    refine ⟨Nat.le_refl _, ?_⟩
    have h1 : ∀ id, nx' ≤ id → σ id = .unset := fun id h => hi.un id h
    have h3 : ∀ g xs, GL g = some xs → Rel σ I w (.rp xs) (.pointer (some ⟨g, 0, none⟩)) := fun g xs h => hi.glob g xs (by rw [hGL]; exact h)
    refine calls_of_wp hf hb (wp_mono (haw nx' (ctx0 σ I w GL fn.ntmps nx') rfl rfl σ I w { tmps := vals ++ Array.replicate (fn.ntmps - vals.size) undef, defers := [] } w ?_) ?_)
    · refine ⟨⟨σ, I, ?_, Grow.refl _ _ _, fun t => look_init hs hr t⟩, rfl, (by show _ = fn.ntmps; simp [hs]; omega), fun k hk => hk.elim, fun id hid => ⟨hid.1, hid.1⟩⟩
      refine (inv0 h1 hi.ilt h3).mono_un fun id hid => ?_
      rcases hid with hid | ⟨k, hk, _⟩ | hid
      · exact .inl hid
      · exact hk.elim
      · exact .inr hid
    rintro e a w' ⟨t, hq, hR⟩
    have hd : a.defers = [] := hR.defers
    obtain ⟨⟨σ', I', a1, a2, a3⟩, _⟩ := hR
    cases e with
    | panic c2 =>
      obtain rfl : c2 = ch := hq
      have hold : ∀ k, k < w.heap.size → w'.heap[k]? = w.heap[k]? := fun k hk => a1.old k hk (fun h => h)
      have hIs : ∀ k, I k → w'.heap[k]? = w.heap[k]? := fun k hk => hold k (hi.ilt k hk)
      refine ⟨hd, σ, I, rfl, ?_, ⟨fun _ _ => rfl, fun _ h => h, hIs⟩, fun _ _ h => h⟩
      exact hi.extend a1.os a1.tape a1.output a1.size hold I (fun _ h => h) (fun _ h => .inl h)
    | _ => exact hq.elim
end
end Go.AX

namespace Go.AX
open Go

/-- What a deferred call comes to, entered at a mode of the frame below, left at another. -/
def DefOK (P : Program) (GL : Nat → Option (List AV)) (f : FuncId) (u u' : FrameMode) (g : List AV → H → Nat → Option (H × Nat)) : Prop :=
  ∀ (c : Ctx) (σ : Nat → Loc) (I : Nat → Prop) (w : World) (hp : H) (nx : Nat) (args : List AV) (vals : Array Value) (hp' : H) (nx' : Nat),
    c.GL = GL → Inv c σ I w hp (fun id => nx ≤ id) → vals.size = args.length → (∀ i (_h : i < args.length), Rel σ I w args[i] (vals.getD i undef)) → g args hp nx = some (hp', nx') →
    nx ≤ nx' ∧ CallsD P f vals u w fun e u1 w' => ∃ v σ' I', e = .returned v ∧ u1 = u' ∧ Inv c σ' I' w' hp' (fun id => nx' ≤ id) ∧ Grow σ I w σ' I' w' ∧ (∀ id, id < nx → σ id = .unset → σ' id = .unset)

/-- What recover hands back, and the mode that it leaves. -/
def recU : FrameMode → Option (Value × FrameMode)
  | .panicking ({ v, recovered := false, goexit := false } :: older) => some (v, .panicking ({ v, recovered := true } :: older))
  | _ => none
theorem recoverD_cons (c₀ : Frame) (cs : List Frame) : recoverD (c₀ :: cs) = (recU c₀.mode).map fun p => (p.1, { c₀ with mode := p.2 } :: cs) := by
  obtain ⟨fn, tmps, todo, defers, mode, kind, roundOf⟩ := c₀
  cases mode with
  | run => rfl
  | returning => rfl
  | panicking l =>
    cases l with
    | nil => rfl
    | cons p r =>
      obtain ⟨v, rec, ge⟩ := p
      cases rec <;> cases ge <;> rfl

section
variable {P : Program} {GL : Nat → Option (List AV)}

theorem def_of_awp {f : FuncId} {fn : Func} {rest : Code} {id : Nat} {a b : Tmp} {ty1 ty2 : TypeId} {p1 p2 : String} {af1 af2 : Array Edge} {u u' : FrameMode} {rv : Value} {g : List AV → H → Nat → Option (H × Nat)} (hf : P.funcs[f]? = some fn)
    (hb : fn.body = some (.seq (.region id #[{ dst := some a, op := .call { callee := .builtin .recover, args := #[], argTypes := #[] }, type := ty1, pos := p1, after := af1, guard := none }, { dst := some b, op := .assign (.tmp a), type := ty2, pos := p2, after := af2, guard := none }] false) rest))
    (hu : (recU u = some (rv, u')) ∨ (recU u = none ∧ rv = .nilIface ∧ u' = u)) (hab : a < fn.ntmps ∧ b < fn.ntmps)
    (h : ∀ args hp nx hp' nx', g args hp nx = some (hp', nx') → args.length ≤ fn.ntmps ∧ nx ≤ nx' ∧ ((∀ id, nx ≤ id → hp id = none) → Awp P GL fn.ntmps rest { fr := (b, ofV rv) :: (a, ofV rv) :: frOf 0 args, hp := hp, nx := nx, cx := nx } (heapQ P fn.results.toList (.tup []) hp' nx'))) : DefOK P GL f u u' g := by
  intro c σ I w hp nx args vals hp' nx' hGL hi hs hr hg
  obtain ⟨hlen, hle, haw⟩ := h args hp nx hp' nx' hg
  refine ⟨hle, ?_⟩
  have hi' : Inv { c with nt := fn.ntmps, u0 := fun id => id < nx ∧ σ id = .unset, df := [] } σ I w hp (fun id => nx ≤ id ∨ (id < nx ∧ σ id = .unset)) :=
    ⟨hi.ext, hi.imm, hi.iw, hi.os, hi.tape, hi.output, hi.size, hi.old, hi.ilt, hi.own, hi.inj, hi.lim, fun id h => h.elim (hi.un id) (fun h => h.2), hi.glob, hi.inew⟩
  let a0 : Act := { tmps := vals ++ Array.replicate (fn.ntmps - vals.size) undef, defers := [] }
  have hsz0 : a0.tmps.size = fn.ntmps := by show (vals ++ Array.replicate (fn.ntmps - vals.size) undef).size = _; simp [hs]; omega
  let a1 : Act := (a0.put (some a) rv).put (some b) rv
  have ha1 : (a0.put (some a) rv).eval (.tmp a) = rv := by
    show ((a0.tmps.setIfInBounds a rv).getD a undef) = rv
    rw [Array.getD_eq_getD_getElem?, Array.getElem?_setIfInBounds_self_of_lt (by rw [hsz0]; exact hab.1)]; rfl
  refine callsD_of_wpS hf hb fun c₀ cs hmode => ?_
  have key : rest.wpS P (bodyPostS P fn c₀ cs (fun e u1 w' => ∃ v σ' I', e = .returned v ∧ u1 = u' ∧ Inv c σ' I' w' hp' (fun id => nx' ≤ id) ∧ Grow σ I w σ' I' w' ∧ (∀ id, id < nx → σ id = .unset → σ' id = .unset))) a1 ({ c₀ with mode := u' } :: cs) w := by
    refine wpS_of_wp (wp_mono (haw (fun id hid => hi.none_un hid) { c with nt := fn.ntmps, u0 := fun id => id < nx ∧ σ id = .unset, df := [] } hGL rfl σ I w a1 w ?_) ?_)
    · refine ⟨⟨σ, I, ?_, Grow.refl _ _ _, ?_⟩, rfl, by rw [size_put, size_put]; exact hsz0, fun k hk => hk.elim, fun id hid => ⟨hid.1, hid.1⟩⟩
      · refine hi'.mono_un fun id hid => ?_
        rcases hid with hid | ⟨k, hk, _⟩ | hid
        · exact .inl hid
        · exact hk.elim
        · exact .inr hid
      · have h1 := put_rel (n := fn.ntmps) (dst := some a) (x := ofV rv) (v := rv) hsz0 (fun d hd => by obtain rfl := Option.some.inj hd; exact hab.1) (fun _ => rel_ofV rv) (fun t => look_init (n := fn.ntmps - vals.size) hs hr t)
        exact put_rel (n := fn.ntmps) (dst := some b) (x := ofV rv) (v := rv) (by rw [size_put]; exact hsz0) (fun d hd => by obtain rfl := Option.some.inj hd; exact hab.2) (fun _ => rel_ofV rv) h1
    · rintro e a' w' ⟨t, hq, hR⟩
      have hd : a'.defers = [] := hR.defers
      obtain ⟨⟨σ', I', b1, b2, b3⟩, _⟩ := hR
      have hq2 : (e = .ret ∨ e = .normal) ∧ HeapEnd P fn.results.toList (.tup []) hp' nx' t := by
        cases e <;> first | exact ⟨.inl rfl, hq⟩ | exact ⟨.inr rfl, hq⟩ | exact hq.elim
      obtain ⟨he, q1, q2, q3⟩ := hq2
      obtain ⟨v, hv, hrel⟩ := resA_sound (P := P) b1 b3 q1
      have b1' := b1.sub q2
      have fin : a'.defers = [] ∧ ∃ u1, ({ c₀ with mode := u' } :: cs : List Frame) = { c₀ with mode := u1 } :: cs ∧ ∃ v, (results fn a'.tmps).run P w' = .ok v w' ∧ ∃ v1 σ' I', Ending.returned v = .returned v1 ∧ u1 = u' ∧ Inv c σ' I' w' hp' (fun id => nx' ≤ id) ∧ Grow σ I w σ' I' w' ∧ (∀ id, id < nx → σ id = .unset → σ' id = .unset) :=
        ⟨hd, u', rfl, v, hv, v, σ', I', rfl, rfl, ⟨b1'.ext, b1'.imm, b1'.iw, b1'.os, b1'.tape, b1'.output, b1'.size, b1'.old, b1'.ilt, b1'.own, b1'.inj, b1'.lim, fun id h => b1'.un id (.inl (Nat.le_trans q3 h)), b1'.glob, b1'.inew⟩, b2, fun id hid hun => b1.un id (.inr (.inr ⟨hid, hun⟩))⟩
      rcases he with rfl | rfl
      · exact fin
      · exact fin
  generalize bodyPostS P fn c₀ cs _ = Q at key ⊢
  have hav : a < vals.size + (fn.ntmps - vals.size) := Nat.lt_of_lt_of_le hab.1 (by omega)
  apply wpS_seq
  apply wpS_region
  rcases hu with hu | ⟨hu, rfl, rfl⟩
  · simp [wpOpsS, go_sem, recoverD_cons, hmode, hu, Exit.thenS, hav]
    exact key
  · have hc : ({ c₀ with mode := u' } : Frame) = c₀ := by cases c₀; simp at hmode; subst hmode; rfl
    rw [hc] at key
    simp [wpOpsS, go_sem, recoverD_cons, hmode, hu, Exit.thenS, hav]
    exact key

/-- What the rest of a function comes to, that has deferred a closure with these captures. -/
def defQ (P : Program) (rs : List ResultVar) (ch : List PanicEntry) (gI gP : List AV → H → Nat → Option (H × Nat)) (capsA : List AV) (r : AV) : Exit → S → Prop
  | .ret, t => ∃ p, gI capsA t.hp t.cx = some p ∧ obind (resA P rs { t with hp := p.1 }) (immF 4 p.1) = some r
  | .normal, t => ∃ p, gI capsA t.hp t.cx = some p ∧ obind (resA P rs { t with hp := p.1 }) (immF 4 p.1) = some r
  | .panic c, t => c = ch ∧ ∃ p, gP capsA t.hp t.cx = some p ∧ obind (resA P rs { t with hp := p.1 }) (immF 4 p.1) = some r
  | _, _ => False
/-- The state behind the two operations that make the closure and defer it. -/
def defS (k : Tmp) (d : FuncId) (capsA : List AV) (t : S) : S := { fr := (k, .fn d capsA) :: t.fr, hp := t.hp, nx := t.nx, cx := t.cx }
def defE (P : Program) (GL : Nat → Option (List AV)) (nt : Nat) (C : Code) (k : Tmp) (d : FuncId) (caps : List Operand) (capsA : List AV) (Q : Exit → S → Prop) : Exit → S → Prop
  | .normal, t => caps.map (ev GL t.fr) = capsA ∧ Awp P GL nt C (defS k d capsA t) Q
  | _, _ => False

theorem pure_def {f d : FuncId} {fn : Func} {r0 C : Code} {id : Nat} {k : Tmp} {caps : Array Operand} {ty1 ty2 : TypeId} {p1 p2 : String} {af1 af2 : Array Edge} {ch : List PanicEntry} {u' : FrameMode} {gI gP : List AV → H → Nat → Option (H × Nat)} {g : List AV → Option AV} (hf : P.funcs[f]? = some fn)
    (hb : fn.body = some (.seq r0 (.seq (.region id #[{ dst := some k, op := .makeFunc (.func d) #[] caps, type := ty1, pos := p1, after := af1, guard := none }, { dst := none, op := .defer { callee := .value (.tmp k), args := #[], argTypes := #[] }, type := ty2, pos := p2, after := af2, guard := none }] false) C)))
    (hk : k < fn.ntmps) (hd : Callable P d) (hI : DefOK P GL d .returning .returning gI) (hP : DefOK P GL d (.panicking ch) u' gP) (hu : settle u' = .returning)
    (h : ∀ args r, g args = some r → args.length ≤ fn.ntmps ∧ ∀ nx, ∃ capsA, Awp P GL fn.ntmps r0 (initS args (fun _ => none) nx) (defE P GL fn.ntmps C k d caps.toList capsA (defQ P fn.results.toList ch gI gP capsA r))) : PureOK P GL f g := by
  intro σ I w nx args vals r h1 h2 h3 hs hr hg
  obtain ⟨hlen, haw⟩ := h args r hg
  obtain ⟨capsA, haw⟩ := haw nx
  let c := ctx0 σ I w GL fn.ntmps nx
  refine calls_of_wp_defers hf hb ?_
  refine wp_seq (wp_mono (haw c rfl rfl σ I w { tmps := vals ++ Array.replicate (fn.ntmps - vals.size) undef, defers := [] } w ?_) ?_)
  · refine ⟨⟨σ, I, ?_, Grow.refl _ _ _, fun t => look_init hs hr t⟩, rfl, by show _ = fn.ntmps; simp [hs]; omega, fun k hk => hk.elim, fun id hid => ⟨hid.1, hid.1⟩⟩
    refine (inv0 h1 h2 h3).mono_un fun id hid => ?_
    rcases hid with hid | ⟨k, hk, _⟩ | hid
    · exact .inl hid
    · exact hk.elim
    · exact .inr hid
  rintro e a0 w0 ⟨t0, hq, hR⟩
  cases e with
  | normal =>
    obtain ⟨hcaps, hC⟩ := hq
    refine wp_seq ?_
    refine wp_region_list ?_
    obtain ⟨⟨σ1, I1, b1, b2, b3⟩, bd, bs, blt, blt0⟩ := hR
    obtain ⟨V, hV⟩ : ∃ V, caps.map a0.eval = V := ⟨_, rfl⟩
    have hVs : V.size = capsA.length := by rw [← hV, ← hcaps]; simp
    have hVr : ∀ i (_h : i < capsA.length), Rel σ1 I1 w0 capsA[i] (V.getD i undef) := by
      subst hcaps
      intro i hi
      have := map_rel (l := caps.toList) (ev_rel b1 b3) i (by simpa using hi)
      rw [getD_list, List.getD_eq_getElem?_getD] at this
      have e : V[i]? = (List.map a0.eval caps.toList)[i]? := by rw [← hV, ← Array.toList_map, Array.getElem?_toList]
      rw [Array.getD_eq_getD_getElem?, e]; exact this
    let D : Deferred := { target := .fn (.func d) V, args := #[] }
    let a1 : Act := a0.put (some k) (.func (.func d) #[] V)
    let a2 : Act := { a1 with defers := D :: a1.defers }
    have hbs : a0.tmps.size = fn.ntmps := bs
    have ha1 : a1.eval (.tmp k) = .func (.func d) #[] V := by
      show ((a0.tmps.setIfInBounds k _).getD k undef) = _
      rw [Array.getD_eq_getD_getElem?, Array.getElem?_setIfInBounds_self_of_lt (by rw [hbs]; exact hk)]; rfl
    unfold wpList
    rw [if_pos (by simp [Region.wanted])]
    refine .inl ?_
    have e1 : (execOp a0.eval { dst := some k, op := .makeFunc (.func d) #[] caps, type := ty1, pos := p1, after := af1, guard := none }).run P w0 = .ok (.value (.func (.func d) #[] V)) w0 := by
      rw [← hV]
      simp only [execOp, Instr.makeFunc, Array.map_empty, Sem.run_bind, Sem.run_pure, Result.andThen_ok]
    unfold Oper.wp
    rw [e1]
    show wpList P _ _ _ a1 w0
    unfold wpList
    rw [if_pos (by simp [Region.wanted])]
    refine .inl ?_
    have e2 : (execOp a1.eval { dst := none, op := .defer { callee := .value (.tmp k), args := #[], argTypes := #[] }, type := ty2, pos := p2, after := af2, guard := none }).run P w0 = .ok (.defer D) w0 := by
      simp only [execOp, resolve, ha1, Deferred.ofValue, Sem.run_bind, Sem.run_pure, Result.andThen_ok, Array.map_empty, Array.append_empty]; rfl
    unfold Oper.wp
    rw [e2]
    show Code.wp P C _ a2 w0
    have hadf : a0.defers = [] := bd
    have hR2 : R { c with df := [D] } σ1 I1 w0 (fun _ => False) (defS k d capsA t0) a2 w0 := by
      refine ⟨⟨σ1, I1, ⟨b1.ext, b1.imm, b1.iw, b1.os, b1.tape, b1.output, b1.size, b1.old, b1.ilt, b1.own, b1.inj, b1.lim, b1.un, b1.glob, b1.inew⟩, Grow.refl _ _ _, ?_⟩, ?_, ?_, fun k hk => hk.elim, blt0⟩
      · exact put_rel (n := fn.ntmps) (dst := some k) (x := .fn d capsA) (v := .func (.func d) #[] V) hbs (fun d' hd' => by obtain rfl := Option.some.inj hd'; exact hk) (fun _ => .fn d capsA V hVs hVr) b3
      · show D :: a0.defers = [D]; rw [hadf]
      · show (a0.put (some k) _).tmps.size = _; rw [size_put]; exact hbs
    refine wp_mono (hC { c with df := [D] } rfl rfl σ1 I1 w0 a2 w0 hR2) ?_
    rintro e a' w' ⟨t, hq, hR'⟩
    have hd' : a'.defers = [D] := hR'.defers
    obtain ⟨⟨σ2, I2, c1, c2, c3⟩, _, _, _, clt0⟩ := hR'
    obtain ⟨fnd, q1, q2, q3⟩ := hd
    have hinv : (invoke (.fn (.func d) V) #[]).run P w' = .ok (.enter d V) w' := by
      simp only [invoke, Array.empty_append, callFunc, Sem.run_bind, run_program, Result.andThen_ok, q1, q2, q3, Bool.false_eq_true, if_false, Sem.run_pure]
    have hVr2 : ∀ i (_h : i < capsA.length), Rel σ2 I2 w' capsA[i] (V.getD i undef) := fun i hi => (hVr i hi).grow c2
    have fin : ∀ (p : H × Nat) (σ3 : Nat → Loc) (I3 : Nat → Prop) (w3 : World), obind (resA P fn.results.toList { t with hp := p.1 }) (immF 4 p.1) = some r → Inv { c with df := [D] } σ3 I3 w3 p.1 (fun id => p.2 ≤ id) → Grow σ2 I2 w' σ3 I3 w3 → (∀ id, id < t.cx → σ2 id = .unset → σ3 id = .unset) →
        ∃ v, (results fn a'.tmps).run P w3 = .ok v w3 ∧ ∃ v' σ' I', Ending.returned v = .returned v' ∧ w3.os = w.os ∧ w3.tape = w.tape ∧ w3.output = w.output ∧ w.heap.size ≤ w3.heap.size ∧ (∀ k, k < w.heap.size → w3.heap[k]? = w.heap[k]?) ∧
          (∀ id, id < nx → σ' id = σ id) ∧ (∀ k, I' k → I k ∨ w.heap.size ≤ k) ∧ (∀ k, I' k → k < w3.heap.size) ∧ Rel σ' I' w3 r v' := by
      intro p σ3 I3 w3 hres d1 d2 d3
      replace hres := obind_inv hres; obtain ⟨x, hx, him⟩ := hres
      obtain ⟨v, hv, hrel⟩ := resA_sound (P := P) (t := { t with hp := p.1 }) d1 (fun k => (c3 k).grow d2) hx
      have hI : ∀ k, I3 k → (I3 k ∨ ∃ id o base sz, p.1 id = some o ∧ σ3 id = .at_ k base sz) := fun k hk => .inl hk
      obtain ⟨him', _⟩ := imm_sound d1 hI (fun id o blk base sz e1 e2 => .inr ⟨id, o, base, sz, e1, e2⟩) 4 him hrel
      have hkeep : ∀ id, id < nx → σ3 id = σ id := by
        intro id hid
        by_cases e : σ id = .unset
        · have hu0 : c.u0 id := ⟨hid, e⟩
          rw [e]; exact d3 id (clt0 id hu0).2 (c1.un id (.inr (.inr hu0)))
        · exact d1.ext id e
      refine ⟨v, hv, v, σ3, fun k => I3 k ∨ ∃ id o base sz, p.1 id = some o ∧ σ3 id = .at_ k base sz, rfl, d1.os, d1.tape, d1.output, d1.size, fun k hk => d1.old k hk (fun h => h), hkeep, fun k hk => ?_, fun k hk => ?_, him'⟩
      · rcases hk with hk | ⟨id, o, base, sz, e1, e2⟩
        · rcases d1.inew k hk with h | h | h
          · exact .inl h
          · exact .inr h
          · exact h.elim
        · rcases d1.blkNew e1 e2 with h | h | h
          · exact .inl h
          · exact .inr h
          · exact h.elim
      · rcases hk with hk | ⟨id, o, base, sz, e1, e2⟩
        · exact d1.ilt k hk
        · exact (d1.own id o e1).lt e2
    have c1' : Inv { c with df := [D] } σ2 I2 w' t.hp (fun id => t.cx ≤ id) := c1.mono_un fun id hid => .inl hid
    have ret : (∃ p, gI capsA t.hp t.cx = some p ∧ obind (resA P fn.results.toList { t with hp := p.1 }) (immF 4 p.1) = some r) → Leaves P fn a'.tmps (fun e w3 => ∃ v' σ' I', e = .returned v' ∧ w3.os = w.os ∧ w3.tape = w.tape ∧ w3.output = w.output ∧ w.heap.size ≤ w3.heap.size ∧ (∀ k, k < w.heap.size → w3.heap[k]? = w.heap[k]?) ∧
          (∀ id, id < nx → σ' id = σ id) ∧ (∀ k, I' k → I k ∨ w.heap.size ≤ k) ∧ (∀ k, I' k → k < w3.heap.size) ∧ Rel σ' I' w3 r v') a'.defers .returning w' := by
      rintro ⟨p, hp1, hres⟩
      rw [hd']
      obtain ⟨_, hcalls⟩ := hI { c with df := [D] } σ2 I2 w' t.hp t.cx capsA V p.1 p.2 rfl c1' hVs hVr2 hp1
      refine leaves_cons (by simp) hinv (fun c₀ cs hm => ?_)
      obtain ⟨e', u1, w3, fr', hRR, hst⟩ := hcalls c₀ cs hm
      refine ⟨e', u1, w3, fr', ?_, hst⟩
      obtain ⟨v, σ3, I3, rfl, rfl, d1, d2, d3⟩ := hRR
      exact fin p σ3 I3 w3 hres d1 d2 d3
    cases e with
    | ret => exact ret hq
    | normal => exact ret hq
    | panic ch' =>
      obtain ⟨rfl, p, hp1, hres⟩ := hq
      show Leaves P fn a'.tmps _ a'.defers (.panicking ch') w'
      rw [hd']
      obtain ⟨_, hcalls⟩ := hP { c with df := [D] } σ2 I2 w' t.hp t.cx capsA V p.1 p.2 rfl c1' hVs hVr2 hp1
      refine leaves_cons (by simp) hinv (fun c₀ cs hm => ?_)
      obtain ⟨e', u1, w3, fr', hRR, hst⟩ := hcalls c₀ cs hm
      refine ⟨e', u1, w3, fr', ?_, hst⟩
      obtain ⟨v, σ3, I3, rfl, rfl, d1, d2, d3⟩ := hRR
      show Leaves P fn a'.tmps _ [] (settle u1) w3
      rw [hu]
      exact fin p σ3 I3 w3 hres d1 d2 d3
    | _ => exact hq.elim
  | _ => exact hq.elim
end
end Go.AX

namespace Go.AX
open Go

/-- The orders that go on with i. -/
def tailsO (i : Nat) (L : List (List Nat)) : List (List Nat) := L.filterMap fun l => match l with | [] => none | j :: r => if j = i then some r else none
theorem mem_tailsO {i : Nat} {L : List (List Nat)} {r : List Nat} : r ∈ tailsO i L ↔ (i :: r) ∈ L := by
  unfold tailsO
  rw [List.mem_filterMap]
  constructor
  · rintro ⟨l, hl, h⟩
    cases l with
    | nil => cases h
    | cons j q =>
      simp only at h
      split at h
      · rename_i e; obtain rfl := Option.some.inj h; subst e; exact hl
      · cases h
  · intro h; exact ⟨_, h, by simp⟩

/-- The list holds all orders. -/
def coversO (ops : Array Oper) : Nat → Array Bool → List (List Nat) → Bool
  | 0, listed, L => (Region.ready .any ops listed).isEmpty && L.contains []
  | n + 1, listed, L => (!(Region.ready .any ops listed).isEmpty || L.contains []) && (Region.ready .any ops listed).all fun i => !(tailsO i L).isEmpty && coversO ops n (listed.setIfInBounds i true) (tailsO i L)

section
variable {P : Program} {Γ : Env} {c : Ctx} {σ0 : Nat → Loc} {I0 : Nat → Prop} {w0 : World} {md : Nat → Nat} {ops : Array Oper}

theorem ord_sound (hΓ : EnvOK P c.GL Γ) {Q : Exit → Act → World → Prop} (hdst : okDst c.nt ops.toList = true) :
    ∀ (fuel : Nat) (listed : Array Bool) (L : List (List Nat)) (s : S) (a : Act) (w : World), listed.size = ops.size → coversO ops fuel listed L = true →
      (∀ l ∈ L, ∃ s', runIx P Γ c.GL md ops l s = some s' ∧ ∀ a' w', R c σ0 I0 w0 (fun _ => False) s' a' w' → Q .normal a' w') → R c σ0 I0 w0 (fun k => k ∈ unl ops.size listed) s a w → wpAny P .any ops Q fuel listed a w := by
  have fin : ∀ (L : List (List Nat)) (rem : Nat → Prop) (s : S) (a : Act) (w : World), L.contains [] = true → (∀ l ∈ L, ∃ s', runIx P Γ c.GL md ops l s = some s' ∧ ∀ a' w', R c σ0 I0 w0 (fun _ => False) s' a' w' → Q .normal a' w') → R c σ0 I0 w0 rem s a w → Q .normal a w := by
    intro L rem s a w hL h hR
    obtain ⟨s', h1, h2⟩ := h [] (by simpa using hL)
    obtain rfl := Option.some.inj h1
    exact h2 _ _ (hR.un fun _ h => h.elim)
  intro fuel
  induction fuel with
  | zero =>
    intro listed L s a w _ hc h hR
    simp only [coversO, Bool.and_eq_true, List.isEmpty_iff] at hc
    exact ⟨hc.1, fin L _ s a w hc.2 h hR⟩
  | succ fuel ih =>
    intro listed L s a w hsz hc h hR
    simp only [coversO, Bool.and_eq_true, Bool.or_eq_true, Bool.not_eq_true', List.all_eq_true] at hc
    refine ⟨fun hr => ?_, fun i hi => ?_⟩
    · rcases hc.1 with h1 | h1
      · rw [hr] at h1; cases h1
      · exact fin L _ s a w h1 h hR
    obtain ⟨hne, hcov⟩ := hc.2 i hi
    obtain ⟨hun, x, hx, hall⟩ := mem_ready.1 hi
    have hlt := (Array.getElem?_eq_some_iff.1 hx).1
    have hmem : i ∈ unl ops.size listed := by unfold unl; rw [List.mem_filter, List.mem_range]; exact ⟨hlt, by rw [hun]; rfl⟩
    obtain ⟨r0, hr0⟩ : ∃ r, r ∈ tailsO i L := by
      cases hT : tailsO i L with
      | nil => rw [hT] at hne; cases hne
      | cons r q => exact ⟨r, by simp⟩
    obtain ⟨sf, hf, _⟩ := h _ (mem_tailsO.1 hr0)
    simp only [runIx, hx] at hf
    replace hf := obind_inv hf; obtain ⟨s1, f1, _⟩ := hf
    have hstep := step_sound (K := wpAny P .any ops Q fuel (listed.setIfInBounds i true)) (Q := Q) (ops := ops) hΓ f1 (okDst_mem hdst (Array.mem_toList_iff.2 (Array.mem_of_getElem? hx))) (rem := fun k => k ∈ unl ops.size listed) hmem hR (fun a' w' hR' =>
      ih (listed.setIfInBounds i true) (tailsO i L) s1 a' w' (by simpa using hsz) hcov (fun l hl => by
          obtain ⟨s', g1, g2⟩ := h _ (mem_tailsO.1 hl)
          simp only [runIx, hx] at g1
          rw [f1, obind_some] at g1
          exact ⟨s', g1, g2⟩)
        (hR'.un fun k hk => by
          simp only [unl, List.mem_filter, List.mem_range] at hk ⊢
          by_cases hki : k = i
          · subst hki
            rw [Array.getD_eq_getD_getElem?, Array.getElem?_setIfInBounds_self_of_lt (by omega)] at hk
            simp at hk
          · rw [getD_set_ne true (Ne.symm hki)] at hk
            exact ⟨hk, hki⟩))
    unfold wpOp
    simp only [hx]
    split
    · rename_i hw; rw [if_pos hw] at hstep; exact .inl hstep
    · rename_i hw; rw [if_neg hw] at hstep; exact hstep
end

def stepI (P : Program) (Γ : Env) (GL : Nat → Option (List AV)) (m n k : Nat) (s : S) : Option LOp → Option S
  | some o => stepP P Γ GL m n k o s
  | none => none
def runI (P : Program) (Γ : Env) (GL : Nat → Option (List AV)) (n : Nat) (ls : List LOp) : List Nat → S → Option S
  | [], s => some s
  | i :: r, s => obind (stepI P Γ GL 0 n i s ls[i]?) fun s' => runI P Γ GL n ls r s'
@[congr] theorem runI_congr {P : Program} {Γ : Env} {GL : Nat → Option (List AV)} {n : Nat} {ls : List LOp} {l : List Nat} {s s' : S} (h : s = s') : runI P Γ GL n ls l s = runI P Γ GL n ls l s' := by rw [h]
theorem runI_nil (P Γ GL n ls s) : runI P Γ GL n ls [] s = some s := (rfl)
theorem runI_cons (P Γ GL n ls i r s) : runI P Γ GL n ls (i :: r) s = obind (stepI P Γ GL 0 n i s ls[i]?) fun s' => runI P Γ GL n ls r s' := (rfl)
theorem stepI_some (P Γ GL m n k s o) : stepI P Γ GL m n k s (some o) = stepP P Γ GL m n k o s := (rfl)
def allO (f : List Nat → Prop) : List (List Nat) → Prop
  | [] => True
  | l :: r => f l ∧ allO f r
theorem allO_nil (f) : allO f [] = True := (rfl)
theorem allO_cons (f l r) : allO f (l :: r) = (f l ∧ allO f r) := (rfl)
theorem allO_mem {f : List Nat → Prop} : ∀ {L : List (List Nat)}, allO f L → ∀ l ∈ L, f l
  | [], _, l, h => by cases h
  | x :: r, h, l, hl => by
    rcases List.mem_cons.1 hl with e | hl
    · subst e; exact h.1
    · exact allO_mem h.2 l hl

def covO (c : Code) (L : List (List Nat)) : Bool := coversO (rOps c) (rOps c).size (Array.replicate (rOps c).size false) L

theorem awp_ordP {P : Program} {GL : Nat → Option (List AV)} {nt : Nat} {Q : Exit → S → Prop} {s : S} {code : Code} {Γ : Env} (L : List (List Nat)) (ks : List Nat) (hm : P.follows .mixedOrders = true) (hΓ : EnvOK P GL Γ) (hc : isReg code = true) (hd : rDraw code = true) (ho : okDst nt (rOps code).toList = true) (hk : covO code L = true)
    (h : ∀ K : S → Prop, (∀ t, Q .normal t → K t) → allO (fun l => someP (runI P Γ GL (rN code) (lights code) l (enterR (rN code) s)) fun t => K { t with fr := keepF ks t.fr }) L) : Awp P GL nt code s Q := by
  have h' := allO_mem (h (Q .normal) fun _ h => h)
  clear h
  refine Q_keep ?_
  cases code <;> first | (cases hc; done) | skip
  rename_i id ops d
  simp only [rDraw] at hd
  subst hd
  intro c h1 h2 σ0 I0 w0 a w hR
  subst h1; subst h2
  simp only [rOps, covO] at ho hk
  have h0 : unl ops.size (Array.replicate ops.size false) = List.range ops.size := by
    unfold unl
    refine List.filter_eq_self.2 fun k hk => ?_
    rw [List.mem_range] at hk
    rw [Array.getD_eq_getD_getElem?, Array.getElem?_replicate, if_pos hk]; rfl
  have hrun : ∀ (l : List Nat) (s : S), runI P Γ c.GL (rN (.region id ops true)) (lights (.region id ops true)) l s = runIx P Γ c.GL (fun _ => 0) ops l s := by
    intro l
    induction l with
    | nil => intro s; rfl
    | cons i r ih =>
      intro s
      have hl : (lights (.region id ops true))[i]? = (ops[i]?).map (light ops) := by simp only [lights, rOps, List.getElem?_map, Array.getElem?_toList]
      simp only [runI, runIx, hl]
      cases ops[i]? with
      | none => rfl
      | some o =>
        simp only [Option.map_some, stepI, step_eq]
        congr 1
        funext s'
        exact ih s'
  refine wp_region_any hm (ord_sound (σ0 := σ0) (I0 := I0) (w0 := w0) (md := fun _ => 0) hΓ ho ops.size _ L (enterR ops.size s) a _ (by simp) hk (fun l hl => ?_) ?_)
  · obtain ⟨t, e1, e2⟩ := someP_inv (h' l hl)
    rw [hrun] at e1
    exact ⟨t, e1, fun a' w' hR' => ⟨t, ⟨_, e2, sub_keep ks t, rfl⟩, hR'⟩⟩
  · exact ((hR.enter ops.size).un fun k hk => by rw [h0] at hk; exact List.mem_range.1 hk).world rfl rfl rfl rfl
end Go.AX

namespace Go.AX
open Go

def capO (h : FuncId) (g : List AV → Option AV) (id off : Nat) (hp : H) (nx : Nat) : AO → Option (AV × H × Nat)
  | .cells xs _ => obind (g [.fn h [.rp (xs.drop off)]]) fun r => guardO (r.ids = 0) (some (r, upd hp id (.cells xs false), nx))
  | _ => none
/-- A plain function that takes a closure, which has captured one variable, as a function with own objects. -/
def capG (h : FuncId) (g : List AV → Option AV) : List AV → H → Nat → Option (AV × H × Nat)
  | [.fn h' [.op id off]], hp, nx => guardO (h' = h) (obind (hp id) (capO h g id off hp nx))
  | _, _, _ => none
theorem capG_eq (h h' : FuncId) (g : List AV → Option AV) (id off : Nat) (hp : H) (nx : Nat) : capG h g [.fn h' [.op id off]] hp nx = guardO (h' = h) (obind (hp id) (capO h g id off hp nx)) := (rfl)
theorem capO_c (h : FuncId) (g : List AV → Option AV) (id off : Nat) (hp : H) (nx : Nat) (xs : List AV) (mt : Bool) : capO h g id off hp nx (.cells xs mt) = obind (g [.fn h [.rp (xs.drop off)]]) fun r => guardO (r.ids = 0) (some (r, upd hp id (.cells xs false), nx)) := (rfl)
attribute [go_sem] capG_eq capO_c
theorem heap_cap {P : Program} {GL : Nat → Option (List AV)} {f h : FuncId} {g : List AV → Option AV} (hok : PureOK P GL f g) : HeapOK P GL f (capG h g) := by
  intro c σ I w hp nx args vals r hp' nx' hGL hi hs hr hg
  unfold capG at hg
  split at hg
  rotate_left
  · cases hg
  rename_i h' id off
  replace hg := guardO_inv hg; obtain ⟨rfl, hg⟩ := hg
  replace hg := obind_inv hg; obtain ⟨o, ho, hg⟩ := hg
  obtain ⟨xs, mt, rfl⟩ : ∃ a b, o = AO.cells a b := by cases o <;> first | exact ⟨_, _, rfl⟩ | (cases hg)
  replace hg := obind_inv (show obind (g [.fn h' [.rp (xs.drop off)]]) _ = _ from hg); obtain ⟨r', hr', hg⟩ := hg
  replace hg := guardO_inv hg; obtain ⟨hids, hg⟩ := hg
  simp only [Option.some.injEq, Prod.mk.injEq] at hg; obtain ⟨rfl, rfl, rfl⟩ := hg
  refine ⟨Nat.le_refl _, ?_⟩
  have h0 := hr 0 (by simp)
  simp only [List.getElem_cons_zero] at h0
  have hv : ∃ vs : Array Value, vals.getD 0 undef = .func (.func h') #[] vs ∧ vs.size = 1 ∧ Rel σ I w (.op id off) (vs.getD 0 undef) := by
    generalize vals.getD 0 undef = u at h0
    cases h0 with
    | fn _ _ vs h1 h2 => exact ⟨vs, rfl, h1, h2 0 (by simp)⟩
  obtain ⟨vs, hv, hvs, hvr⟩ := hv
  obtain ⟨I1, b1, b2, b3⟩ := frzArg_sound (x := .op id off) (v := vs.getD 0 undef) (p := (.rp (xs.drop off), upd hp id (.cells xs false))) (by simp only [frzArg, ho, obind_some]) hi hvr
  simp only at b2 b3
  subst hGL
  refine (hok σ I1 w (max nx r'.ids) [.fn h' [.rp (xs.drop off)]] vals r' (fun id hid => b2.un id (by omega)) b2.ilt b2.glob (by simpa using hs) (fun i hi' => ?_) hr').mono ?_
  · have : i = 0 := by simpa using hi'
    subst this
    simp only [List.getElem_cons_zero, hv]
    exact .fn h' _ vs hvs (fun i hi' => by
      have : i = 0 := by simpa using hi'
      subst this; exact b3)
  rintro e w' ⟨v, σ', I', rfl, a1, a2, a3, a4, a5, a6, a7, a8, a9⟩
  have hg1 : ∀ k, I1 k → (I1 k ∨ (w.heap.size ≤ k ∧ k < w'.heap.size)) := fun k hk => .inl hk
  refine ⟨v, σ, fun k => I1 k ∨ (w.heap.size ≤ k ∧ k < w'.heap.size), rfl, b2.extend a1 a2 a3 a4 a5 _ hg1 (fun _ h => h), ?_, ⟨fun _ _ => rfl, fun k hk => .inl (b1 k hk), fun k hk => a5 k (hi.ilt k hk)⟩, fun _ _ h => h⟩
  have h9 : Rel σ I' w' r' v := a9.congr_ids fun id hid => by omega
  exact h9.mono (fun _ _ => rfl) (fun k hk => by
    rcases a7 k hk with h | h
    · exact .inl h
    · exact .inr ⟨h, a8 k hk⟩) (fun _ _ => rfl)
end Go.AX

namespace Go.AX
open Go

def capO2 (h : FuncId) (g : List AV → Option AV) (x : AV) (id off : Nat) (hp : H) (nx : Nat) : AO → Option (AV × H × Nat)
  | .cells xs _ => obind (g [x, .fn h [.rp (xs.drop off)]]) fun r => guardO (r.ids = 0) (some (r, upd hp id (.cells xs false), nx))
  | _ => none
def capG2 (h : FuncId) (g : List AV → Option AV) : List AV → H → Nat → Option (AV × H × Nat)
  | [x, .fn h' [.op id off]], hp, nx => guardO (h' = h) (obind (hp id) (capO2 h g x id off hp nx))
  | _, _, _ => none
theorem capG2_eq (h h' : FuncId) (g : List AV → Option AV) (x : AV) (id off : Nat) (hp : H) (nx : Nat) : capG2 h g [x, .fn h' [.op id off]] hp nx = guardO (h' = h) (obind (hp id) (capO2 h g x id off hp nx)) := (rfl)
theorem capO2_c (h : FuncId) (g : List AV → Option AV) (x : AV) (id off : Nat) (hp : H) (nx : Nat) (xs : List AV) (mt : Bool) : capO2 h g x id off hp nx (.cells xs mt) = obind (g [x, .fn h [.rp (xs.drop off)]]) fun r => guardO (r.ids = 0) (some (r, upd hp id (.cells xs false), nx)) := (rfl)
attribute [go_sem] capG2_eq capO2_c
theorem heap_cap2 {P : Program} {GL : Nat → Option (List AV)} {f h : FuncId} {g : List AV → Option AV} (hok : PureOK P GL f g) : HeapOK P GL f (capG2 h g) := by
  intro c σ I w hp nx args vals r hp' nx' hGL hi hs hr hg
  unfold capG2 at hg
  split at hg
  rotate_left
  · cases hg
  rename_i x h' id off
  replace hg := guardO_inv hg; obtain ⟨rfl, hg⟩ := hg
  replace hg := obind_inv hg; obtain ⟨o, ho, hg⟩ := hg
  obtain ⟨xs, mt, rfl⟩ : ∃ a b, o = AO.cells a b := by cases o <;> first | exact ⟨_, _, rfl⟩ | (cases hg)
  replace hg := obind_inv (show obind (g [x, .fn h' [.rp (xs.drop off)]]) _ = _ from hg); obtain ⟨r', hr', hg⟩ := hg
  replace hg := guardO_inv hg; obtain ⟨hids, hg⟩ := hg
  simp only [Option.some.injEq, Prod.mk.injEq] at hg; obtain ⟨rfl, rfl, rfl⟩ := hg
  refine ⟨Nat.le_refl _, ?_⟩
  have h00 := hr 0 (by simp)
  simp only [List.getElem_cons_zero] at h00
  have h0 := hr 1 (by simp)
  simp only [List.getElem_cons_succ, List.getElem_cons_zero] at h0
  have hv : ∃ vs : Array Value, vals.getD 1 undef = .func (.func h') #[] vs ∧ vs.size = 1 ∧ Rel σ I w (.op id off) (vs.getD 0 undef) := by
    generalize vals.getD 1 undef = u at h0
    cases h0 with
    | fn _ _ vs h1 h2 => exact ⟨vs, rfl, h1, h2 0 (by simp)⟩
  obtain ⟨vs, hv, hvs, hvr⟩ := hv
  obtain ⟨I1, b1, b2, b3⟩ := frzArg_sound (x := .op id off) (v := vs.getD 0 undef) (p := (.rp (xs.drop off), upd hp id (.cells xs false))) (by simp only [frzArg, ho, obind_some]) hi hvr
  simp only at b2 b3
  subst hGL
  refine (hok σ I1 w (max nx r'.ids) [x, .fn h' [.rp (xs.drop off)]] vals r' (fun id hid => b2.un id (by omega)) b2.ilt b2.glob (by simpa using hs) (fun i hi' => ?_) hr').mono ?_
  · have : i = 0 ∨ i = 1 := by simp at hi'; omega
    rcases this with rfl | rfl
    · simp only [List.getElem_cons_zero]
      exact h00.mono (fun _ _ => rfl) b1 (fun _ _ => rfl)
    · simp only [List.getElem_cons_succ, List.getElem_cons_zero, hv]
      exact .fn h' _ vs hvs (fun i hi' => by
        have : i = 0 := by simpa using hi'
        subst this; exact b3)
  rintro e w' ⟨v, σ', I', rfl, a1, a2, a3, a4, a5, a6, a7, a8, a9⟩
  have hg1 : ∀ k, I1 k → (I1 k ∨ (w.heap.size ≤ k ∧ k < w'.heap.size)) := fun k hk => .inl hk
  refine ⟨v, σ, fun k => I1 k ∨ (w.heap.size ≤ k ∧ k < w'.heap.size), rfl, b2.extend a1 a2 a3 a4 a5 _ hg1 (fun _ h => h), ?_, ⟨fun _ _ => rfl, fun k hk => .inl (b1 k hk), fun k hk => a5 k (hi.ilt k hk)⟩, fun _ _ h => h⟩
  have h9 : Rel σ I' w' r' v := a9.congr_ids fun id hid => by omega
  exact h9.mono (fun _ _ => rfl) (fun k hk => by
    rcases a7 k hk with h | h
    · exact .inl h
    · exact .inr ⟨h, a8 k hk⟩) (fun _ _ => rfl)
end Go.AX

namespace Go.AX
open Go

theorem awp_rp {P : Program} {GL : Nat → Option (List AV)} {nt : Nat} {code : Code} {Q : Exit → S → Prop} {fr : List (Nat × AV)} {hp : H} {nx cx : Nat} (t id off : Nat) {xs : List AV} {mt : Bool} (hn : look fr t = .op id off) (ho : hp id = some (.cells xs mt))
    (h : Awp P GL nt code { fr := (t, .rp (xs.drop off)) :: fr, hp := upd hp id (.cells xs false), nx := nx, cx := cx } Q) : Awp P GL nt code { fr := fr, hp := hp, nx := nx, cx := cx } Q := by
  intro c h1 h2 σ0 I0 w0 a w hR
  refine h c h1 h2 σ0 I0 w0 a w ?_
  obtain ⟨⟨σ, I, a1, a2, a3⟩, b, d, e1, e0⟩ := hR
  have ht := a3 t
  simp only at a1 a3 ht
  rw [hn] at ht
  obtain ⟨I1, b1, b2, b3⟩ := frzArg_sound (x := .op id off) (p := (.rp (xs.drop off), upd hp id (.cells xs false))) (by simp only [frzArg, ho, obind_some]) a1 ht
  have hg : Grow σ I w σ I1 w := ⟨fun _ _ => rfl, b1, fun _ _ => rfl⟩
  refine ⟨⟨σ, I1, b2, a2.trans hg, fun k => ?_⟩, b, d, e1, e0⟩
  simp only [look]
  split
  · rename_i e; subst e; exact b3
  · exact (a3 k).grow hg
/-- The same for a row. -/
theorem awp_sl {P : Program} {GL : Nat → Option (List AV)} {nt : Nat} {code : Code} {Q : Exit → S → Prop} {fr : List (Nat × AV)} {hp : H} {nx cx : Nat} (t id off n e : Nat) {g : Bool} {xs : List AV} {mt : Bool} (hn : look fr t = .os id off n e g) (ho : hp id = some (.cells xs mt)) (hl : off + n * e ≤ xs.length)
    (h : Awp P GL nt code { fr := (t, .sl n ((xs.drop off).take (n * e))) :: fr, hp := upd hp id (.cells xs false), nx := nx, cx := cx } Q) : Awp P GL nt code { fr := fr, hp := hp, nx := nx, cx := cx } Q := by
  intro c h1 h2 σ0 I0 w0 a w hR
  refine h c h1 h2 σ0 I0 w0 a w ?_
  obtain ⟨⟨σ, I, a1, a2, a3⟩, b, d, e1, e0⟩ := hR
  have ht := a3 t
  simp only at a1 a3 ht
  rw [hn] at ht
  obtain ⟨I1, b1, b2, b3⟩ := frzArg_sound (x := .os id off n e g) (p := (.sl n ((xs.drop off).take (n * e)), upd hp id (.cells xs false))) (by simp only [frzArg, ho, obind_some]; rw [guardO_true _ hl]) a1 ht
  have hg : Grow σ I w σ I1 w := ⟨fun _ _ => rfl, b1, fun _ _ => rfl⟩
  refine ⟨⟨σ, I1, b2, a2.trans hg, fun k => ?_⟩, b, d, e1, e0⟩
  simp only [look]
  split
  · rename_i e; subst e; exact b3
  · exact (a3 k).grow hg
end Go.AX

namespace Go.AX
open Go

def okPair (P : Program) (Γ : Env) (md : Nat → Nat) (ops : Array Oper) (c d j i : Nat) : Bool :=
  ((Region.before ops).getD i 0).testBit j || (j == c && i == d) || match ops[j]?, ops[i]? with
    | some y, some x => y.apart ops x && compat j i (dcOf P Γ (md j) y.op) (dcOf P Γ (md i) x.op)
    | _, _ => false
def okPairs (P : Program) (Γ : Env) (md : Nat → Nat) (ops : Array Oper) (c d : Nat) : List Nat → Bool
  | [] => true
  | j :: r => (r.all fun i => okPair P Γ md ops c d j i && j != i) && okPairs P Γ md ops c d r
def okEdges (ops : Array Oper) : Bool := (List.range ops.size).all fun j => match ops[j]? with
  | none => true
  | some y => y.after.all fun e => !Region.binds .any e || decide (e.on < j)
def okL (P : Program) (Γ : Env) (md : Nat → Nat) (ops : Array Oper) (c d : Nat) (l : List Nat) : Bool :=
  okPairs P Γ md ops c d l && ((List.range ops.size).all fun i => l.contains i) && l.all fun i => decide (i < ops.size)

theorem okPairs_pw {P : Program} {Γ : Env} {md : Nat → Nat} {ops : Array Oper} {c d : Nat} : ∀ {l : List Nat}, okPairs P Γ md ops c d l = true → l.Pairwise fun j i => okPair P Γ md ops c d j i = true ∧ j ≠ i
  | [], _ => .nil
  | j :: r, h => by
    simp only [okPairs, Bool.and_eq_true, List.all_eq_true] at h
    refine .cons (fun i hi => ?_) (okPairs_pw h.2)
    have := h.1 i hi
    exact ⟨this.1, by simpa using this.2⟩

section
variable {P : Program} {Γ : Env} {c : Ctx} {σ0 : Nat → Loc} {I0 : Nat → Prop} {w0 : World} {md : Nat → Nat} {ops : Array Oper}

def unlB (listed : Array Bool) (i : Nat) : Bool := !listed.getD i true
theorem unlB_iff {listed : Array Bool} {i : Nat} : unlB listed i = true ↔ listed.getD i true = false := by simp [unlB]
/-- No operation is ready: all have run. -/
theorem noready_of (he : okEdges ops = true) (listed : Array Bool) (hsz : listed.size = ops.size) (hr : Region.ready .any ops listed = []) : ∀ i, i < ops.size → listed.getD i true = true := by
  intro i
  induction i using Nat.strongRecOn with
  | _ i ih =>
    intro hlt
    cases hun : listed.getD i true with
    | true => rfl
    | false =>
      have : i ∈ Region.ready .any ops listed := by
        rw [mem_ready]
        refine ⟨hun, ops[i], Array.getElem?_eq_getElem hlt, fun e he' hb => ?_⟩
        have h1 := List.all_eq_true.1 he i (List.mem_range.2 hlt)
        simp only [Array.getElem?_eq_getElem hlt] at h1
        have h2 := Array.all_eq_true_iff_forall_mem.1 h1 e he'
        have hlt' : e.on < i := by simpa [hb] using h2
        have h3 := ih e.on hlt' (by omega)
        have hs2 : e.on < listed.size := by omega
        rw [Array.getD_eq_getD_getElem?, Array.getElem?_eq_getElem hs2] at h3 ⊢
        exact h3
      rw [hr] at this; cases this
/-- What is listed is closed under what must run before. -/
def Closed (ops : Array Oper) (listed : Array Bool) : Prop := ∀ m o, listed.getD m false = true → ops[m]? = some o → ∀ e ∈ o.after, Region.binds .any e = true → listed.getD e.on false = true
theorem anc_listed {listed : Array Bool} (hdc : Closed ops listed) {m j : Nat} (ha : Anc ops m j) (h : ∀ o, ops[m]? = some o → ∀ e ∈ o.after, Region.binds .any e = true → listed.getD e.on false = true) : listed.getD j false = true := by
  induction ha with
  | edge ho he hb => exact h _ ho _ he hb
  | step ho he hb _ ih2 => exact ih2 fun o ho' e' he' hb' => hdc _ o (h _ ho _ he hb) ho' e' he' hb'
theorem Closed.set {listed : Array Bool} (hdc : Closed ops listed) {i : Nat} {x : Oper} (hx : ops[i]? = some x) (hall : ∀ e ∈ x.after, Region.binds .any e = true → listed.getD e.on false = true) : Closed ops (listed.setIfInBounds i true) := by
  intro m o hm ho e he hb
  by_cases hmi : m = i
  · subst hmi
    rw [hx] at ho; obtain rfl := Option.some.inj ho
    exact getD_set_true (hall e he hb)
  · rw [getD_set_ne false (Ne.symm hmi)] at hm
    exact getD_set_true (hdc m o hm ho e he hb)

/-- One of the ready operations is taken out of an order. -/
theorem cand_step {l : List Nat} {a0 b0 : Nat} (hl : okL P Γ md ops a0 b0 l = true) {listed : Array Bool} (hsz : listed.size = ops.size) (hdc : Closed ops listed) {i : Nat} (hi : i ∈ Region.ready .any ops listed) (hab : listed.getD a0 true = true ∨ i ≠ b0) {s sf : S}
    (hrun : runIx P Γ c.GL md ops (l.filter (unlB listed)) s = some sf) : ∃ x s1 sf1, ops[i]? = some x ∧ stepO P Γ c.GL md ops i x s = some s1 ∧ runIx P Γ c.GL md ops (l.filter (unlB (listed.setIfInBounds i true))) s1 = some sf1 ∧ Seqv sf sf1 := by
  obtain ⟨hun, x, hx, hall⟩ := mem_ready.1 hi
  have hlt := (Array.getElem?_eq_some_iff.1 hx).1
  simp only [okL, Bool.and_eq_true, List.all_eq_true] at hl
  obtain ⟨⟨h1, h2⟩, h3⟩ := hl
  have hpw := (okPairs_pw h1).filter (unlB listed)
  have hmem : i ∈ l.filter (unlB listed) := List.mem_filter.2 ⟨by simpa using h2 i (List.mem_range.2 hlt), unlB_iff.2 hun⟩
  obtain ⟨p, q, hpq⟩ := List.append_of_mem hmem
  rw [hpq] at hpw hrun
  have hpi := fun j (hj : j ∈ p) => (List.pairwise_append.1 hpw).2.2 j hj i (by simp)
  have hiq := fun j (hj : j ∈ q) => (List.pairwise_cons.1 (List.pairwise_append.1 hpw).2.1).1 j hj
  obtain ⟨s1, sf1, f1, f2, f3⟩ := forward hx p q (fun j hj => by
    obtain ⟨g1, g2⟩ := hpi j hj
    have hjm : j ∈ l.filter (unlB listed) := by rw [hpq]; simp [hj]
    have hjun := unlB_iff.1 (List.mem_filter.1 hjm).2
    have hjlt : j < ops.size := by simpa using h3 j (List.mem_filter.1 hjm).1
    refine ⟨g2, ops[j], Array.getElem?_eq_getElem hjlt, ?_⟩
    simp only [okPair, Bool.or_eq_true, Bool.and_eq_true, beq_iff_eq, Array.getElem?_eq_getElem hjlt, hx] at g1
    rcases g1 with (g1 | ⟨rfl, rfl⟩) | g1
    · have := anc_listed hdc (before_anc ops i j g1) (fun o ho e he hb => by rw [hx] at ho; obtain rfl := Option.some.inj ho; exact hall e he hb)
      have hs2 : j < listed.size := by omega
      rw [Array.getD_eq_getD_getElem?, Array.getElem?_eq_getElem hs2] at hjun this
      simp only [Option.getD_some] at hjun this
      rw [hjun] at this; cases this
    · rcases hab with h | h
      · rw [h] at hjun; cases hjun
      · exact absurd rfl h
    · exact g1) hrun
  refine ⟨x, s1, sf1, hx, f1, ?_, f3⟩
  have hnew : l.filter (unlB (listed.setIfInBounds i true)) = p ++ q := by
    have e1 : l.filter (unlB (listed.setIfInBounds i true)) = (l.filter (unlB listed)).filter (fun k => k != i) := by
      rw [List.filter_filter]
      refine List.filter_congr fun k hk => ?_
      by_cases hki : k = i
      · subst hki
        unfold unlB
        rw [Array.getD_eq_getD_getElem?, Array.getElem?_setIfInBounds_self_of_lt (by omega)]; simp
      · unfold unlB
        rw [getD_set_ne true (Ne.symm hki)]
        simp [hki]
    rw [e1, hpq, List.filter_append, List.filter_cons]
    simp only [bne_self_eq_false, Bool.false_eq_true, if_false]
    congr 1
    · exact List.filter_eq_self.2 fun k hk => by simpa using (hpi k hk).2
    · exact List.filter_eq_self.2 fun k hk => by simpa using (hiq k hk).2.symm
  rw [hnew]; exact f2

theorem cand_done {l : List Nat} {a0 b0 : Nat} (hl : okL P Γ md ops a0 b0 l = true) {listed : Array Bool} (hall : ∀ i, i < ops.size → listed.getD i true = true) : l.filter (unlB listed) = [] := by
  simp only [okL, Bool.and_eq_true, List.all_eq_true] at hl
  refine List.filter_eq_nil_iff.2 fun j hj => ?_
  have := hall j (by simpa using hl.2 j hj)
  simp [unlB, this]

theorem drawn1_sound (hΓ : EnvOK P c.GL Γ) {Q : Exit → Act → World → Prop} (hdst : okDst c.nt ops.toList = true) (he : okEdges ops = true) {l : List Nat} {a0 b0 : Nat} (hl : okL P Γ md ops a0 b0 l = true) {s' : S}
    (hQ : ∀ a' w', R c σ0 I0 w0 (fun _ => False) s' a' w' → Q .normal a' w') :
    ∀ (fuel : Nat) (listed : Array Bool) (s sf : S) (a : Act) (w : World), listed.size = ops.size → listed.getD a0 true = true → (unl ops.size listed).length ≤ fuel → Closed ops listed →
      runIx P Γ c.GL md ops (l.filter (unlB listed)) s = some sf → Seqv s' sf → R c σ0 I0 w0 (fun k => k ∈ unl ops.size listed) s a w → wpAny P .any ops Q fuel listed a w := by
  have fin : ∀ (listed : Array Bool) (s sf : S) (a : Act) (w : World), listed.size = ops.size → Region.ready .any ops listed = [] → runIx P Γ c.GL md ops (l.filter (unlB listed)) s = some sf → Seqv s' sf → R c σ0 I0 w0 (fun k => k ∈ unl ops.size listed) s a w → Q .normal a w := by
    intro listed s sf a w hsz hr hrun heq hR
    rw [cand_done hl (noready_of he listed hsz hr)] at hrun
    obtain rfl := Option.some.inj hrun
    exact hQ _ _ ((hR.un fun k hk => hk.elim).eqv heq.symm)
  intro fuel
  induction fuel with
  | zero =>
    intro listed s sf a w hsz ha0 hlen hdc hrun heq hR
    have hun0 : unl ops.size listed = [] := List.eq_nil_of_length_eq_zero (by omega)
    have hr : Region.ready .any ops listed = [] := by
      refine List.eq_nil_iff_forall_not_mem.2 fun i hi => ?_
      obtain ⟨h1, o, ho, _⟩ := mem_ready.1 hi
      have : i ∈ unl ops.size listed := by unfold unl; rw [List.mem_filter, List.mem_range]; exact ⟨(Array.getElem?_eq_some_iff.1 ho).1, by rw [h1]; rfl⟩
      rw [hun0] at this; cases this
    exact ⟨hr, fin listed s sf a w hsz hr hrun heq hR⟩
  | succ fuel ih =>
    intro listed s sf a w hsz ha0 hlen hdc hrun heq hR
    refine ⟨fun hr => fin listed s sf a w hsz hr hrun heq hR, fun i hi => ?_⟩
    obtain ⟨x, s1, sf1, hx, f1, f2, f3⟩ := cand_step hl hsz hdc hi (.inl ha0) hrun
    obtain ⟨hun, x', hx', hall⟩ := mem_ready.1 hi
    rw [hx] at hx'; obtain rfl := Option.some.inj hx'
    have hlt := (Array.getElem?_eq_some_iff.1 hx).1
    have hmem : i ∈ unl ops.size listed := by unfold unl; rw [List.mem_filter, List.mem_range]; exact ⟨hlt, by rw [hun]; rfl⟩
    have hsub : ∀ k, k ∈ unl ops.size (listed.setIfInBounds i true) → k ∈ unl ops.size listed ∧ k ≠ i := by
      intro k hk
      simp only [unl, List.mem_filter, List.mem_range] at hk ⊢
      by_cases hki : k = i
      · subst hki
        rw [Array.getD_eq_getD_getElem?, Array.getElem?_setIfInBounds_self_of_lt (by omega)] at hk
        simp at hk
      · rw [getD_set_ne true (Ne.symm hki)] at hk
        exact ⟨hk, hki⟩
    have hlen2 : (unl ops.size (listed.setIfInBounds i true)).length < (unl ops.size listed).length := by
      have e0 : unl ops.size (listed.setIfInBounds i true) = (unl ops.size listed).filter (fun k => k != i) := by
        unfold unl
        rw [List.filter_filter]
        refine List.filter_congr fun k hk => ?_
        by_cases hki : k = i
        · subst hki
          rw [Array.getD_eq_getD_getElem?, Array.getElem?_setIfInBounds_self_of_lt (by omega)]; simp
        · rw [getD_set_ne true (Ne.symm hki)]
          simp [hki]
      rw [e0]
      refine Nat.lt_of_le_of_ne (List.length_filter_le _ _) fun e => ?_
      have := List.length_filter_eq_length_iff.1 e i hmem
      simp at this
    have ha1 : (listed.setIfInBounds i true).getD a0 true = true := by
      by_cases hai : a0 = i
      · subst hai; rw [Array.getD_eq_getD_getElem?, Array.getElem?_setIfInBounds_self_of_lt (by omega)]; rfl
      · rw [getD_set_ne true (Ne.symm hai)]; exact ha0
    have hstep := step_sound (K := wpAny P .any ops Q fuel (listed.setIfInBounds i true)) (Q := Q) (ops := ops) hΓ f1 (okDst_mem hdst (Array.mem_toList_iff.2 (Array.mem_of_getElem? hx))) (rem := fun k => k ∈ unl ops.size listed) hmem hR (fun a' w' hR' =>
      ih (listed.setIfInBounds i true) s1 sf1 a' w' (by simpa using hsz) ha1 (by omega) (hdc.set hx hall) f2 (heq.trans f3) (hR'.un fun k hk => hsub k hk))
    unfold wpOp
    simp only [hx]
    split
    · rename_i hw; rw [if_pos hw] at hstep; exact .inl hstep
    · rename_i hw; rw [if_neg hw] at hstep; exact hstep

theorem drawn2_sound (hΓ : EnvOK P c.GL Γ) {Q : Exit → Act → World → Prop} (hdst : okDst c.nt ops.toList = true) (he : okEdges ops = true) {l1 l2 : List Nat} {a0 b0 : Nat} (hne : a0 ≠ b0) (hl1 : okL P Γ md ops a0 b0 l1 = true) (hl2 : okL P Γ md ops b0 a0 l2 = true) {s1' s2' : S}
    (hQ1 : ∀ a' w', R c σ0 I0 w0 (fun _ => False) s1' a' w' → Q .normal a' w') (hQ2 : ∀ a' w', R c σ0 I0 w0 (fun _ => False) s2' a' w' → Q .normal a' w') :
    ∀ (fuel : Nat) (listed : Array Bool) (s sf1 sf2 : S) (a : Act) (w : World), listed.size = ops.size → (unl ops.size listed).length ≤ fuel → Closed ops listed →
      runIx P Γ c.GL md ops (l1.filter (unlB listed)) s = some sf1 → Seqv s1' sf1 → runIx P Γ c.GL md ops (l2.filter (unlB listed)) s = some sf2 → Seqv s2' sf2 → R c σ0 I0 w0 (fun k => k ∈ unl ops.size listed) s a w → wpAny P .any ops Q fuel listed a w := by
  have fin : ∀ (listed : Array Bool) (s sf : S) (a : Act) (w : World), listed.size = ops.size → Region.ready .any ops listed = [] → runIx P Γ c.GL md ops (l1.filter (unlB listed)) s = some sf → Seqv s1' sf → R c σ0 I0 w0 (fun k => k ∈ unl ops.size listed) s a w → Q .normal a w := by
    intro listed s sf a w hsz hr hrun heq hR
    rw [cand_done hl1 (noready_of he listed hsz hr)] at hrun
    obtain rfl := Option.some.inj hrun
    exact hQ1 _ _ ((hR.un fun k hk => hk.elim).eqv heq.symm)
  intro fuel
  induction fuel with
  | zero =>
    intro listed s sf1 sf2 a w hsz hlen hdc hrun heq _ _ hR
    have hun0 : unl ops.size listed = [] := List.eq_nil_of_length_eq_zero (by omega)
    have hr : Region.ready .any ops listed = [] := by
      refine List.eq_nil_iff_forall_not_mem.2 fun i hi => ?_
      obtain ⟨h1, o, ho, _⟩ := mem_ready.1 hi
      have : i ∈ unl ops.size listed := by unfold unl; rw [List.mem_filter, List.mem_range]; exact ⟨(Array.getElem?_eq_some_iff.1 ho).1, by rw [h1]; rfl⟩
      rw [hun0] at this; cases this
    exact ⟨hr, fin listed s sf1 a w hsz hr hrun heq hR⟩
  | succ fuel ih =>
    intro listed s sf1 sf2 a w hsz hlen hdc hrun1 heq1 hrun2 heq2 hR
    refine ⟨fun hr => fin listed s sf1 a w hsz hr hrun1 heq1 hR, fun i hi => ?_⟩
    obtain ⟨hun, x, hx, hall⟩ := mem_ready.1 hi
    have hlt := (Array.getElem?_eq_some_iff.1 hx).1
    have hmem : i ∈ unl ops.size listed := by unfold unl; rw [List.mem_filter, List.mem_range]; exact ⟨hlt, by rw [hun]; rfl⟩
    have hsub : ∀ k, k ∈ unl ops.size (listed.setIfInBounds i true) → k ∈ unl ops.size listed ∧ k ≠ i := by
      intro k hk
      simp only [unl, List.mem_filter, List.mem_range] at hk ⊢
      by_cases hki : k = i
      · subst hki
        rw [Array.getD_eq_getD_getElem?, Array.getElem?_setIfInBounds_self_of_lt (by omega)] at hk
        simp at hk
      · rw [getD_set_ne true (Ne.symm hki)] at hk
        exact ⟨hk, hki⟩
    have hlen2 : (unl ops.size (listed.setIfInBounds i true)).length < (unl ops.size listed).length := by
      have e0 : unl ops.size (listed.setIfInBounds i true) = (unl ops.size listed).filter (fun k => k != i) := by
        unfold unl
        rw [List.filter_filter]
        refine List.filter_congr fun k hk => ?_
        by_cases hki : k = i
        · subst hki
          rw [Array.getD_eq_getD_getElem?, Array.getElem?_setIfInBounds_self_of_lt (by omega)]; simp
        · rw [getD_set_ne true (Ne.symm hki)]
          simp [hki]
      rw [e0]
      refine Nat.lt_of_le_of_ne (List.length_filter_le _ _) fun e => ?_
      have := List.length_filter_eq_length_iff.1 e i hmem
      simp at this
    have hset : (listed.setIfInBounds i true).getD i true = true := by rw [Array.getD_eq_getD_getElem?, Array.getElem?_setIfInBounds_self_of_lt (by omega)]; rfl
    have go : ∀ (s1 : S), stepO P Γ c.GL md ops i x s = some s1 → (∀ a' w', R c σ0 I0 w0 (fun k => k ∈ unl ops.size (listed.setIfInBounds i true)) s1 a' w' → wpAny P .any ops Q fuel (listed.setIfInBounds i true) a' w') → wpOp P ops Q i (wpAny P .any ops Q fuel (listed.setIfInBounds i true)) a w := by
      intro s1 f1 hk
      have hstep := step_sound (K := wpAny P .any ops Q fuel (listed.setIfInBounds i true)) (Q := Q) (ops := ops) hΓ f1 (okDst_mem hdst (Array.mem_toList_iff.2 (Array.mem_of_getElem? hx))) (rem := fun k => k ∈ unl ops.size listed) hmem hR (fun a' w' hR' => hk a' w' (hR'.un fun k hk => hsub k hk))
      unfold wpOp
      simp only [hx]
      split
      · rename_i hw; rw [if_pos hw] at hstep; exact .inl hstep
      · rename_i hw; rw [if_neg hw] at hstep; exact hstep
    by_cases hib : i = b0
    · obtain ⟨x', s1, sf', hx', f1, f2, f3⟩ := cand_step hl2 hsz hdc hi (.inr (fun e => hne (e.symm.trans hib))) hrun2
      rw [hx] at hx'; obtain rfl := Option.some.inj hx'
      exact go s1 f1 fun a' w' hR' => drawn1_sound hΓ hdst he hl2 hQ2 fuel _ s1 sf' a' w' (by simpa using hsz) (by rw [← hib]; exact hset) (by omega) (hdc.set hx hall) f2 (heq2.trans f3) hR'
    · by_cases hia : i = a0
      · obtain ⟨x', s1, sf', hx', f1, f2, f3⟩ := cand_step hl1 hsz hdc hi (.inr hib) hrun1
        rw [hx] at hx'; obtain rfl := Option.some.inj hx'
        exact go s1 f1 fun a' w' hR' => drawn1_sound hΓ hdst he hl1 hQ1 fuel _ s1 sf' a' w' (by simpa using hsz) (by rw [← hia]; exact hset) (by omega) (hdc.set hx hall) f2 (heq1.trans f3) hR'
      · obtain ⟨x1, s1, sfa, hx1, f1, f2, f3⟩ := cand_step hl1 hsz hdc hi (.inr hib) hrun1
        obtain ⟨x2, s2, sfb, hx2, g1, g2, g3⟩ := cand_step hl2 hsz hdc hi (.inr hia) hrun2
        rw [hx] at hx1 hx2; obtain rfl := Option.some.inj hx1; obtain rfl := Option.some.inj hx2
        rw [f1] at g1; obtain rfl := Option.some.inj g1
        exact go s1 f1 fun a' w' hR' => ih (listed.setIfInBounds i true) s1 sfa sfb a' w' (by simpa using hsz) (by omega) (hdc.set hx hall) f2 (heq1.trans f3) g2 (heq2.trans g3) hR'
end

def ok2 (P : Program) (Γ : Env) (md : Nat → Nat) (a0 b0 : Nat) (l1 l2 : List Nat) (c : Code) : Bool := okEdges (rOps c) && okL P Γ md (rOps c) a0 b0 l1 && okL P Γ md (rOps c) b0 a0 l2
def runM (P : Program) (Γ : Env) (GL : Nat → Option (List AV)) (md : Nat → Nat) (n : Nat) (ls : List LOp) : List Nat → S → Option S
  | [], s => some s
  | i :: r, s => obind (stepI P Γ GL (md i) n i s ls[i]?) fun s' => runM P Γ GL md n ls r s'
@[congr] theorem runM_congr {P : Program} {Γ : Env} {GL : Nat → Option (List AV)} {md : Nat → Nat} {n : Nat} {ls : List LOp} {l : List Nat} {s s' : S} (h : s = s') : runM P Γ GL md n ls l s = runM P Γ GL md n ls l s' := by rw [h]
theorem runM_nil (P Γ GL md n ls s) : runM P Γ GL md n ls [] s = some s := (rfl)
theorem runM_cons (P Γ GL md n ls i r s) : runM P Γ GL md n ls (i :: r) s = obind (stepI P Γ GL (md i) n i s ls[i]?) fun s' => runM P Γ GL md n ls r s' := (rfl)

theorem awp_dr2 {P : Program} {GL : Nat → Option (List AV)} {nt : Nat} {Q : Exit → S → Prop} {s : S} {code : Code} {Γ : Env} (a0 b0 : Nat) (l1 l2 : List Nat) (md : Nat → Nat) (ks : List Nat) (hm : P.follows .mixedOrders = true) (hΓ : EnvOK P GL Γ) (hne : a0 ≠ b0) (hc : isReg code = true) (hd : rDraw code = true) (ho : okDst nt (rOps code).toList = true) (hk : ok2 P Γ md a0 b0 l1 l2 code = true)
    (h1 : ∀ K : S → Prop, (∀ t, Q .normal t → K t) → someP (runM P Γ GL md (rN code) (lights code) l1 (enterR (rN code) s)) fun t => K { t with fr := keepF ks t.fr })
    (h2 : ∀ K : S → Prop, (∀ t, Q .normal t → K t) → someP (runM P Γ GL md (rN code) (lights code) l2 (enterR (rN code) s)) fun t => K { t with fr := keepF ks t.fr }) : Awp P GL nt code s Q := by
  replace h1 := h1 (Q .normal) fun _ h => h
  replace h2 := h2 (Q .normal) fun _ h => h
  refine Q_keep ?_
  cases code <;> first | (cases hc; done) | skip
  rename_i id ops d
  simp only [rDraw] at hd
  subst hd
  intro c g1 g2 σ0 I0 w0 a w hR
  subst g1; subst g2
  simp only [rOps, ok2, Bool.and_eq_true] at ho hk
  have h0 : unl ops.size (Array.replicate ops.size false) = List.range ops.size := by
    unfold unl
    refine List.filter_eq_self.2 fun k hk => ?_
    rw [List.mem_range] at hk
    rw [Array.getD_eq_getD_getElem?, Array.getElem?_replicate, if_pos hk]; rfl
  have hf : ∀ {x y : Nat} {l : List Nat}, okL P Γ md ops x y l = true → l.filter (unlB (Array.replicate ops.size false)) = l := by
    intro x y l hl
    simp only [okL, Bool.and_eq_true, List.all_eq_true] at hl
    refine List.filter_eq_self.2 fun j hj => unlB_iff.2 ?_
    have : j < ops.size := by simpa using hl.2 j hj
    rw [Array.getD_eq_getD_getElem?, Array.getElem?_replicate, if_pos this]; rfl
  have hrun : ∀ (l : List Nat) (s : S), runM P Γ c.GL md (rN (.region id ops true)) (lights (.region id ops true)) l s = runIx P Γ c.GL md ops l s := by
    intro l
    induction l with
    | nil => intro s; rfl
    | cons i r ih =>
      intro s
      have hl : (lights (.region id ops true))[i]? = (ops[i]?).map (light ops) := by simp only [lights, rOps, List.getElem?_map, Array.getElem?_toList]
      simp only [runM, runIx, hl]
      cases ops[i]? with
      | none => rfl
      | some o =>
        simp only [Option.map_some, stepI, step_eq]
        congr 1
        funext s'
        exact ih s'
  obtain ⟨t1, e1, e2⟩ := someP_inv h1
  obtain ⟨t2, f1, f2⟩ := someP_inv h2
  rw [hrun] at e1 f1
  refine wp_region_any hm (drawn2_sound (σ0 := σ0) (I0 := I0) (w0 := w0) (md := md) (s1' := t1) (s2' := t2) hΓ ho hk.1.1 hne hk.1.2 hk.2 (fun a' w' hR' => ⟨t1, ⟨_, e2, sub_keep ks t1, rfl⟩, hR'⟩) (fun a' w' hR' => ⟨t2, ⟨_, f2, sub_keep ks t2, rfl⟩, hR'⟩)
    ops.size _ (enterR ops.size s) t1 t2 a _ (by simp) (by rw [h0]; simp) (fun m o hl => ?_) (by rw [hf hk.1.2]; exact e1) (Seqv.refl _) (by rw [hf hk.2]; exact f1) (Seqv.refl _) ?_)
  · rw [Array.getD_eq_getD_getElem?, Array.getElem?_replicate] at hl; split at hl <;> cases hl
  · exact ((hR.enter ops.size).un fun k hk => by rw [h0] at hk; exact List.mem_range.1 hk).world rfl rfl rfl rfl
end Go.AX

namespace Go.AX
open Go Go.Proofs

section
variable {P : Program} {Γ : Env} {ρ : Operand → AV} {m nx n id cx : Nat} {hp : H}
def lkF (P : Program) (hp : H) (x k : AV) (ok : Bool) : Option TypeDesc → Option AV
  | some (.map kt et) => obind (P.underlying kt) fun d => guardO (keyD d k = true) (obind (zvA P et) fun z => obind (mpOf hp x) fun es => obind (mget k es) fun r => some (lookR z ok r))
  | _ => none
theorem e_lookup {t : TypeId} {x k : Operand} {ok : Bool} : eff P Γ (.lookup t x k ok) ρ m nx n hp id cx = obind (lkF P (hsel m nx n hp) (ρ x) (ρ k) ok (P.underlying t)) fun y => some (y, hp, cx) := by
  simp only [eff, cls, readOp, lookA]
  cases P.underlying t with
  | none => rfl
  | some d => cases d <;> rfl
theorem lkF_m {x k : AV} {ok : Bool} (kt et : TypeId) : lkF P hp x k ok (some (.map kt et)) = obind (P.underlying kt) fun d => guardO (keyD d k = true) (obind (zvA P et) fun z => obind (mpOf hp x) fun es => obind (mget k es) fun r => some (lookR z ok r)) := (rfl)
def muM (hp : H) (m k x : AV) : Option (AV × H) :=
  match m with
  | .mp id => obind (frz1 hp x) fun fx => obind (fx.2 id) (mapO k fx.1 id fx.2)
  | _ => none
def muF (P : Program) (hp : H) (m k x : AV) : Option TypeDesc → Option (AV × H)
  | some (.map kt _) => obind (P.underlying kt) fun d => guardO (keyD d k = true) (muM hp m k x)
  | _ => none
theorem e_mup {t : TypeId} {a k x : Operand} : eff P Γ (.mapUpdate t a k x) ρ m nx n hp id cx = obind (muF P hp (ρ a) (ρ k) (ρ x) (P.underlying t)) fun p => some (p.1, p.2, cx) := by
  simp only [eff, cls, writeOp, mapUp]
  cases P.underlying t with
  | none => rfl
  | some d => cases d <;> first | rfl | (simp only [muF, muM]; cases ρ a <;> rfl)
theorem e_mins {t : TypeId} {a k x : Operand} : eff P Γ (.insert t a k x) ρ m nx n hp id cx = obind (muF P hp (ρ a) (ρ k) (ρ x) (P.underlying t)) fun p => some (p.1, p.2, cx) := by
  simp only [eff, cls, writeOp, mapUp]
  cases P.underlying t with
  | none => rfl
  | some d => cases d <;> first | rfl | (simp only [muF, muM]; cases ρ a <;> rfl)
theorem muF_m {a k x : AV} (kt et : TypeId) : muF P hp a k x (some (.map kt et)) = obind (P.underlying kt) fun d => guardO (keyD d k = true) (muM hp a k x) := (rfl)
theorem muM_mp {k x : AV} (i : Nat) : muM hp (.mp i) k x = obind (frz1 hp x) fun fx => obind (fx.2 i) (mapO k fx.1 i fx.2) := (rfl)
theorem mapO_m {k x : AV} (i : Nat) (es : List (AV × AV)) (mt : Bool) : mapO k x i hp (.mapo es mt) = guardO (mt = true) (obind (mput k x es) fun es' => some (.junk, upd hp i (.mapo es' true))) := (rfl)
theorem e_mkmap {t : TypeId} : eff P Γ (.makeMap t none) ρ m nx n hp id cx = some (.mp id, upd hp id (.mapo [] true), cx) := (rfl)
def dlM (hp : H) (m k : AV) : Option (AV × H) :=
  match m with
  | .mp id => obind (hp id) (delO k id hp)
  | _ => none
def dlF (P : Program) (hp : H) (m k : AV) : Option TypeDesc → Option (AV × H)
  | some (.map kt _) => obind (P.underlying kt) fun d => guardO (keyD d k = true) (dlM hp m k)
  | _ => none
theorem ea_delete {x k : Operand} {t t2 : TypeId} : eff P Γ (.call { callee := .builtin .delete, args := #[x, k], argTypes := #[t, t2] }) ρ m nx n hp id cx = obind (dlF P hp (ρ x) (ρ k) (P.underlying t)) fun p => some (p.1, p.2, cx) := by
  simp only [eff, cls, writeOp, delA]
  cases P.underlying t with
  | none => rfl
  | some d => cases d <;> first | rfl | (simp only [dlF, dlM]; cases ρ x <;> rfl)
theorem dlF_m {a k : AV} (kt et : TypeId) : dlF P hp a k (some (.map kt et)) = obind (P.underlying kt) fun d => guardO (keyD d k = true) (dlM hp a k) := (rfl)
theorem dlM_mp {k : AV} (i : Nat) : dlM hp (.mp i) k = obind (hp i) (delO k i hp) := (rfl)
theorem delO_m {k : AV} (i : Nat) (es : List (AV × AV)) (mt : Bool) : delO k i hp (.mapo es mt) = guardO (mt = true) (obind (mdel k es) fun es' => some (.tup [], upd hp i (.mapo es' true))) := (rfl)
def fm1O (hp : H) (i off n e : Nat) : AO → Option (AV × H)
  | .cells xs _ => guardO (off + n * e ≤ xs.length) (some (.sl n ((xs.drop off).take (n * e)), upd hp i (.cells xs false)))
  | _ => none
theorem fm_os (i off n e g) : frz1 hp (.os i off n e g) = obind (hp i) (fm1O hp i off n e) := by
  simp only [frz1]; congr 1
theorem fm1O_c (i off n e xs mt) : fm1O hp i off n e (.cells xs mt) = guardO (off + n * e ≤ xs.length) (some (.sl n ((xs.drop off).take (n * e)), upd hp i (.cells xs false))) := (rfl)
theorem fm_nil : frz1 hp (.v (.slice none 0 0)) = some (.sl 0 [], hp) := (rfl)
theorem fm_w8 (x) : frz1 hp (.w8 x) = some (.w8 x, hp) := (rfl)
theorem fm_w16 (x) : frz1 hp (.w16 x) = some (.w16 x, hp) := (rfl)
theorem fm_w32 (x) : frz1 hp (.w32 x) = some (.w32 x, hp) := (rfl)
theorem fm_w64 (x) : frz1 hp (.w64 x) = some (.w64 x, hp) := (rfl)
theorem fm_i (x) : frz1 hp (.i x) = some (.i x, hp) := (rfl)
theorem fm_b (x) : frz1 hp (.b x) = some (.b x, hp) := (rfl)
theorem fm_s (x) : frz1 hp (.s x) = some (.s x, hp) := (rfl)
theorem fm_agg (x) : frz1 hp (.agg x) = some (.agg x, hp) := (rfl)
theorem fm_sl (n x) : frz1 hp (.sl n x) = some (.sl n x, hp) := (rfl)
theorem fm_rp (x) : frz1 hp (.rp x) = some (.rp x, hp) := (rfl)
theorem fm_op (i o) : frz1 hp (.op i o) = some (.op i o, hp) := (rfl)
theorem fm_mp (i) : frz1 hp (.mp i) = some (.mp i, hp) := (rfl)
theorem fm_ptr (p) : frz1 hp (.v (.pointer p)) = some (.v (.pointer p), hp) := (rfl)
theorem kd_i (x) : keyD (.int .i64) (.i x) = true := (rfl)
theorem kd_8 (x) : keyD (.int .u8) (.w8 x) = true := (rfl)
theorem kd_16 (x) : keyD (.int .u16) (.w16 x) = true := (rfl)
theorem kd_32 (x) : keyD (.int .u32) (.w32 x) = true := (rfl)
theorem kd_64 (x) : keyD (.int .u64) (.w64 x) = true := (rfl)
theorem kd_s (x) : keyD .string (.s x) = true := (rfl)
theorem lr_st (z v) : lookR z true (some v) = .tup [v, .b true] := (rfl)
theorem lr_sf (z v) : lookR z false (some v) = v := (rfl)
theorem lr_nt (z) : lookR z true none = .tup [z, .b false] := (rfl)
theorem lr_nf (z) : lookR z false none = z := (rfl)
theorem e_mkf {f : FuncId} {cap : Array Operand} : eff P Γ (.makeFunc (.func f) #[] cap) ρ m nx n hp id cx = some (.fn f (cap.toList.map ρ), hp, cx) := (rfl)
theorem cellsV_mp (i) : cellsV (.mp i) = some [.mp i] := (rfl)
end
attribute [go_sem] e_lookup lkF_m e_mup e_mins muF_m muM_mp mapO_m e_mkmap ea_delete dlF_m dlM_mp delO_m fm_os fm1O_c fm_nil fm_w8 fm_w16 fm_w32 fm_w64 fm_i fm_b fm_s fm_agg fm_sl fm_rp fm_op fm_mp fm_ptr kd_i kd_8 kd_16 kd_32 kd_64 kd_s lr_st lr_sf lr_nt lr_nf cellsV_mp e_mkf
/-! Maps whose entries are a plain list of keys and values. -/
section
variable {α : Type} [DecidableEq α] (kc : α → AV) (hk : ∀ a b, kEq (kc a) (kc b) = some (decide (a = b)))
/-- Where a key stands. -/
def posK (a : α) : List α → Option Nat
  | [] => none
  | b :: r => if a = b then some 0 else (posK a r).map (· + 1)
include hk in
theorem midx_map {β : Type} (vc : β → AV) (a : α) : ∀ l : List (α × β), midx (kc a) (l.map fun p => (kc p.1, vc p.2)) = some (posK a (l.map (·.1)))
  | [] => rfl
  | p :: r => by
    simp only [List.map_cons, midx, posK, hk, obind_some]
    by_cases h : a = p.1
    · simp [h]
    · simp only [h, decide_false, if_false, midx_map vc a r, obind_some]
def getK {β : Type} (a : α) : List (α × β) → Option β
  | [] => none
  | p :: r => if a = p.1 then some p.2 else getK a r
def putK {β : Type} (a : α) (v : β) : List (α × β) → List (α × β)
  | [] => [(a, v)]
  | p :: r => if a = p.1 then (a, v) :: r else p :: putK a v r
def delK {β : Type} (a : α) : List (α × β) → List (α × β)
  | [] => []
  | p :: r => if a = p.1 then r else p :: delK a r
include hk in
theorem mget_map {β : Type} (vc : β → AV) (a : α) (l : List (α × β)) : mget (kc a) (l.map fun p => (kc p.1, vc p.2)) = some ((getK a l).map vc) := by
  unfold mget
  rw [midx_map kc hk, obind_some]
  congr 1
  induction l with
  | nil => rfl
  | cons p r ih =>
    simp only [List.map_cons, posK, getK]
    by_cases h : a = p.1
    · simp [h]
    · simp only [h, if_false]
      rw [← ih]
      cases posK a (r.map (·.1)) <;> simp
include hk in
theorem mput_map {β : Type} (vc : β → AV) (a : α) (v : β) (l : List (α × β)) : mput (kc a) (vc v) (l.map fun p => (kc p.1, vc p.2)) = some ((putK a v l).map fun p => (kc p.1, vc p.2)) := by
  unfold mput
  rw [midx_map kc hk, obind_some]
  congr 1
  induction l with
  | nil => rfl
  | cons p r ih =>
    simp only [List.map_cons, posK, putK]
    by_cases h : a = p.1
    · simp [h]
    · simp only [h, if_false, List.map_cons]
      rw [← ih]
      cases posK a (r.map (·.1)) <;> simp
include hk in
theorem mdel_map {β : Type} (vc : β → AV) (a : α) (l : List (α × β)) : mdel (kc a) (l.map fun p => (kc p.1, vc p.2)) = some ((delK a l).map fun p => (kc p.1, vc p.2)) := by
  unfold mdel
  rw [midx_map kc hk, obind_some]
  congr 1
  induction l with
  | nil => rfl
  | cons p r ih =>
    simp only [List.map_cons, posK, delK]
    by_cases h : a = p.1
    · simp [h]
    · simp only [h, if_false, List.map_cons]
      rw [← ih]
      cases posK a (r.map (·.1)) <;> simp
end
theorem kEq_i (a b : Int) : kEq (.i a) (.i b) = some (decide (a = b)) := (rfl)
theorem kEq_8 (a b : BitVec 8) : kEq (.w8 a) (.w8 b) = some (decide (a = b)) := (rfl)
theorem kEq_16 (a b : BitVec 16) : kEq (.w16 a) (.w16 b) = some (decide (a = b)) := (rfl)
theorem kEq_32 (a b : BitVec 32) : kEq (.w32 a) (.w32 b) = some (decide (a = b)) := (rfl)
theorem kEq_64 (a b : BitVec 64) : kEq (.w64 a) (.w64 b) = some (decide (a = b)) := (rfl)
theorem kEq_s (a b : List (BitVec 8)) : kEq (.s a) (.s b) = some (decide (a = b)) := (rfl)
end Go.AX
