/-
  AX, part T: code, functions.
-/
import Derived.Test.YtnnkmoaipcdhnaaDoorAxQ
namespace Go.AX
open Go

/-- From the state s on, the code comes to Q. -/
def Awp (P : Program) (GL : Nat → Option (List AV)) (nt : Nat) (code : Code) (s : S) (Q : Exit → S → Prop) : Prop :=
  ∀ (c : Ctx), c.GL = GL → c.nt = nt → ∀ (σ0 : Nat → Loc) (I0 : Nat → Prop) (w0 : World) (a : Act) (w : World), R c σ0 I0 w0 (fun _ => False) s a w →
    code.wp P (fun e a' w' => ∃ s', Q e s' ∧ R c σ0 I0 w0 (fun _ => False) s' a' w') a w

/-- What a weaker state says, a stronger one says too. -/
structure Sub (s t : S) : Prop where
  fr : ∀ k, look s.fr k = .junk ∨ look s.fr k = look t.fr k
  hp : ∀ id o, s.hp id = some o → t.hp id = some o
  cx : t.cx ≤ s.cx

section
variable {P : Program} {GL : Nat → Option (List AV)} {nt : Nat} {Q : Exit → S → Prop} {s : S}

theorem R.sub {c : Ctx} {σ0 : Nat → Loc} {I0 : Nat → Prop} {w0 : World} {s t : S} {a : Act} {w : World} (h : R c σ0 I0 w0 (fun _ => False) t a w) (hs : Sub s t) (hn : s.nx = t.nx) : R c σ0 I0 w0 (fun _ => False) s a w := by
  obtain ⟨⟨σ, I, a1, a2, a3⟩, b, d, e, e0⟩ := h
  refine ⟨⟨σ, I, (a1.sub hs.hp).mono_un fun id hid => ?_, a2, fun k => ?_⟩, b, d, fun k hk => hk.elim, fun id hid => ?_⟩
  · rcases hid with hid | ⟨k, hk, _⟩ | hid
    · exact .inl (Nat.le_trans hs.cx hid)
    · exact hk.elim
    · exact .inr (.inr hid)
  · rcases hs.fr k with h | h
    · rw [h]; exact .junk _
    · rw [h]; exact a3 k
  · have := e0 id hid; have := hs.cx; rw [hn]; omega

theorem awp_sub {code : Code} {t : S} (h : Awp P GL nt code s Q) (hs : Sub s t) (hn : s.nx = t.nx) : Awp P GL nt code t Q :=
  fun c h1 h2 σ0 I0 w0 a w hR => h c h1 h2 σ0 I0 w0 a w (hR.sub hs hn)

theorem awp_mono {code : Code} {Q' : Exit → S → Prop} (h : Awp P GL nt code s Q) (hq : ∀ e t, Q e t → Q' e t) : Awp P GL nt code s Q' :=
  fun c h1 h2 σ0 I0 w0 a w hR => wp_mono (h c h1 h2 σ0 I0 w0 a w hR) fun _ _ _ ⟨t, a1, a2⟩ => ⟨t, hq _ _ a1, a2⟩

def andThenQ (P : Program) (GL : Nat → Option (List AV)) (nt : Nat) (b : Code) (Q : Exit → S → Prop) : Exit → S → Prop
  | .normal, t => Awp P GL nt b t Q
  | e, t => Q e t

theorem awp_seq {x y : Code} (h : Awp P GL nt x s (andThenQ P GL nt y Q)) : Awp P GL nt (.seq x y) s Q := by
  intro c h1 h2 σ0 I0 w0 a w hR
  refine wp_seq (wp_mono (h c h1 h2 σ0 I0 w0 a w hR) ?_)
  rintro e a' w' ⟨t, hq, hr⟩
  cases e with
  | normal => exact hq c h1 h2 σ0 I0 w0 a' w' hr
  | _ => exact ⟨t, hq, hr⟩

theorem awp_region {Γ : Env} {md : Nat → Nat} {id : Nat} {ops : Array Oper} {t : S} (hΓ : EnvOK P GL Γ) (hd : okDst nt ops.toList = true) (h : runL P Γ GL md ops 0 ops.toList (enterR ops.size s) = some t) (hq : Q .normal t) :
    Awp P GL nt (.region id ops false) s Q := by
  intro c h1 h2 σ0 I0 w0 a w hR
  subst h1; subst h2
  exact region_sound hΓ hd h hR fun a' w' hR' => ⟨t, hq, hR'⟩

theorem awp_draw {Γ : Env} {md : Nat → Nat} {id : Nat} {ops : Array Oper} {t : S} (hm : P.follows .mixedOrders = true) (hΓ : EnvOK P GL Γ) (hd : okDst nt ops.toList = true) (ho : okDraw P Γ md ops = true)
    (h : runL P Γ GL md ops 0 ops.toList (enterR ops.size s) = some t) (hq : Q .normal t) : Awp P GL nt (.region id ops true) s Q := by
  intro c h1 h2 σ0 I0 w0 a w hR
  subst h1; subst h2
  exact draw_sound hm hΓ hd ho h hR fun a' w' hR' => ⟨t, hq, hR'⟩

theorem awp_cond {x y : Code} {cnd : Operand} {b : Bool} (hb : ev GL s.fr cnd = .b b) (ht : b = true → Awp P GL nt x s Q) (hf : b = false → Awp P GL nt y s Q) : Awp P GL nt (.cond cnd x y) s Q := by
  intro c h1 h2 σ0 I0 w0 a w hR
  have hv : a.eval cnd = .bool b := by
    obtain ⟨⟨σ, I, a1, a2, a3⟩, _⟩ := hR
    have := ev_rel a1 a3 cnd
    rw [h1, hb] at this
    exact b_inv this
  refine wp_cond_split hv (fun h => ht h c h1 h2 σ0 I0 w0 a w hR) (fun h => hf h c h1 h2 σ0 I0 w0 a w hR)

theorem awp_skip (h : Q .normal s) : Awp P GL nt .skip s Q := fun _ _ _ _ _ _ _ _ hR => wp_skip ⟨s, h, hR⟩
theorem awp_label {l : Nat} (h : Q .normal s) : Awp P GL nt (.label l) s Q := fun _ _ _ _ _ _ _ _ hR => wp_label ⟨s, h, hR⟩
theorem awp_exit {id : Nat} (h : Q (.exit id) s) : Awp P GL nt (.exit id) s Q := fun _ _ _ _ _ _ _ _ hR => wp_exit ⟨s, h, hR⟩
theorem awp_ret (h : Q .ret s) : Awp P GL nt .ret s Q := fun _ _ _ _ _ _ _ _ hR => wp_ret ⟨s, h, hR⟩

def inBlockQ (id : Nat) (Q : Exit → S → Prop) : Exit → S → Prop
  | .exit id', t => if id' = id then Q .normal t else Q (.exit id') t
  | e, t => Q e t

theorem awp_block {id : Nat} {x : Code} (h : Awp P GL nt x s (inBlockQ id Q)) : Awp P GL nt (.block id x) s Q := by
  intro c h1 h2 σ0 I0 w0 a w hR
  refine wp_block (wp_mono (h c h1 h2 σ0 I0 w0 a w hR) ?_)
  rintro e a' w' ⟨t, hq, hr⟩
  cases e with
  | exit id' =>
    simp only [Exit.inBlock, inBlockQ] at hq ⊢
    split
    · rename_i e; rw [if_pos e] at hq; exact ⟨t, hq, hr⟩
    · rename_i e; rw [if_neg e] at hq; exact ⟨t, hq, hr⟩
  | _ => exact ⟨t, hq, hr⟩

/-- A loop: states of a family, each round goes to a later one. -/
def loopQ {ι : Type} (st : ι → S) (inv : ι → Prop) (μ : ι → Nat) (i : ι) (Q : Exit → S → Prop) : Exit → S → Prop
  | .normal, t => ∃ j, inv j ∧ μ j < μ i ∧ Sub (st j) t
  | e, t => Q e t

theorem awp_loop {ι : Type} (st : ι → S) (inv : ι → Prop) (μ : ι → Nat) {x : Code} (h0 : ∃ i, inv i ∧ Sub (st i) s) (hr : ∀ i, inv i → ∀ n, Awp P GL nt x { st i with nx := n } (loopQ st inv μ i Q)) : Awp P GL nt (.loop x) s Q := by
  intro c h1 h2 σ0 I0 w0 a w hR
  obtain ⟨i0, hi0, hs0⟩ := h0
  intro b kk cs
  have key : ∀ (k : Nat) (i : ι) (n : Nat) (a : Act) (w : World), μ i = k → inv i → R c σ0 I0 w0 (fun _ => False) { st i with nx := n } a w →
      ∃ e a' w', (∃ s', Q e s' ∧ R c σ0 I0 w0 (fun _ => False) s' a' w') ∧ Arrives P (lone (b.at a (.code x :: .inLoop x :: kk)) cs w) b kk cs e a' w' := by
    intro k
    induction k using Nat.strongRecOn with
    | _ k ih =>
      intro i n a w hk hi hR
      obtain ⟨e, a', w', ⟨t, hq, hrt⟩, harr⟩ := hr i hi n c h1 h2 σ0 I0 w0 a w hR b (.inLoop x :: kk) cs
      cases e with
      | normal =>
        obtain ⟨j, hj, hlt, hsub⟩ := hq
        obtain ⟨e2, a2, w2, hq2, harr2⟩ := ih (μ j) (hk ▸ hlt) j t.nx a' w' rfl hj (hrt.sub ⟨hsub.fr, hsub.hp, hsub.cx⟩ rfl)
        exact ⟨e2, a2, w2, hq2, .of_steps (Steps.trans harr (.one step_inLoop)) harr2⟩
      | exit id => exact ⟨_, a', w', ⟨t, hq, hrt⟩, .pass (x := .inLoop x) rfl (fun _ _ => .inl (by simp)) harr⟩
      | goto l => exact ⟨_, a', w', ⟨t, hq, hrt⟩, .pass (x := .inLoop x) rfl (fun _ _ => .inl (by simp)) harr⟩
      | ret => exact ⟨_, a', w', ⟨t, hq, hrt⟩, .pass (x := .inLoop x) rfl (fun _ _ => .inl (by simp)) harr⟩
      | panic ch => exact ⟨_, a', w', ⟨t, hq, hrt⟩, .pass (x := .inLoop x) rfl (fun _ _ => .inl (by simp)) harr⟩
      | outgrown => exact ⟨_, a', w', ⟨t, hq, hrt⟩, .pass (x := .inLoop x) rfl (fun _ _ => .inl (by simp)) harr⟩
  obtain ⟨e, a', w', hq, harr⟩ := key (μ i0) i0 s.nx a w rfl hi0 (hR.sub ⟨hs0.fr, hs0.hp, hs0.cx⟩ rfl)
  exact ⟨e, a', w', hq, .of_steps (.one step_loop) harr⟩

/- FUNCTIONS -/

def frOf : Nat → List AV → List (Nat × AV)
  | _, [] => []
  | k, x :: r => (k, x) :: frOf (k + 1) r

theorem look_frOf : ∀ (l : List AV) (k t : Nat), look (frOf k l) t = if h : k ≤ t ∧ t - k < l.length then l[t - k]'h.2 else .junk
  | [], k, t => by simp [frOf, look]
  | x :: r, k, t => by
    simp only [frOf, look, look_frOf r (k + 1) t, List.length_cons]
    by_cases h : k = t
    · subst h; rw [if_pos rfl, dif_pos ⟨Nat.le_refl _, by omega⟩]; simp
    · rw [if_neg h]
      by_cases h2 : k + 1 ≤ t ∧ t - (k + 1) < r.length
      · rw [dif_pos h2, dif_pos ⟨by omega, by omega⟩]
        have e : t - k = (t - (k + 1)) + 1 := by omega
        simp only [e, List.getElem_cons_succ]
      · rw [dif_neg h2, dif_neg (by omega)]

/-- What a function's results read as. -/
def resA1 (P : Program) (hp : H) (fr : List (Nat × AV)) (r : ResultVar) : Option AV :=
  match r with
  | .tmp t => some (look fr t)
  | .cell a t => match look fr a with
    | .op id off => obind (hp id) fun o => match o with | .cells xs _ => ldV P t (xs.drop off)
    | _ => none
def resAL (P : Program) (hp : H) (fr : List (Nat × AV)) : List ResultVar → Option (List AV)
  | [] => some []
  | r :: rs => obind (resA1 P hp fr r) fun x => obind (resAL P hp fr rs) fun l => some (x :: l)
def resA (P : Program) (rs : List ResultVar) (s : S) : Option AV :=
  obind (resAL P s.hp s.fr rs) fun l => some (match l with | [x] => x | l => .tup l)

theorem resAL_sound {c : Ctx} {σ : Nat → Loc} {I : Nat → Prop} {w : World} {hp : H} {fr : List (Nat × AV)} {a : Act} {un : Nat → Prop} (hi : Inv c σ I w hp un) (hf : ∀ t, Rel σ I w (look fr t) (a.tmps.getD t undef)) :
    ∀ (rs : List ResultVar) {l : List AV}, resAL P hp fr rs = some l →
      ∃ vs : List Value, (rs.mapM (fun r => match r with | .tmp t => pure (a.tmps.getD t undef) | .cell p t => do loadVar t (← asAddr (a.tmps.getD p undef)) : ResultVar → Sem Value)).run P w = .ok vs w ∧ vs.length = l.length ∧ ∀ i (_h : i < l.length), Rel σ I w l[i] (vs.getD i undef)
  | [], l, h => by obtain rfl := Option.some.inj h; exact ⟨[], rfl, rfl, fun i h => by simp at h⟩
  | r :: rs, l, h => by
    simp only [resAL] at h
    replace h := obind_inv h; obtain ⟨x, hx, h⟩ := h
    replace h := obind_inv h; obtain ⟨l', hl', h⟩ := h
    obtain rfl := Option.some.inj h
    obtain ⟨vs, e1, e2, e3⟩ := resAL_sound hi hf rs hl'
    have one : ∃ v, (match r with | .tmp t => pure (a.tmps.getD t undef) | .cell p t => do loadVar t (← asAddr (a.tmps.getD p undef)) : Sem Value).run P w = .ok v w ∧ Rel σ I w x v := by
      cases r with
      | tmp t =>
        obtain rfl := Option.some.inj hx
        exact ⟨_, rfl, hf t⟩
      | cell p t =>
        simp only [resA1] at hx
        split at hx
        · rename_i id off e
          replace hx := obind_inv hx; obtain ⟨o, ho, hx⟩ := hx
          obtain ⟨xs, mt⟩ := o
          simp only at hx
          have hp' := hf p
          rw [e] at hp'
          obtain ⟨blk, base, sz, g1, hv⟩ := op_inv hp'
          have hrow := own_row (hi.own id _ ho) g1
          obtain ⟨v, hrun, hr⟩ := ldV_load (P := P) (blk := blk) (o := base + off) hx (fun i hi => by
            rw [getElem_drop']
            simp at hi
            have := hrow.get (off + i) (by omega)
            rwa [← Nat.add_assoc] at this)
          exact ⟨v, by simp only [hv, asAddr, Sem.run_bind, Sem.run_pure, Result.andThen_ok, hrun], hr⟩
        · cases hx
    obtain ⟨v, o1, o2⟩ := one
    refine ⟨v :: vs, ?_, by simp [e2], fun i hi' => ?_⟩
    · rw [List.mapM_cons]
      simp only [Sem.run_bind]
      rw [o1]
      simp only [Result.andThen_ok]
      rw [e1]; rfl
    · cases i with
      | zero => exact o2
      | succ k => exact e3 k (by simpa using hi')

theorem resA_sound {c : Ctx} {σ : Nat → Loc} {I : Nat → Prop} {w : World} {t : S} {a : Act} {un : Nat → Prop} {fn : Func} {x : AV} (hi : Inv c σ I w t.hp un) (hf : ∀ k, Rel σ I w (look t.fr k) (a.tmps.getD k undef))
    (h : resA P fn.results.toList t = some x) : ∃ v, (results fn a.tmps).run P w = .ok v w ∧ Rel σ I w x v := by
  unfold resA at h
  replace h := obind_inv h; obtain ⟨l, hl, h⟩ := h
  obtain rfl := Option.some.inj h
  obtain ⟨vs, e1, e2, e3⟩ := resAL_sound hi hf _ hl
  have hm : (fn.results.mapM (fun r => match r with | .tmp t => pure (a.tmps.getD t undef) | .cell p t => do loadVar t (← asAddr (a.tmps.getD p undef)) : ResultVar → Sem Value)).run P w = .ok vs.toArray w := by
    rw [Array.mapM_eq_mapM_toList, Sem.run_map, e1]; rfl
  refine ⟨if h : vs.toArray.size = 1 then vs.toArray[0] else .tuple vs.toArray, ?_, ?_⟩
  · unfold results
    rw [Sem.run_bind]
    exact (congrArg (fun r => Result.andThen r (fun (vs : Array Value) w' => (pure (if h : vs.size = 1 then vs[0] else Value.tuple vs) : Sem Value).run P w')) hm).trans rfl
  · have big : l.length ≠ 1 → Rel σ I w (.tup l) (if h : vs.toArray.size = 1 then vs.toArray[0] else .tuple vs.toArray) := by
      intro hne
      rw [dif_neg (by simp; omega)]
      exact .tup _ _ (by simpa using e2) fun i hi' => by rw [getD_list]; exact e3 i hi'
    cases l with
    | nil => exact big (by simp)
    | cons x r =>
      cases r with
      | cons y r => exact big (by simp)
      | nil =>
        cases vs with
        | nil => simp at e2
        | cons v q =>
          cases q with
          | nil => exact e3 0 (by simp)
          | cons _ _ => simp at e2

end
end Go.AX
