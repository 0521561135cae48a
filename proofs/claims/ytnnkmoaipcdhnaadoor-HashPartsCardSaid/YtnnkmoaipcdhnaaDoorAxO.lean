/-
  AX, part O: regions, in the text's order and in any order.
-/
import Derived.Test.YtnnkmoaipcdhnaaDoorAxN
namespace Go.AX
open Go

def runL (P : Program) (Γ : Env) (GL : Nat → Option (List AV)) (md : Nat → Nat) (ops : Array Oper) : Nat → List Oper → S → Option S
  | _, [], s => some s
  | k, o :: r, s => obind (stepO P Γ GL md ops k o s) fun s' => runL P Γ GL md ops (k + 1) r s'

def enterR (n : Nat) (s : S) : S := { s with nx := s.cx, cx := s.cx + n }

/-- Each operation's slot is one of the frame's. -/
def okDst (nt : Nat) (ops : List Oper) : Bool := ops.all fun o => match o.dst with | some d => d < nt | none => true

section
variable {P : Program} {Γ : Env} {c : Ctx} {σ0 : Nat → Loc} {I0 : Nat → Prop} {w0 : World} {md : Nat → Nat}

theorem R.un {rem rem' : Nat → Prop} {s : S} {a : Act} {w : World} (h : R c σ0 I0 w0 rem s a w) (hr : ∀ k, rem' k → rem k) : R c σ0 I0 w0 rem' s a w := by
  obtain ⟨⟨σ, I, a1, a2, a3⟩, b, d, e, e0⟩ := h
  exact ⟨⟨σ, I, a1.mono_un fun id hid => hid.imp (fun h => h) (fun h => h.imp (fun ⟨k, hk, e⟩ => ⟨k, hr k hk, e⟩) (fun h => h)), a2, a3⟩, b, d, fun k hk => e k (hr k hk), e0⟩

theorem R.enter {s : S} {a : Act} {w : World} (n : Nat) (h : R c σ0 I0 w0 (fun _ => False) s a w) : R c σ0 I0 w0 (fun k => k < n) (enterR n s) a w := by
  obtain ⟨⟨σ, I, a1, a2, a3⟩, b, d, e, e0⟩ := h
  refine ⟨⟨σ, I, a1.mono_un fun id hid => ?_, a2, a3⟩, b, d, fun k hk => by simp only [enterR]; omega, fun id hid => by simp only [enterR]; have := e0 id hid; omega⟩
  simp only [enterR] at hid
  rcases hid with hid | ⟨k, hk, hid⟩ | hid
  · exact .inl (by omega)
  · exact .inl (by omega)
  · exact .inr (.inr hid)

theorem R.world {rem : Nat → Prop} {s : S} {a : Act} {w w' : World} (h : R c σ0 I0 w0 rem s a w) (h1 : w'.heap = w.heap) (h2 : w'.os = w.os) (h3 : w'.tape = w.tape) (h4 : w'.output = w.output) : R c σ0 I0 w0 rem s a w' := by
  obtain ⟨⟨σ, I, a1, a2, a3⟩, b, d, e, e0⟩ := h
  exact ⟨⟨σ, I, a1.world h1 h2 h3 h4, ⟨a2.loc, a2.imm, fun k hk => by rw [h1]; exact a2.heap k hk⟩, fun t => (a3 t).world h1⟩, b, d, e, e0⟩

theorem okDst_mem {nt : Nat} {ops : List Oper} (h : okDst nt ops = true) {o : Oper} (ho : o ∈ ops) : ∀ d, o.dst = some d → d < nt := by
  intro d hd
  have := List.all_eq_true.1 h o ho
  simpa [hd] using this

theorem runL_sound (hΓ : EnvOK P c.GL Γ) {ops : Array Oper} {Q : Exit → Act → World → Prop} (hdst : okDst c.nt ops.toList = true) {s' : S} (hQ : ∀ a' w', R c σ0 I0 w0 (fun _ => False) s' a' w' → Q .normal a' w') :
    ∀ (l : List Oper) (k : Nat) (s : S) (a : Act) (w : World), (∀ o ∈ l, o ∈ ops.toList) → k + l.length = ops.size → runL P Γ c.GL md ops k l s = some s' → R c σ0 I0 w0 (fun m => k ≤ m ∧ m < ops.size) s a w → wpList P ops Q l a w
  | [], k, s, a, w, _, hk, h, hR => by
    obtain rfl := Option.some.inj h
    simp at hk
    exact hQ _ _ (hR.un fun m hm => hm.elim)
  | o :: r, k, s, a, w, hmem, hk, h, hR => by
    simp only [runL] at h
    replace h := obind_inv h; obtain ⟨s1, hs1, h⟩ := h
    simp only [List.length_cons] at hk
    have := step_sound (K := wpList P ops Q r) (Q := Q) hΓ hs1 (okDst_mem hdst (hmem o (by simp))) (rem := fun m => k ≤ m ∧ m < ops.size) ⟨Nat.le_refl _, by omega⟩ hR (fun a' w' hR' =>
      runL_sound hΓ hdst hQ r (k + 1) s1 a' w' (fun o ho => hmem o (by simp [ho])) (by omega) h (hR'.un fun m hm => ⟨⟨by omega, hm.2⟩, by omega⟩))
    unfold wpList
    split
    · rename_i hw; rw [if_pos hw] at this; exact .inl this
    · rename_i hw; rw [if_neg hw] at this; exact this

theorem region_sound (hΓ : EnvOK P c.GL Γ) {id : Nat} {ops : Array Oper} {Q : Exit → Act → World → Prop} (hdst : okDst c.nt ops.toList = true) {s s' : S} {a : Act} {w : World}
    (h : runL P Γ c.GL md ops 0 ops.toList (enterR ops.size s) = some s') (hR : R c σ0 I0 w0 (fun _ => False) s a w) (hQ : ∀ a' w', R c σ0 I0 w0 (fun _ => False) s' a' w' → Q .normal a' w') :
    (Code.region id ops false).wp P Q a w :=
  wp_region_list (runL_sound hΓ hdst hQ ops.toList 0 _ a w (fun _ h => h) (by simp) h ((hR.enter ops.size).un fun _ hm => hm.2))

end

/- ANY ORDER -/

def Seqv (s t : S) : Prop := (∀ k, look s.fr k = look t.fr k) ∧ s.hp = t.hp ∧ s.nx = t.nx ∧ s.cx = t.cx
theorem Seqv.refl (s : S) : Seqv s s := ⟨fun _ => rfl, rfl, rfl, rfl⟩
theorem Seqv.symm {s t : S} (h : Seqv s t) : Seqv t s := ⟨fun k => (h.1 k).symm, h.2.1.symm, h.2.2.1.symm, h.2.2.2.symm⟩
theorem Seqv.trans {s t u : S} (h : Seqv s t) (g : Seqv t u) : Seqv s u := ⟨fun k => (h.1 k).trans (g.1 k), h.2.1.trans g.2.1, h.2.2.1.trans g.2.2.1, h.2.2.2.trans g.2.2.2⟩

theorem ev_eqv {GL : Nat → Option (List AV)} {fr fr' : List (Nat × AV)} (h : ∀ k, look fr k = look fr' k) : ev GL fr = ev GL fr' := by
  funext y; cases y <;> simp [ev, h]
theorem gdO_eqv {ops : Array Oper} {fr fr' : List (Nat × AV)} (h : ∀ k, look fr k = look fr' k) (o : Oper) : gdO ops fr o = gdO ops fr' o := by
  unfold gdO guardVal; simp only [h]
theorem look_put (dst : Option Tmp) (x : AV) (fr : List (Nat × AV)) (t : Nat) : look (putA dst x fr) t = if dst = some t then x else look fr t := by
  cases dst with
  | none => simp [putA]
  | some d => simp only [putA, look, Option.some.injEq]

section
variable {P : Program} {Γ : Env} {GL : Nat → Option (List AV)} {md : Nat → Nat} {ops : Array Oper}

theorem stepO_eqv {k : Nat} {o : Oper} {s t s' : S} (h : stepO P Γ GL md ops k o s = some s') (he : Seqv s t) : ∃ t', stepO P Γ GL md ops k o t = some t' ∧ Seqv s' t' := by
  obtain ⟨e1, e2, e3, e4⟩ := he
  unfold stepO at h ⊢
  rw [← gdO_eqv e1 o, ← ev_eqv e1, ← e2, ← e3, ← e4]
  replace h := obind_inv h; obtain ⟨b, hb, h⟩ := h
  rw [hb, obind_some]
  cases b with
  | true =>
    replace h := obind_inv h; obtain ⟨r, hr, h⟩ := h
    obtain rfl := Option.some.inj h
    simp only [hr, obind_some]
    exact ⟨_, rfl, fun k => by simp only [look_put, e1], rfl, rfl, rfl⟩
  | false =>
    obtain rfl := Option.some.inj h
    exact ⟨_, rfl, fun k => by simp only [look_put, e1], rfl, rfl, rfl⟩

/-- How an operation meets the others: it looks at no own object (P); it looks at elder ones, or makes one (M); else. -/
inductive Dc where | P | M (k : Nat) | W
  deriving DecidableEq

def dcOf (P : Program) (Γ : Env) (m : Nat) (op : Op) : Dc :=
  match cls P op with
  | .pure => .P
  | .read => if m = 0 then .W else if m = 1 then .P else .M (m / 2 - 1)
  | .new => .M 0
  | .write => .W
  | .call => match op with
    | .call c => match c.callee with
      | .value (.func f) => match Γ f with
        | some (.pure true _) => if m = 0 then .W else if m = 1 then .P else .M (m / 2 - 1)
        | some (.pure false _) => if m = 0 then .W else .P
        | some (.fresh _ _) => if m = 0 then .W else .M (m / 2 - 1)
        | _ => .W
      | _ => .W
    | _ => .W

def compat (i j : Nat) (a b : Dc) : Bool :=
  match a, b with
  | .P, _ => true
  | _, .P => true
  | .M k, .M l => !k.testBit j && !l.testBit i
  | _, _ => false

def appO (hp : H) (id : Nat) (oo : Option AO) : H := match oo with | some o => upd hp id o | none => hp
def hideH (k nx n : Nat) (hp : H) : H := fun id => if nx ≤ id ∧ id < nx + n ∧ k.testBit (id - nx) = false then none else hp id

theorem hsel_ne {m nx n : Nat} (h0 : ¬ m = 0) (h1 : ¬ m = 1) (hp : H) : hsel m nx n hp = hideH (m / 2 - 1) nx n hp := by
  unfold hsel; split <;> first | omega | rfl
theorem hsel_one (nx n : Nat) (hp : H) : hsel 1 nx n hp = fun _ => none := rfl

theorem eff_P {m nx n : Nat} {op : Op} {ρ : Operand → AV} (hf : ∀ f, ρ (.func f) = .fn f []) (h : dcOf P Γ m op = .P) (hp hp2 : H) (id id2 cx cx2 : Nat) {r : AV × H × Nat} (hr : eff P Γ op ρ m nx n hp id cx = some r) :
    r.2 = (hp, cx) ∧ eff P Γ op ρ m nx n hp2 id2 cx2 = some (r.1, hp2, cx2) := by
  unfold dcOf at h
  unfold eff at hr ⊢
  cases hc : cls P op with
  | pure =>
    simp only [hc] at hr ⊢
    replace hr := obind_inv hr; obtain ⟨x, hx, hr⟩ := hr
    obtain rfl := Option.some.inj hr
    exact ⟨rfl, by rw [hx]; rfl⟩
  | read =>
    simp only [hc] at h hr ⊢
    split at h
    · cases h
    · split at h
      · rename_i h1; subst h1
        simp only [hsel_one] at hr ⊢
        replace hr := obind_inv hr; obtain ⟨x, hx, hr⟩ := hr
        obtain rfl := Option.some.inj hr
        exact ⟨rfl, by rw [hx]; rfl⟩
      · cases h
  | new => simp [hc] at h
  | write => simp [hc] at h
  | call =>
    simp only [hc] at h hr ⊢
    cases op with
    | call c =>
      obtain ⟨callee, args, ats⟩ := c
      simp only at h
      cases callee with
      | value fo =>
        cases fo with
        | func f =>
          simp only at h
          simp only [callOp, hf] at hr ⊢
          unfold callA at hr ⊢
          cases hΓ : Γ f with
          | none => simp [hΓ] at h
          | some sp =>
            cases sp with
            | heap g => simp [hΓ] at h
            | fresh sc g => simp only [hΓ] at h; split at h <;> cases h
            | pure sc g =>
              cases sc with
              | true =>
                simp only [hΓ] at h hr ⊢
                split at h
                · cases h
                · split at h
                  · rename_i h1; subst h1
                    simp only [hsel_one] at hr ⊢
                    replace hr := obind_inv hr; obtain ⟨x, hx, hr⟩ := hr
                    replace hr := obind_inv hr; obtain ⟨y, hy, hr⟩ := hr
                    replace hr := guardO_inv hr; obtain ⟨hn, hr⟩ := hr
                    obtain rfl := Option.some.inj hr
                    exact ⟨rfl, by rw [hx, obind_some, hy, obind_some, guardO_true _ hn]⟩
                  · cases h
              | false =>
                simp only [hΓ] at h hr ⊢
                split at h
                · cases h
                · rename_i h0
                  rw [if_neg h0] at hr ⊢
                  replace hr := obind_inv hr; obtain ⟨x, hx, hr⟩ := hr
                  replace hr := obind_inv hr; obtain ⟨y, hy, hr⟩ := hr
                  obtain rfl := Option.some.inj hr
                  exact ⟨rfl, by rw [hx, obind_some, hy, obind_some]⟩
        | _ => cases h
      | _ => cases h
    | _ => cases h

theorem eff_M {m nx n k : Nat} {op : Op} {ρ : Operand → AV} (hf : ∀ f, ρ (.func f) = .fn f []) (h : dcOf P Γ m op = .M k) (hp hp2 : H) (hh : hideH k nx n hp2 = hideH k nx n hp) (id cx cx2 : Nat) {r : AV × H × Nat} (hr : eff P Γ op ρ m nx n hp id cx = some r) :
    ∃ oo, r.2 = (appO hp id oo, cx) ∧ eff P Γ op ρ m nx n hp2 id cx2 = some (r.1, appO hp2 id oo, cx2) := by
  unfold dcOf at h
  unfold eff at hr ⊢
  cases hc : cls P op with
  | pure => simp [hc] at h
  | read =>
    simp only [hc] at h hr ⊢
    split at h
    · cases h
    · split at h
      · cases h
      · rename_i h0 h1
        obtain rfl := Dc.M.inj h
        rw [hsel_ne h0 h1] at hr ⊢
        replace hr := obind_inv hr; obtain ⟨x, hx, hr⟩ := hr
        obtain rfl := Option.some.inj hr
        exact ⟨none, rfl, by rw [hh, hx]; rfl⟩
  | new =>
    simp only [hc] at hr ⊢
    replace hr := obind_inv hr; obtain ⟨x, hx, hr⟩ := hr
    obtain rfl := Option.some.inj hr
    exact ⟨some _, rfl, by rw [hx]; rfl⟩
  | write => simp [hc] at h
  | call =>
    simp only [hc] at h hr ⊢
    cases op with
    | call c =>
      obtain ⟨callee, args, ats⟩ := c
      simp only at h
      cases callee with
      | value fo =>
        cases fo with
        | func f =>
          simp only at h
          simp only [callOp, hf] at hr ⊢
          unfold callA at hr ⊢
          cases hΓ : Γ f with
          | none => simp [hΓ] at h
          | some sp =>
            cases sp with
            | heap g => simp [hΓ] at h
            | pure sc g =>
              cases sc with
              | true =>
                simp only [hΓ] at h hr ⊢
                split at h
                · cases h
                · split at h
                  · cases h
                  · rename_i h0 h1
                    obtain rfl := Dc.M.inj h
                    rw [hsel_ne h0 h1] at hr ⊢
                    replace hr := obind_inv hr; obtain ⟨x, hx, hr⟩ := hr
                    replace hr := obind_inv hr; obtain ⟨y, hy, hr⟩ := hr
                    replace hr := guardO_inv hr; obtain ⟨hn, hr⟩ := hr
                    obtain rfl := Option.some.inj hr
                    exact ⟨none, rfl, by rw [hh, hx, obind_some, hy, obind_some, guardO_true _ hn]; rfl⟩
              | false => simp only [hΓ] at h; split at h <;> cases h
            | fresh sc g =>
              simp only [hΓ] at h
              split at h
              · cases h
              · rename_i h0
                obtain rfl := Dc.M.inj h
                cases sc with
                | true =>
                  simp only [hΓ] at hr ⊢
                  have hs : hsel m nx n hp2 = hsel m nx n hp := by
                    by_cases h1 : m = 1
                    · subst h1; rfl
                    · rw [hsel_ne h0 h1, hsel_ne h0 h1, hh]
                  rw [hs]
                  replace hr := obind_inv hr; obtain ⟨x, hx, hr⟩ := hr
                  replace hr := obind_inv hr; obtain ⟨y, hy, hr⟩ := hr
                  replace hr := guardO_inv hr; obtain ⟨hn, hr⟩ := hr
                  obtain rfl := Option.some.inj hr
                  exact ⟨some _, rfl, by rw [hx, obind_some, hy, obind_some, guardO_true _ hn]; rfl⟩
                | false =>
                  simp only [hΓ] at hr ⊢
                  rw [if_neg h0] at hr ⊢
                  replace hr := obind_inv hr; obtain ⟨x, hx, hr⟩ := hr
                  replace hr := obind_inv hr; obtain ⟨y, hy, hr⟩ := hr
                  obtain rfl := Option.some.inj hr
                  exact ⟨some _, rfl, by rw [hx, obind_some, hy, obind_some]; rfl⟩
        | _ => cases h
      | _ => cases h
    | _ => cases h

theorem parts_congr {ρ ρ' : Operand → AV} {parts : Array (Nat × Operand)} (h : ∀ y ∈ (parts.toList.map (·.2)).toArray, ρ y = ρ' y) : (parts.toList.map fun p => (p.1, ρ p.2)) = parts.toList.map fun p => (p.1, ρ' p.2) := by
  apply List.map_congr_left
  intro p hp
  rw [h p.2 (by simp only [List.mem_toArray, List.mem_map]; exact ⟨p, hp, rfl⟩)]

theorem omap_congr {ρ ρ' : Operand → AV} {x : Option Operand} (h : ∀ y ∈ x.toArray, ρ y = ρ' y) : x.map ρ = x.map ρ' := by
  cases x with
  | none => rfl
  | some y => simp only [Option.map_some]; rw [h y (by simp)]

theorem args_congr {ρ ρ' : Operand → AV} {args : Array Operand} (h : ∀ y ∈ args, ρ y = ρ' y) : args.toList.map ρ = args.toList.map ρ' :=
  List.map_congr_left fun y hy => h y (Array.mem_toList_iff.1 hy)

theorem pureOp_congr {op : Op} {ρ ρ' : Operand → AV} (h : ∀ y ∈ op.operands, ρ y = ρ' y) : pureOp P op ρ = pureOp P op ρ' := by
  cases op with
  | build t parts => simp only [Op.operands] at h; simp only [pureOp, parts_congr h]
  | makeFunc fn first captured =>
    simp only [Op.operands, Array.mem_append] at h
    cases fn <;> simp only [pureOp, args_congr (fun y hy => h y (.inr hy))]
  | slice t x lo hi mx =>
    simp only [Op.operands, Array.mem_append] at h
    cases mx with
    | none => simp only [pureOp, h x (.inl (.inl (.inl (by simp)))), omap_congr (fun y hy => h y (.inl (.inl (.inr hy)))), omap_congr (fun y hy => h y (.inl (.inr hy)))]
    | some m => rfl
  | call c =>
    obtain ⟨callee, args, ats⟩ := c
    have hA : ∀ y ∈ args.toList, ρ y = ρ' y := fun y hy => h y (by simp only [Op.operands, Call.operands, Array.mem_append]; exact .inr (Array.mem_toList_iff.1 hy))
    simp only [pureOp, callLen]
    split
    · rename_i x t ts e1 e2; rw [hA x (by rw [e1]; simp)]
    · rename_i x y e1; rw [hA x (by rw [e1]; simp), hA y (by rw [e1]; simp)]
    · rename_i x y e1; rw [hA x (by rw [e1]; simp), hA y (by rw [e1]; simp)]
    · rfl
  | _ => simp_all [Op.operands, pureOp]

theorem readOp_congr {op : Op} {ρ ρ' : Operand → AV} (hp : H) (h : ∀ y ∈ op.operands, ρ y = ρ' y) : readOp P op ρ hp = readOp P op ρ' hp := by
  cases op <;> first | rfl | simp_all [Op.operands, readOp]

theorem newOp_congr {op : Op} {ρ ρ' : Operand → AV} (id : Nat) (h : ∀ y ∈ op.operands, ρ y = ρ' y) : newOp P op ρ id = newOp P op ρ' id := by
  cases op with
  | buildSlice t len parts => simp only [Op.operands] at h; simp only [newOp, parts_congr h]
  | _ => first | rfl | simp_all [Op.operands, newOp]

theorem writeOp_congr {op : Op} {ρ ρ' : Operand → AV} (hp : H) (id : Nat) (h : ∀ y ∈ op.operands, ρ y = ρ' y) : writeOp P op ρ hp id = writeOp P op ρ' hp id := by
  cases op with
  | call c =>
    obtain ⟨callee, args, ats⟩ := c
    have hA : ∀ y ∈ args.toList, ρ y = ρ' y := fun y hy => h y (by simp only [Op.operands, Call.operands, Array.mem_append]; exact .inr (Array.mem_toList_iff.1 hy))
    simp only [writeOp]
    split
    · rename_i x y t t' e1 e2; rw [hA x (by rw [e1]; simp), hA y (by rw [e1]; simp)]
    · rename_i x y t t' e1 e2; rw [hA x (by rw [e1]; simp), hA y (by rw [e1]; simp)]
    · rfl
  | _ => first | rfl | simp_all [Op.operands, writeOp]

theorem callOp_congr {op : Op} {ρ ρ' : Operand → AV} (m nx n : Nat) (hp : H) (id cx : Nat) (h : ∀ y ∈ op.operands, ρ y = ρ' y) : callOp Γ op ρ m nx n hp id cx = callOp Γ op ρ' m nx n hp id cx := by
  cases op with
  | call c =>
    obtain ⟨callee, args, ats⟩ := c
    have hA : ∀ y ∈ args, ρ y = ρ' y := fun y hy => h y (by simp only [Op.operands, Call.operands, Array.mem_append]; exact .inr hy)
    simp only [callOp, args_congr hA]
    cases callee with
    | value f => simp only [h f (by simp [Op.operands, Call.operands])]
    | _ => rfl
  | _ => rfl

theorem eff_congr {op : Op} {ρ ρ' : Operand → AV} (m nx n : Nat) (hp : H) (id cx : Nat) (h : ∀ y ∈ op.operands, ρ y = ρ' y) : eff P Γ op ρ m nx n hp id cx = eff P Γ op ρ' m nx n hp id cx := by
  unfold eff
  rw [pureOp_congr h, readOp_congr _ h, newOp_congr _ h, writeOp_congr _ _ h, callOp_congr _ _ _ _ _ _ h]

theorem ev_put {d : Option Tmp} {x : AV} {fr : List (Nat × AV)} {o : Oper} (h : ∀ t, d = some t → t ∉ o.looksAt ops) : ∀ y ∈ o.op.operands, ev GL (putA d x fr) y = ev GL fr y := by
  intro y hy
  cases y with
  | tmp t =>
    simp only [ev, look_put]
    rw [if_neg]
    intro e
    refine h t e ?_
    simp only [Oper.looksAt, List.mem_append, List.mem_filterMap]
    exact .inl ⟨.tmp t, by simpa using hy, rfl⟩
  | _ => rfl

theorem gdO_put {d : Option Tmp} {x : AV} {fr : List (Nat × AV)} {o : Oper} (h : ∀ t, d = some t → t ∉ o.looksAt ops) : gdO ops (putA d x fr) o = gdO ops fr o := by
  unfold gdO
  cases hg : o.guard with
  | none => rfl
  | some jw =>
    obtain ⟨j, want⟩ := jw
    have : guardVal ops (putA d x fr) j = guardVal ops fr j := by
      unfold guardVal
      cases ht : (ops[j]?).bind (·.dst) with
      | none => rfl
      | some t =>
        simp only [look_put]
        rw [if_neg]
        intro e
        refine h t e ?_
        simp only [Oper.looksAt, hg, ht, List.mem_append]
        exact .inr (by simp)
    simp only [this]

theorem look_put_comm {d e : Option Tmp} (h : ∀ t, d = some t → e ≠ some t) (x y : AV) (fr : List (Nat × AV)) (t : Nat) : look (putA e y (putA d x fr)) t = look (putA d x (putA e y fr)) t := by
  simp only [look_put]
  by_cases h1 : e = some t
  · rw [if_pos h1]
    by_cases h2 : d = some t
    · exact absurd h1 (h t h2)
    · rw [if_neg h2, if_pos h1]
  · rw [if_neg h1]
    by_cases h2 : d = some t
    · simp [h2]
    · simp [h1, h2]

theorem appO_comm {hp : H} {i j : Nat} (h : i ≠ j) (a b : Option AO) : appO (appO hp i a) j b = appO (appO hp j b) i a := by
  cases a with
  | none => rfl
  | some a =>
    cases b with
    | none => rfl
    | some b =>
      funext k
      simp only [appO, upd_apply]
      by_cases h1 : k = j
      · subst h1; rw [if_pos rfl, if_neg (Ne.symm h)]
        try simp
      · rw [if_neg h1]
        by_cases h2 : k = i
        · simp [h2]
        · simp [h1, h2]

theorem hideH_app {m nx n k : Nat} (hp : H) (hk : k < n) (hm : m.testBit k = false) (oo : Option AO) : hideH m nx n (appO hp (nx + k) oo) = hideH m nx n hp := by
  cases oo with
  | none => rfl
  | some o =>
    funext id
    simp only [hideH, appO, upd_apply]
    by_cases h1 : nx ≤ id ∧ id < nx + n ∧ m.testBit (id - nx) = false
    · rw [if_pos h1, if_pos h1]
    · rw [if_neg h1, if_neg h1, if_neg (fun e => h1 (by subst e; exact ⟨by omega, by omega, by rw [Nat.add_sub_cancel_left]; exact hm⟩))]

/-- Two operations that don't meet may change places. -/
theorem step_comm {i j : Nat} {x y : Oper} {s s1 s2 : S} (hap : x.apart ops y = true) (hc : compat i j (dcOf P Γ (md i) x.op) (dcOf P Γ (md j) y.op) = true) (hij : i ≠ j) (hi : i < ops.size) (hj : j < ops.size)
    (h1 : stepO P Γ GL md ops i x s = some s1) (h2 : stepO P Γ GL md ops j y s1 = some s2) :
    ∃ t1 t2, stepO P Γ GL md ops j y s = some t1 ∧ stepO P Γ GL md ops i x t1 = some t2 ∧ Seqv s2 t2 := by
  obtain ⟨a1, a2, a3⟩ := Oper.apart_spec hap
  have hfn : ∀ fr f, ev GL fr (.func f) = .fn f [] := fun _ _ => rfl
  unfold stepO at h1 h2 ⊢
  replace h1 := obind_inv h1; obtain ⟨bx, hbx, h1⟩ := h1
  replace h2 := obind_inv h2; obtain ⟨by', hby, h2⟩ := h2
  have idne : s.nx + i ≠ s.nx + j := by omega
  cases bx with
  | false =>
    obtain rfl := Option.some.inj h1
    simp only at hby h2
    rw [gdO_put a1] at hby
    rw [hby, obind_some]
    cases by' with
    | false =>
      obtain rfl := Option.some.inj h2
      refine ⟨_, { fr := putA x.dst .junk (putA y.dst .junk s.fr), hp := s.hp, nx := s.nx, cx := s.cx }, rfl, ?_, ?_⟩
      · simp only []; rw [gdO_put a3, hbx, obind_some]
      · exact ⟨fun t => look_put_comm a2 _ _ _ t, rfl, rfl, rfl⟩
    | true =>
      replace h2 := obind_inv h2; obtain ⟨r, hr, h2⟩ := h2
      obtain rfl := Option.some.inj h2
      rw [eff_congr _ _ _ _ _ _ (ev_put a1)] at hr
      simp only [hr, obind_some]
      refine ⟨_, { fr := putA x.dst .junk (putA y.dst r.1 s.fr), hp := r.2.1, nx := s.nx, cx := r.2.2 }, rfl, ?_, ?_⟩
      · simp only []; rw [gdO_put a3, hbx, obind_some]
      · exact ⟨fun t => look_put_comm a2 _ _ _ t, rfl, rfl, rfl⟩
  | true =>
    replace h1 := obind_inv h1; obtain ⟨rx, hrx, h1⟩ := h1
    obtain rfl := Option.some.inj h1
    simp only at hby h2
    rw [gdO_put a1] at hby
    rw [hby, obind_some]
    cases by' with
    | false =>
      obtain rfl := Option.some.inj h2
      refine ⟨_, { fr := putA x.dst rx.1 (putA y.dst .junk s.fr), hp := rx.2.1, nx := s.nx, cx := rx.2.2 }, rfl, ?_, ?_⟩
      · simp only []
        rw [gdO_put a3, hbx, obind_some]
        simp only []
        rw [eff_congr _ _ _ _ _ _ (ev_put a3), hrx, obind_some]
      · exact ⟨fun t => look_put_comm a2 _ _ _ t, rfl, rfl, rfl⟩
    | true =>
      replace h2 := obind_inv h2; obtain ⟨ry, hry, h2⟩ := h2
      obtain rfl := Option.some.inj h2
      rw [eff_congr _ _ _ _ _ _ (ev_put a1)] at hry
      have fin : ∀ (hp1 : H) (cx1 : Nat), eff P Γ y.op (ev GL s.fr) (md j) s.nx ops.size s.hp (s.nx + j) s.cx = some (ry.1, hp1, cx1) →
          eff P Γ x.op (ev GL s.fr) (md i) s.nx ops.size hp1 (s.nx + i) cx1 = some (rx.1, ry.2.1, ry.2.2) →
          ∃ t1 t2, (obind (eff P Γ y.op (ev GL s.fr) (md j) s.nx ops.size s.hp (s.nx + j) s.cx) fun r => some ({ fr := putA y.dst r.1 s.fr, hp := r.2.1, nx := s.nx, cx := r.2.2 } : S)) = some t1 ∧
            (obind (gdO ops t1.fr x) fun b => match b with
              | true => obind (eff P Γ x.op (ev GL t1.fr) (md i) t1.nx ops.size t1.hp (t1.nx + i) t1.cx) fun r => some ({ fr := putA x.dst r.1 t1.fr, hp := r.2.1, nx := t1.nx, cx := r.2.2 } : S)
              | false => some { t1 with fr := putA x.dst .junk t1.fr }) = some t2 ∧
            Seqv { fr := putA y.dst ry.1 (putA x.dst rx.1 s.fr), hp := ry.2.1, nx := s.nx, cx := ry.2.2 } t2 := by
        intro hp1 cx1 e1 e2
        rw [e1, obind_some]
        refine ⟨_, { fr := putA x.dst rx.1 (putA y.dst ry.1 s.fr), hp := ry.2.1, nx := s.nx, cx := ry.2.2 }, rfl, ?_, ?_⟩
        · simp only []
          rw [gdO_put a3, hbx, obind_some]
          simp only []
          rw [eff_congr _ _ _ _ _ _ (ev_put a3), e2, obind_some]
        · exact ⟨fun t => look_put_comm a2 _ _ _ t, rfl, rfl, rfl⟩
      cases hx : dcOf P Γ (md i) x.op with
      | P =>
        obtain ⟨p1, _⟩ := eff_P (P := P) (Γ := Γ) (hfn s.fr) hx _ s.hp _ 0 _ 0 hrx
        obtain ⟨rx1, rx2⟩ := rx
        simp only at p1
        subst p1
        simp only at hry
        exact fin ry.2.1 ry.2.2 hry (eff_P (P := P) (Γ := Γ) (hfn s.fr) hx _ _ _ _ _ _ hrx).2
      | W =>
        rw [hx] at hc
        cases hy : dcOf P Γ (md j) y.op with
        | P =>
          obtain ⟨ry1, ry2⟩ := ry
          obtain ⟨p1, p2⟩ := eff_P (P := P) (Γ := Γ) (hfn s.fr) hy _ s.hp _ (s.nx + j) _ s.cx hry
          simp only at p1
          subst p1
          exact fin s.hp s.cx p2 hrx
        | M _ => rw [hy] at hc; cases hc
        | W => rw [hy] at hc; cases hc
      | M kx =>
        rw [hx] at hc
        cases hy : dcOf P Γ (md j) y.op with
        | P =>
          obtain ⟨ry1, ry2⟩ := ry
          obtain ⟨p1, p2⟩ := eff_P (P := P) (Γ := Γ) (hfn s.fr) hy _ s.hp _ (s.nx + j) _ s.cx hry
          simp only at p1
          subst p1
          exact fin s.hp s.cx p2 hrx
        | W => rw [hy] at hc; cases hc
        | M ky =>
          rw [hy] at hc
          simp only [compat, Bool.and_eq_true, Bool.not_eq_true'] at hc
          obtain ⟨ox, q1, _⟩ := eff_M (P := P) (Γ := Γ) (hfn s.fr) hx s.hp s.hp rfl _ _ s.cx hrx
          obtain ⟨rx1, rx2⟩ := rx
          simp only at q1
          subst q1
          simp only at hry
          obtain ⟨oy, q2, q3⟩ := eff_M (P := P) (Γ := Γ) (hfn s.fr) hy (appO s.hp (s.nx + i) ox) s.hp (hideH_app s.hp hi hc.2 ox).symm _ _ s.cx hry
          obtain ⟨ry1, ry2⟩ := ry
          simp only at q2
          subst q2
          obtain ⟨ox', q4, q5⟩ := eff_M (P := P) (Γ := Γ) (hfn s.fr) hx s.hp (appO s.hp (s.nx + j) oy) (hideH_app s.hp hj hc.1 oy) _ _ s.cx hrx
          refine fin _ _ q3 ?_
          rw [q5]
          have : appO (appO s.hp (s.nx + j) oy) (s.nx + i) ox' = appO (appO s.hp (s.nx + i) ox) (s.nx + j) oy := by
            have e : appO s.hp (s.nx + i) ox = appO s.hp (s.nx + i) ox' := by simpa using q4
            rw [e, appO_comm (Ne.symm idne)]
          simp only [this]

end
end Go.AX
