/-
  AX, part M: states, steps, calls.
-/
import Derived.Test.YtnnkmoaipcdhnaaDoorAxL
namespace Go.AX
open Go

def look : List (Nat × AV) → Nat → AV
  | [], _ => .junk
  | (k, x) :: r, t => if k = t then x else look r t

def ev (GL : Nat → Option (List AV)) (fr : List (Nat × AV)) : Operand → AV
  | .tmp t => look fr t
  | .const v => ofV v
  | .global g => match GL g with | some xs => .rp xs | none => .junk
  | .func f => .fn f []

def putA (dst : Option Tmp) (x : AV) (fr : List (Nat × AV)) : List (Nat × AV) :=
  match dst with
  | some d => (d, x) :: fr
  | none => fr

/-- What is known of a function: what it answers, from arguments alone ('pure': scalar answers or not; 'fresh': a new slice), or with own objects. -/
inductive Spec where
  | pure (sc : Bool) (g : List AV → Option AV)
  | fresh (sc : Bool) (g : List AV → Option (Nat × Nat × List AV))
  | heap (g : List AV → H → Nat → Option (AV × H × Nat))

abbrev Env := Nat → Option Spec

structure S where
  fr : List (Nat × AV)
  hp : H
  nx : Nat
  cx : Nat

def borrow1 (hp : H) (x : AV) : Option AV :=
  match x with
  | .os id off n e _ => obind (hp id) fun o => match o with | .cells xs _ => guardO (off + n * e ≤ xs.length) (some (.sl n ((xs.drop off).take (n * e))))
  | .op id off => obind (hp id) fun o => match o with | .cells xs _ => some (.rp (xs.drop off))
  | .v (.slice none 0 0) => some (.sl 0 [])
  | x => some x
def borrowL (hp : H) : List AV → Option (List AV)
  | [] => some []
  | x :: r => obind (borrow1 hp x) fun y => obind (borrowL hp r) fun l => some (y :: l)

def noOwn (xs : List AV) : Bool := xs.all fun x => match x with | .os .. => false | .op .. => false | .mp _ => false | .fn .. => false | .agg _ => false | .tup _ => false | .v (.slice none 0 0) => false | _ => true
def immM (f : AV → Option AV) : List AV → Option (List AV)
  | [] => some []
  | x :: r => obind (f x) fun y => obind (immM f r) fun l => some (y :: l)
def immL (f : AV → Option AV) (xs : List AV) : Option (List AV) := if noOwn xs = true then some xs else immM f xs

/-- Own objects in an answer: from then on plain ones. -/
def immF : Nat → H → AV → Option AV
  | 0, _, _ => none
  | n + 1, hp, x => match x with
    | .os id off m e _ => obind (hp id) fun o => match o with
      | .cells xs _ => guardO (off + m * e ≤ xs.length) (obind (immL (immF n hp) ((xs.drop off).take (m * e))) fun l => some (.sl m l))
    | .op id off => obind (hp id) fun o => match o with
      | .cells xs _ => obind (immL (immF n hp) (xs.drop off)) fun l => some (.rp l)
    | .v (.slice none 0 0) => some (.sl 0 [])
    | .agg xs => obind (immL (immF n hp) xs) fun l => some (.agg l)
    | .tup xs => obind (immL (immF n hp) xs) fun l => some (.tup l)
    | .mp _ => none
    | x => some x

def borrowD (hp : H) (xs : List AV) : Option (List AV) := immM (immF 4 hp) xs
def frzArg (hp : H) (x : AV) : Option (AV × H) :=
  match x with
  | .os id off n e _ => obind (hp id) fun o => match o with | .cells xs _ => guardO (off + n * e ≤ xs.length) (some (.sl n ((xs.drop off).take (n * e)), upd hp id (.cells xs false)))
  | .op id off => obind (hp id) fun o => match o with | .cells xs _ => some (.rp (xs.drop off), upd hp id (.cells xs false))
  | .v (.slice none 0 0) => some (.sl 0 [], hp)
  | x => some (x, hp)
def frzArgs (hp : H) : List AV → Option (List AV × H)
  | [] => some ([], hp)
  | x :: r => obind (frzArg hp x) fun y => obind (frzArgs y.2 r) fun l => some (y.1 :: l.1, l.2)

/-- How an operation looks at own objects: 0: as they are; 1: at none; else: at those that were there when the region began, and at those that the operations of the mask m / 2 - 1 have made. -/
def hsel (m nx n : Nat) (hp : H) : H :=
  match m with
  | 0 => hp
  | 1 => fun _ => none
  | _ => fun id => if nx ≤ id ∧ id < nx + n ∧ (m / 2 - 1).testBit (id - nx) = false then none else hp id

def callA (Γ : Env) (f : FuncId) (args : List AV) (m nx n : Nat) (hp : H) (id cx : Nat) : Option (AV × H × Nat) :=
  match Γ f with
  | some (.pure true g) => obind (borrowD (hsel m nx n hp) args) fun as_ => obind (g as_) fun r => guardO (r.noMem = true) (some (r, hp, cx))
  | some (.pure false g) => if m = 0 then obind (frzArgs hp args) fun ah => obind (g ah.1) fun r => some (r, ah.2, cx)
      else obind (borrowL (fun _ => none) args) fun as_ => obind (g as_) fun r => some (r, hp, cx)
  | some (.fresh true g) => obind (borrowD (hsel m nx n hp) args) fun as_ => obind (g as_) fun r => guardO (AV.noMem.noMemL r.2.2 = true) (some (.os id 0 r.1 r.2.1 true, upd hp id (.cells r.2.2 true), cx))
  | some (.fresh false g) => if m = 0 then obind (frzArgs hp args) fun ah => obind (g ah.1) fun r => some (.os id 0 r.1 r.2.1 true, upd ah.2 id (.cells r.2.2 true), cx)
      else obind (borrowL (fun _ => none) args) fun as_ => obind (g as_) fun r => some (.os id 0 r.1 r.2.1 true, upd hp id (.cells r.2.2 true), cx)
  | some (.heap g) => guardO (m = 0) (g args hp cx)
  | none => none

def callOp (Γ : Env) (op : Op) (ρ : Operand → AV) (m nx n : Nat) (hp : H) (id cx : Nat) : Option (AV × H × Nat) :=
  match op with
  | .call c => match c.callee with
    | .value f => match ρ f with
      | .fn f caps => callA Γ f (c.args.toList.map ρ ++ caps) m nx n hp id cx
      | _ => none
    | _ => none
  | _ => none

/-- What an operation comes to. -/
def eff (P : Program) (Γ : Env) (op : Op) (ρ : Operand → AV) (m nx n : Nat) (hp : H) (id cx : Nat) : Option (AV × H × Nat) :=
  match cls P op with
  | .pure => obind (pureOp P op ρ) fun x => some (x, hp, cx)
  | .read => obind (readOp P op ρ (hsel m nx n hp)) fun x => some (x, hp, cx)
  | .new => obind (newOp P op ρ id) fun p => some (p.1, upd hp id (.cells p.2 true), cx)
  | .write => obind (writeOp P op ρ hp id) fun p => some (p.1, p.2, cx)
  | .call => callOp Γ op ρ m nx n hp id cx

def guardVal (ops : Array Oper) (fr : List (Nat × AV)) (j : Nat) : Option Bool :=
  match (ops[j]?).bind (·.dst) with
  | some t => match look fr t with | .b x => some x | _ => none
  | none => none

def gdO (ops : Array Oper) (fr : List (Nat × AV)) (o : Oper) : Option Bool :=
  match o.guard with
  | none => some true
  | some (j, want) => obind (guardVal ops fr j) fun g => some (g == want)

def stepO (P : Program) (Γ : Env) (GL : Nat → Option (List AV)) (md : Nat → Nat) (ops : Array Oper) (k : Nat) (o : Oper) (s : S) : Option S :=
  obind (gdO ops s.fr o) fun b => match b with
    | true => obind (eff P Γ o.op (ev GL s.fr) (md k) s.nx ops.size s.hp (s.nx + k) s.cx) fun r => some { fr := putA o.dst r.1 s.fr, hp := r.2.1, nx := s.nx, cx := r.2.2 }
    | false => some { s with fr := putA o.dst .junk s.fr }

/-- What the world looks like at a point of a function's run, from the point where it began on. -/
structure R (c : Ctx) (σ0 : Nat → Loc) (I0 : Nat → Prop) (w0 : World) (rem : Nat → Prop) (s : S) (a : Act) (w : World) : Prop where
  ex : ∃ σ I, Inv c σ I w s.hp (fun id => s.cx ≤ id ∨ (∃ k, rem k ∧ id = s.nx + k) ∨ c.u0 id) ∧ Grow σ0 I0 w0 σ I w ∧ (∀ t, Rel σ I w (look s.fr t) (a.tmps.getD t undef))
  defers : a.defers = []
  size : a.tmps.size = c.nt
  lt : ∀ k, rem k → s.nx + k < s.cx
  lt0 : ∀ id, c.u0 id → id < s.nx ∧ id < s.cx

theorem ev_rel {c : Ctx} {σ : Nat → Loc} {I : Nat → Prop} {w : World} {hp : H} {un : Nat → Prop} {fr : List (Nat × AV)} {a : Act} (hi : Inv c σ I w hp un) (hf : ∀ t, Rel σ I w (look fr t) (a.tmps.getD t undef)) :
    ∀ y, Rel σ I w (ev c.GL fr y) (a.eval y) := by
  intro y
  cases y with
  | tmp t => exact hf t
  | const v => exact rel_ofV v
  | global g =>
    simp only [ev, Act.eval]
    split
    · rename_i xs h; exact hi.glob g xs h
    · exact .junk _
  | func f => exact .fn f [] #[] rfl (fun i h => by simp at h)

theorem put_rel {σ : Nat → Loc} {I : Nat → Prop} {w : World} {fr : List (Nat × AV)} {a : Act} {dst : Option Tmp} {x : AV} {v : Value} {n : Nat} (hn : a.tmps.size = n) (hd : ∀ d, dst = some d → d < n)
    (hx : dst.isSome = true → Rel σ I w x v) (hf : ∀ t, Rel σ I w (look fr t) (a.tmps.getD t undef)) : ∀ t, Rel σ I w (look (putA dst x fr) t) ((a.put dst v).tmps.getD t undef) := by
  intro t
  cases dst with
  | none => exact hf t
  | some d =>
    simp only [putA, look, Act.put]
    have hlt := hd d rfl
    split
    · rename_i e; subst e
      have : (a.tmps.setIfInBounds d v).getD d undef = v := by
        rw [Array.getD_eq_getD_getElem?, Array.getElem?_setIfInBounds_self_of_lt (by rw [hn]; exact hlt)]; rfl
      rw [this]; exact hx rfl
    · rename_i e
      have : (a.tmps.setIfInBounds d v).getD t undef = a.tmps.getD t undef := by
        rw [Array.getD_eq_getD_getElem?, Array.getElem?_setIfInBounds_ne e, ← Array.getD_eq_getD_getElem?]
      rw [this]; exact hf t

theorem size_put (a : Act) (dst : Option Tmp) (v : Value) : (a.put dst v).tmps.size = a.tmps.size := by
  cases dst <;> simp [Act.put]
theorem defers_put (a : Act) (dst : Option Tmp) (v : Value) : (a.put dst v).defers = a.defers := by
  cases dst <;> rfl

/-- What is known of every function that is called. -/
def Callable (P : Program) (f : FuncId) : Prop := ∃ fn, P.funcs[f]? = some fn ∧ (fn.name == "runtime.NumGoroutine") = false ∧ fn.body.isNone = false

def PureOK (P : Program) (GL : Nat → Option (List AV)) (f : FuncId) (g : List AV → Option AV) : Prop :=
  ∀ (σ : Nat → Loc) (I : Nat → Prop) (w : World) (nx : Nat) (args : List AV) (vals : Array Value) (r : AV),
    (∀ id, nx ≤ id → σ id = .unset) → (∀ k, I k → k < w.heap.size) → (∀ g xs, GL g = some xs → Rel σ I w (.rp xs) (.pointer (some ⟨g, 0, none⟩))) →
    vals.size = args.length → (∀ i (_h : i < args.length), Rel σ I w args[i] (vals.getD i undef)) → g args = some r →
    Calls P f vals w fun e w' => ∃ v σ' I', e = .returned v ∧ w'.os = w.os ∧ w'.tape = w.tape ∧ w'.output = w.output ∧ w.heap.size ≤ w'.heap.size ∧ (∀ k, k < w.heap.size → w'.heap[k]? = w.heap[k]?) ∧
      (∀ id, id < nx → σ' id = σ id) ∧ (∀ k, I' k → I k ∨ w.heap.size ≤ k) ∧ (∀ k, I' k → k < w'.heap.size) ∧ Rel σ' I' w' r v

def FreshOK (P : Program) (GL : Nat → Option (List AV)) (f : FuncId) (g : List AV → Option (Nat × Nat × List AV)) : Prop :=
  ∀ (σ : Nat → Loc) (I : Nat → Prop) (w : World) (nx : Nat) (args : List AV) (vals : Array Value) (n e : Nat) (xs : List AV),
    (∀ id, nx ≤ id → σ id = .unset) → (∀ k, I k → k < w.heap.size) → (∀ g xs, GL g = some xs → Rel σ I w (.rp xs) (.pointer (some ⟨g, 0, none⟩))) →
    vals.size = args.length → (∀ i (_h : i < args.length), Rel σ I w args[i] (vals.getD i undef)) → g args = some (n, e, xs) →
    Calls P f vals w fun e' w' => ∃ v σ' I', e' = .returned v ∧ w'.os = w.os ∧ w'.tape = w.tape ∧ w'.output = w.output ∧ w.heap.size ≤ w'.heap.size ∧ (∀ k, k < w.heap.size → w'.heap[k]? = w.heap[k]?) ∧
      (∀ id, id < nx → σ' id = σ id) ∧ (∀ k, I' k → I k ∨ w.heap.size ≤ k) ∧ (∀ k, I' k → k < w'.heap.size) ∧
      (((v = .slice none 0 0 ∨ ∃ a, v = .slice (some a) 0 0) ∧ n = 0 ∧ xs = []) ∨ ∃ blk base sz cap, v = .slice (some ⟨blk, base, none⟩) n cap ∧ n ≤ cap ∧ base + cap * e ≤ sz ∧ w.heap.size ≤ blk ∧ ¬ I' blk ∧ RowAt σ' I' w' xs blk base sz)

def HeapOK (P : Program) (GL : Nat → Option (List AV)) (f : FuncId) (g : List AV → H → Nat → Option (AV × H × Nat)) : Prop :=
  ∀ (c : Ctx) (σ : Nat → Loc) (I : Nat → Prop) (w : World) (hp : H) (nx : Nat) (args : List AV) (vals : Array Value) (r : AV) (hp' : H) (nx' : Nat),
    c.GL = GL → Inv c σ I w hp (fun id => nx ≤ id) → vals.size = args.length → (∀ i (_h : i < args.length), Rel σ I w args[i] (vals.getD i undef)) → g args hp nx = some (r, hp', nx') →
    nx ≤ nx' ∧ Calls P f vals w fun e w' => ∃ v σ' I', e = .returned v ∧ Inv c σ' I' w' hp' (fun id => nx' ≤ id) ∧ Rel σ' I' w' r v ∧ Grow σ I w σ' I' w' ∧ (∀ id, id < nx → σ id = .unset → σ' id = .unset)

def EnvOK (P : Program) (GL : Nat → Option (List AV)) (Γ : Env) : Prop :=
  ∀ f s, Γ f = some s → Callable P f ∧ match s with
    | .pure _ g => PureOK P GL f g
    | .fresh _ g => FreshOK P GL f g
    | .heap g => HeapOK P GL f g

section
variable {P : Program} {c : Ctx} {σ : Nat → Loc} {I : Nat → Prop} {w : World} {hp : H} {un : Nat → Prop}

/-- A call that leaves all that there was as it was. -/
theorem Inv.extend {w' : World} (h : Inv c σ I w hp un) (hos : w'.os = w.os) (ht : w'.tape = w.tape) (ho : w'.output = w.output) (hs : w.heap.size ≤ w'.heap.size) (hk : ∀ k, k < w.heap.size → w'.heap[k]? = w.heap[k]?)
    (I' : Nat → Prop) (hI : ∀ k, I k → I' k) (hI2 : ∀ k, I' k → I k ∨ (w.heap.size ≤ k ∧ k < w'.heap.size)) : Inv c σ I' w' hp un := by
  have hw : ∀ k, I k → w'.heap[k]? = w.heap[k]? := fun k hi => hk k (h.ilt k hi)
  refine ⟨h.ext, fun k hk => hI k (h.imm k hk), fun k hi => by rw [hw k (h.imm k hi)]; exact h.iw k hi, by rw [hos]; exact h.os, by rw [ht]; exact h.tape, by rw [ho]; exact h.output, Nat.le_trans h.size hs,
    fun k h1 h2 => by rw [hk k (by have := h.size; omega)]; exact h.old k h1 h2, fun k hi => ?_, fun id o hid => ?_, h.inj, h.lim, h.un, fun g xs hg => (h.glob g xs hg).mono (fun _ _ => rfl) hI hw, fun k hi => ?_⟩
  · rcases hI2 k hi with hi | hi
    · have := h.ilt k hi; omega
    · exact hi.2
  · exact (h.own id o hid).mono (fun _ _ => rfl) hI hw fun blk base sz e => by
      have hlt := (h.own id o hid).lt e
      exact ⟨hk blk hlt, fun _ hn hb => by
        rcases hI2 blk hb with hb | hb
        · exact hn hb
        · omega⟩
  · rcases hI2 k hi with hi | hi
    · exact h.inew k hi
    · exact .inr (.inl (by have := h.size; omega))

theorem hsel_sub (m nx n : Nat) (hp : H) : ∀ id o, hsel m nx n hp id = some o → hp id = some o := by
  intro id o h
  unfold hsel at h
  split at h
  · exact h
  · cases h
  · replace h : (if nx ≤ id ∧ id < nx + n ∧ (m / 2 - 1).testBit (id - nx) = false then none else hp id) = some o := h
    split at h
    · cases h
    · exact h

/-- A block that nobody has, and that may be written, becomes an own object. -/
theorem Inv.adopt (h : Inv c σ I w hp un) {id : Nat} (hu : un id) {xs : List AV} {blk base sz : Nat} (hrow : RowAt σ I w xs blk base sz) (hnI : ¬ I blk) (hlim : c.w0.heap.size ≤ blk)
    (hother : ∀ k o blk' base' sz', hp k = some o → σ k = .at_ blk' base' sz' → blk' ≠ blk) :
    Inv c (setLoc σ id (.at_ blk base sz)) I w (upd hp id (.cells xs true)) (fun k => un k ∧ k ≠ id) := by
  have hσ := setLoc_ext (l := .at_ blk base sz) (h.un id hu)
  have get : ∀ k o, upd hp id (.cells xs true) k = some o → (k = id ∧ o = .cells xs true) ∨ (k ≠ id ∧ hp k = some o) := by
    intro k o hk
    rw [upd_apply] at hk
    split at hk
    · rename_i e; exact .inl ⟨e, (Option.some.inj hk).symm⟩
    · rename_i e; exact .inr ⟨e, hk⟩
  refine { h with ext := fun k hk => ?_, own := fun k o hk => ?_, inj := ?_, lim := ?_, un := ?_, glob := fun g ys hg => (h.glob g ys hg).mono hσ (fun _ h => h) fun _ _ => rfl }
  · have := h.ext k hk
    rw [hσ k (by rw [this]; exact hk), this]
  · rcases get k o hk with ⟨rfl, rfl⟩ | ⟨e1, e2⟩
    · simp only [OwnRel, setLoc, if_true]
      exact ⟨hrow.mono hσ (fun _ h => h) (fun _ _ => rfl) rfl, fun _ => hnI, fun hm => by simp at hm⟩
    · exact (h.own k o e2).mono hσ (fun _ h => h) (fun _ _ => rfl) fun _ _ _ _ => ⟨rfl, fun _ h => h⟩
  · intro k k' xs' o' blk1 base1 sz1 base2 sz2 h1 h2 hn e1 e2
    rcases get k _ h1 with ⟨rfl, _⟩ | ⟨a1, a2⟩
    · rcases get k' _ h2 with ⟨rfl, _⟩ | ⟨b1, b2⟩
      · exact hn rfl
      · simp only [setLoc, if_true, Loc.at_.injEq] at e1
        simp only [setLoc, if_neg b1] at e2
        exact hother k' o' blk1 base2 sz2 b2 e2 e1.1.symm
    · simp only [setLoc, if_neg a1] at e1
      rcases get k' _ h2 with ⟨rfl, _⟩ | ⟨b1, b2⟩
      · simp only [setLoc, if_true, Loc.at_.injEq] at e2
        exact hother k _ blk1 base1 sz1 a2 e1 e2.1.symm
      · simp only [setLoc, if_neg b1] at e2
        exact h.inj k k' xs' o' blk1 base1 sz1 base2 sz2 a2 b2 hn e1 e2
  · intro k xs' blk1 base1 sz1 h1 e1
    rcases get k _ h1 with ⟨rfl, _⟩ | ⟨a1, a2⟩
    · simp only [setLoc, if_true, Loc.at_.injEq] at e1
      rw [← e1.1]; exact .inl hlim
    · simp only [setLoc, if_neg a1] at e1
      exact h.lim k xs' blk1 base1 sz1 a2 e1
  · intro k ⟨hk, hn⟩
    simp only [setLoc, if_neg hn]
    exact h.un k hk

theorem borrow_sound {Ib : Nat → Prop} (hi : Inv c σ I w hp un) (hIb : ∀ k, I k → Ib k) (hIb2 : ∀ id o blk base sz, hp id = some o → σ id = .at_ blk base sz → Ib blk) :
    ∀ {x y : AV} {v : Value}, borrow1 hp x = some y → Rel σ I w x v → Rel σ Ib w y v := by
  intro x y v h hr
  have hmono : Rel σ Ib w x v := hr.mono (fun _ _ => rfl) hIb (fun _ _ => rfl)
  unfold borrow1 at h
  split at h
  · rename_i id off n e g
    replace h := obind_inv h; obtain ⟨o, ho, h⟩ := h
    obtain ⟨xs, mt⟩ := o
    simp only at h
    replace h := guardO_inv h; obtain ⟨hfit, h⟩ := h
    obtain rfl := Option.some.inj h
    have hown := hi.own id _ ho
    have hlen : ((xs.drop off).take (n * e)).length = n * e := by simp; omega
    cases hr with
    | os _ _ _ _ _ blk base sz cap g1 g2 g3 =>
      have hrow := own_row hown g1
      refine .sl n _ blk (base + off) cap (fun i => (w.cell? ⟨blk, base + off + i, none⟩).getD undef) (hIb2 id _ _ _ _ ho g1) g2 (fun i hi => ?_) (fun i hi => ?_) (fun i hi => ?_)
      · rw [hlen] at hi
        obtain ⟨v, hv, _⟩ := hrow.get (off + i) (by omega)
        rw [← Nat.add_assoc] at hv; rw [hv]; rfl
      · rw [hlen] at hi
        rw [getElem_take', getElem_drop']; exact (hrow.get (off + i) (by omega)).choose_spec.2.1
      · rw [hlen] at hi
        rw [getElem_take', getElem_drop']
        obtain ⟨v, hv, _, hrel⟩ := hrow.get (off + i) (by omega)
        rw [← Nat.add_assoc] at hv; rw [hv]; exact hrel.mono (fun _ _ => rfl) hIb (fun _ _ => rfl)
    | osnil => simp only [Nat.zero_mul, List.take_zero]; exact .slnil
    | oszero _ _ _ _ a => simp only [Nat.zero_mul, List.take_zero]; exact .slzero a
  · rename_i id off
    replace h := obind_inv h; obtain ⟨o, ho, h⟩ := h
    obtain ⟨xs, mt⟩ := o
    simp only at h
    obtain rfl := Option.some.inj h
    have hown := hi.own id _ ho
    obtain ⟨blk, base, sz, g1, rfl⟩ := op_inv hr
    have hrow := own_row hown g1
    refine .rp _ blk (base + off) (fun i => (w.cell? ⟨blk, base + off + i, none⟩).getD undef) (hIb2 id _ _ _ _ ho g1) (fun i hi => ?_) (fun i hi => ?_) (fun i hi => ?_)
    · simp at hi
      obtain ⟨v, hv, _⟩ := hrow.get (off + i) (by omega)
      rw [← Nat.add_assoc] at hv; rw [hv]; rfl
    · simp at hi
      rw [getElem_drop']; exact (hrow.get (off + i) (by omega)).choose_spec.2.1
    · simp at hi
      rw [getElem_drop']
      obtain ⟨v, hv, _, hrel⟩ := hrow.get (off + i) (by omega)
      rw [← Nat.add_assoc] at hv; rw [hv]; exact hrel.mono (fun _ _ => rfl) hIb (fun _ _ => rfl)
  · obtain rfl := Option.some.inj h
    cases hr; exact .slnil
  · obtain rfl := Option.some.inj h
    exact hmono

theorem borrowL_sound {Ib : Nat → Prop} (hi : Inv c σ I w hp un) (hIb : ∀ k, I k → Ib k) (hIb2 : ∀ id o blk base sz, hp id = some o → σ id = .at_ blk base sz → Ib blk) :
    ∀ (xs : List AV) {ys : List AV} (vs : Nat → Value), borrowL hp xs = some ys → (∀ i (_h : i < xs.length), Rel σ I w xs[i] (vs i)) → ys.length = xs.length ∧ ∀ i (_h : i < ys.length), Rel σ Ib w ys[i] (vs i)
  | [], ys, vs, h, _ => by obtain rfl := Option.some.inj h; exact ⟨rfl, fun i h => by simp at h⟩
  | x :: r, ys, vs, h, hr => by
    simp only [borrowL] at h
    replace h := obind_inv h; obtain ⟨y, hy, h⟩ := h
    replace h := obind_inv h; obtain ⟨l, hl, h⟩ := h
    obtain rfl := Option.some.inj h
    have h0 := hr 0 (by simp)
    obtain ⟨e1, e2⟩ := borrowL_sound hi hIb hIb2 r (fun i => vs (i + 1)) hl (fun i hi => by have := hr (i + 1) (by simpa using hi); simpa using this)
    refine ⟨by simp [e1], fun i hi' => ?_⟩
    cases i with
    | zero => exact borrow_sound hi hIb hIb2 hy h0
    | succ k => exact e2 k (by simpa using hi')

/-- All own objects of a run are plain ones from then on. -/

theorem imm_sound {c : Ctx} {σ : Nat → Loc} {I I' : Nat → Prop} {w : World} {hp : H} {un : Nat → Prop} (hi : Inv c σ I w hp un) (hI : ∀ k, I k → I' k) (hI2 : ∀ id o blk base sz, hp id = some o → σ id = .at_ blk base sz → I' blk) :
    ∀ (n : Nat) {x y : AV} {v : Value}, immF n hp x = some y → Rel σ I w x v → Rel σ I' w y v ∧ (x.isCell = true → y.isCell = true) := by
  intro n
  induction n with
  | zero => intro x y v h; simp [immF] at h
  | succ n ih =>
    intro x y v h hr
    have hmono : ∀ {x : AV} {v : Value}, Rel σ I w x v → Rel σ I' w x v := fun h => h.mono (fun _ _ => rfl) hI (fun _ _ => rfl)
    have immMs : ∀ (xs : List AV) {ys : List AV}, immM (immF n hp) xs = some ys → ys.length = xs.length ∧ ∀ (f : Nat → Value), (∀ i (_h : i < xs.length), Rel σ I w xs[i] (f i)) → ∀ i (_h : i < ys.length), Rel σ I' w ys[i] (f i) ∧ ∀ h2 : i < xs.length, xs[i].isCell = true → ys[i].isCell = true := by
      intro xs
      induction xs with
      | nil => intro ys h; obtain rfl := Option.some.inj h; exact ⟨rfl, fun f _ i h => by simp at h⟩
      | cons a r ihr =>
        intro ys h
        simp only [immM] at h
        replace h := obind_inv h; obtain ⟨b, hb, h⟩ := h
        replace h := obind_inv h; obtain ⟨l, hl, h⟩ := h
        obtain rfl := Option.some.inj h
        obtain ⟨e1, e2⟩ := ihr hl
        refine ⟨by simp [e1], fun f hf i hi' => ?_⟩
        cases i with
        | zero => exact ⟨(ih hb (hf 0 (by simp))).1, fun _ hc => (ih hb (hf 0 (by simp))).2 hc⟩
        | succ k =>
          have := e2 (fun i => f (i + 1)) (fun i hi => by have := hf (i + 1) (by simpa using hi); simpa using this) k (by simpa using hi')
          exact ⟨this.1, fun h2 hc => this.2 (by simpa using h2) (by simpa using hc)⟩
    have immLs : ∀ (xs : List AV) {ys : List AV}, immL (immF n hp) xs = some ys → ys.length = xs.length ∧ ∀ (f : Nat → Value), (∀ i (_h : i < xs.length), Rel σ I w xs[i] (f i)) → ∀ i (_h : i < ys.length), Rel σ I' w ys[i] (f i) ∧ ∀ h2 : i < xs.length, xs[i].isCell = true → ys[i].isCell = true := by
      intro xs ys h
      unfold immL at h
      split at h
      · obtain rfl := Option.some.inj h
        exact ⟨rfl, fun f hf i hi => ⟨hmono (hf i hi), fun _ h => h⟩⟩
      · exact immMs xs h
    have id_case : some x = some y → Rel σ I' w y v ∧ (x.isCell = true → y.isCell = true) := by
      intro h; obtain rfl := Option.some.inj h; exact ⟨hmono hr, fun h => h⟩
    simp only [immF] at h
    split at h
    · rename_i id off m e g
      replace h := obind_inv h; obtain ⟨o, ho, h⟩ := h
      obtain ⟨xs, mt⟩ := o
      simp only at h
      replace h := guardO_inv h; obtain ⟨hfit, h⟩ := h
      replace h := obind_inv h; obtain ⟨l, hl, h⟩ := h
      obtain rfl := Option.some.inj h
      refine ⟨?_, fun _ => rfl⟩
      obtain ⟨e1, e2⟩ := immLs _ hl
      have hown := hi.own id _ ho
      have hlen : ((xs.drop off).take (m * e)).length = m * e := by simp; omega
      cases hr with
      | os _ _ _ _ _ blk base sz cap g1 g2 g3 =>
        have hrow := own_row hown g1
        have hget : ∀ i (_h : i < ((xs.drop off).take (m * e)).length), Rel σ I w ((xs.drop off).take (m * e))[i] ((w.cell? ⟨blk, base + off + i, none⟩).getD undef) ∧ w.cell? ⟨blk, base + off + i, none⟩ = some ((w.cell? ⟨blk, base + off + i, none⟩).getD undef) ∧ ((xs.drop off).take (m * e))[i].isCell = true := by
          intro i hi
          rw [hlen] at hi
          rw [getElem_take', getElem_drop']
          obtain ⟨v, hv, hc, hrel⟩ := hrow.get (off + i) (by omega)
          rw [← Nat.add_assoc] at hv
          rw [hv]; exact ⟨hrel, rfl, hc⟩
        have := e2 (fun i => (w.cell? ⟨blk, base + off + i, none⟩).getD undef) (fun i hi => (hget i hi).1)
        exact .sl m l blk (base + off) cap _ (hI2 id _ _ _ _ ho g1) g2 (fun i hi => (hget i (by rw [← e1]; exact hi)).2.1) (fun i hi => (this i hi).2 (by rw [← e1]; exact hi) (hget i (by rw [← e1]; exact hi)).2.2) (fun i hi => (this i hi).1)
      | osnil =>
        have : l = [] := List.eq_nil_of_length_eq_zero (by rw [e1]; simp)
        subst this; exact .slnil
      | oszero _ _ _ _ a =>
        have : l = [] := List.eq_nil_of_length_eq_zero (by rw [e1]; simp)
        subst this; exact .slzero a
    · rename_i id off
      replace h := obind_inv h; obtain ⟨o, ho, h⟩ := h
      obtain ⟨xs, mt⟩ := o
      simp only at h
      replace h := obind_inv h; obtain ⟨l, hl, h⟩ := h
      obtain rfl := Option.some.inj h
      refine ⟨?_, fun _ => rfl⟩
      obtain ⟨e1, e2⟩ := immLs _ hl
      have hown := hi.own id _ ho
      obtain ⟨blk, base, sz, g1, rfl⟩ := op_inv hr
      have hrow := own_row hown g1
      have hget : ∀ i (_h : i < (xs.drop off).length), Rel σ I w (xs.drop off)[i] ((w.cell? ⟨blk, base + off + i, none⟩).getD undef) ∧ w.cell? ⟨blk, base + off + i, none⟩ = some ((w.cell? ⟨blk, base + off + i, none⟩).getD undef) ∧ (xs.drop off)[i].isCell = true := by
        intro i hi
        rw [getElem_drop']
        simp at hi
        obtain ⟨v, hv, hc, hrel⟩ := hrow.get (off + i) (by omega)
        rw [← Nat.add_assoc] at hv
        rw [hv]; exact ⟨hrel, rfl, hc⟩
      have := e2 (fun i => (w.cell? ⟨blk, base + off + i, none⟩).getD undef) (fun i hi => (hget i hi).1)
      exact .rp l blk (base + off) _ (hI2 id _ _ _ _ ho g1) (fun i hi => (hget i (by rw [← e1]; exact hi)).2.1) (fun i hi => (this i hi).2 (by rw [← e1]; exact hi) (hget i (by rw [← e1]; exact hi)).2.2) (fun i hi => (this i hi).1)
    · obtain rfl := Option.some.inj h
      cases hr; exact ⟨.slnil, fun _ => rfl⟩
    · rename_i xs
      replace h := obind_inv h; obtain ⟨l, hl, h⟩ := h
      obtain rfl := Option.some.inj h
      obtain ⟨e1, e2⟩ := immLs _ hl
      refine ⟨?_, fun h => h⟩
      cases hr with
      | agg _ vs h1 h2 h3 =>
        have := e2 (fun i => vs.getD i undef) h3
        exact .agg _ vs (by rw [h1, e1]) (fun i hi => (this i hi).2 (by rw [← e1]; exact hi) (h2 i (by rw [← e1]; exact hi))) (fun i hi => (this i hi).1)
    · rename_i xs
      replace h := obind_inv h; obtain ⟨l, hl, h⟩ := h
      obtain rfl := Option.some.inj h
      obtain ⟨e1, e2⟩ := immLs _ hl
      refine ⟨?_, fun h => h⟩
      cases hr with
      | tup _ vs h1 h3 =>
        have := e2 (fun i => vs.getD i undef) h3
        exact .tup _ vs (by rw [h1, e1]) (fun i hi => (this i hi).1)
    · cases h
    · exact id_case h


theorem borrowD_sound {Ib : Nat → Prop} (hi : Inv c σ I w hp un) (hIb : ∀ k, I k → Ib k) (hIb2 : ∀ id o blk base sz, hp id = some o → σ id = .at_ blk base sz → Ib blk) :
    ∀ (xs : List AV) {ys : List AV} (vs : Nat → Value), borrowD hp xs = some ys → (∀ i (_h : i < xs.length), Rel σ I w xs[i] (vs i)) → ys.length = xs.length ∧ ∀ i (_h : i < ys.length), Rel σ Ib w ys[i] (vs i)
  | [], ys, vs, h, _ => by obtain rfl := Option.some.inj h; exact ⟨rfl, fun i h => by simp at h⟩
  | x :: r, ys, vs, h, hr => by
    simp only [borrowD, immM] at h
    replace h := obind_inv h; obtain ⟨y, hy, h⟩ := h
    replace h := obind_inv h; obtain ⟨l, hl, h⟩ := h
    obtain rfl := Option.some.inj h
    have h0 := hr 0 (by simp)
    obtain ⟨e1, e2⟩ := borrowD_sound hi hIb hIb2 r (fun i => vs (i + 1)) hl (fun i hi => by have := hr (i + 1) (by simpa using hi); simpa using this)
    refine ⟨by simp [e1], fun i hi' => ?_⟩
    cases i with
    | zero => exact (imm_sound hi hIb hIb2 4 hy h0).1
    | succ k => exact e2 k (by simpa using hi')

theorem Inv.freeze' (h : Inv c σ I w hp un) {id : Nat} {xs : List AV} {mt : Bool} (ho : hp id = some (.cells xs mt)) :
    ∃ I', (∀ k, I k → I' k) ∧ Inv c σ I' w (upd hp id (.cells xs false)) un := by
  cases mt with
  | true => obtain ⟨I', a, _, b⟩ := h.freeze ho; exact ⟨I', a, b⟩
  | false =>
    refine ⟨I, fun _ h => h, ?_⟩
    have : upd hp id (.cells xs false) = hp := by
      funext k; rw [upd_apply]; split
      · rename_i e; rw [e, ho]
      · rfl
    rw [this]; exact h

theorem frzArg_sound {x : AV} {v : Value} {p : AV × H} (h : frzArg hp x = some p) (hi : Inv c σ I w hp un) (hr : Rel σ I w x v) :
    ∃ I', (∀ k, I k → I' k) ∧ Inv c σ I' w p.2 un ∧ Rel σ I' w p.1 v := by
  have key : ∀ id xs mt, hp id = some (.cells xs mt) → ∀ y, borrow1 hp x = some y → p = (y, upd hp id (.cells xs false)) → ((∃ off n e g, x = .os id off n e g) ∨ (∃ off, x = .op id off)) →
      ∃ I', (∀ k, I k → I' k) ∧ Inv c σ I' w p.2 un ∧ Rel σ I' w p.1 v := by
    intro id xs mt ho y hy hp' hx
    subst hp'
    obtain ⟨I', a1, a2⟩ := hi.freeze' ho
    refine ⟨I', a1, a2, ?_⟩
    have hpid : upd hp id (.cells xs false) id = some (.cells xs false) := by rw [upd_apply, if_pos rfl]
    have hy' : borrow1 (fun k => if k = id then some (.cells xs false) else none) x = some y := by
      rcases hx with ⟨off, n, e, g, rfl⟩ | ⟨off, rfl⟩
      · simp only [borrow1, ho, obind_some, if_pos] at hy ⊢; exact hy
      · simp only [borrow1, ho, obind_some, if_pos] at hy ⊢; exact hy
    have hsub : Inv c σ I' w (fun k => if k = id then some (.cells xs false) else none) un := a2.sub (fun k o hk => by
      split at hk
      · rename_i e; rw [upd_apply, if_pos e]; exact hk
      · cases hk)
    refine borrow_sound hsub (fun _ h => h) (fun id' o blk base sz e1 e2 => ?_) hy' (hr.mono (fun _ _ => rfl) a1 (fun _ _ => rfl))
    split at e1
    · rename_i e; subst e
      obtain rfl := Option.some.inj e1
      have := hsub.own id' (.cells xs false) (by simp only [if_pos])
      simp only [OwnRel, e2] at this
      exact this.2.2 trivial
    · cases e1
  unfold frzArg at h
  split at h
  · rename_i id off n e g
    replace h := obind_inv h; obtain ⟨o, ho, h⟩ := h
    obtain ⟨xs, mt⟩ := o
    simp only at h
    replace h := guardO_inv h; obtain ⟨hfit, h⟩ := h
    obtain rfl := Option.some.inj h
    exact key id xs mt ho _ (by simp only [borrow1, ho, obind_some]; rw [guardO_true _ hfit]) rfl (.inl ⟨_, _, _, _, rfl⟩)
  · rename_i id off
    replace h := obind_inv h; obtain ⟨o, ho, h⟩ := h
    obtain ⟨xs, mt⟩ := o
    simp only at h
    obtain rfl := Option.some.inj h
    exact key id xs mt ho _ (by simp only [borrow1, ho, obind_some]) rfl (.inr ⟨_, rfl⟩)
  · obtain rfl := Option.some.inj h
    cases hr; exact ⟨I, fun _ h => h, hi, .slnil⟩
  · obtain rfl := Option.some.inj h
    exact ⟨I, fun _ h => h, hi, hr⟩

theorem frzArgs_sound : ∀ (xs : List AV) {hp : H} {I : Nat → Prop} {p : List AV × H} (vs : Nat → Value), frzArgs hp xs = some p → Inv c σ I w hp un → (∀ i (_h : i < xs.length), Rel σ I w xs[i] (vs i)) →
    ∃ I', (∀ k, I k → I' k) ∧ Inv c σ I' w p.2 un ∧ p.1.length = xs.length ∧ ∀ i (_h : i < p.1.length), Rel σ I' w p.1[i] (vs i)
  | [], hp, I, p, vs, h, hi, _ => by obtain rfl := Option.some.inj h; exact ⟨I, fun _ h => h, hi, rfl, fun i h => by simp at h⟩
  | x :: r, hp, I, p, vs, h, hi, hr => by
    simp only [frzArgs] at h
    replace h := obind_inv h; obtain ⟨y, hy, h⟩ := h
    replace h := obind_inv h; obtain ⟨l, hl, h⟩ := h
    obtain rfl := Option.some.inj h
    obtain ⟨I1, a1, a2, a3⟩ := frzArg_sound hy hi (hr 0 (by simp))
    obtain ⟨I2, b1, b2, b3, b4⟩ := frzArgs_sound r (fun i => vs (i + 1)) hl a2 (fun i hi => by have := hr (i + 1) (by simpa using hi); simp only [List.getElem_cons_succ] at this; exact this.mono (fun _ _ => rfl) a1 (fun _ _ => rfl))
    refine ⟨I2, fun k hk => b1 k (a1 k hk), b2, by simp [b3], fun i hi' => ?_⟩
    cases i with
    | zero => exact a3.mono (fun _ _ => rfl) b1 (fun _ _ => rfl)
    | succ k => exact b4 k (by simpa using hi')

end
end Go.AX
