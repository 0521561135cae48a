/-
  AX, part AyC: calls that panic: what has been done is left, and all own objects are given up. AX, part AyD: a region that draws its order and ends with a call that panics. AX, part AyE: functions that turn one own object in place, answer with what may be read from then on, or panic. AX, part AyF: functions that defer one closure, which recovers. AX, part AyG: a region that draws its order, walked in each order that it may take (where operations meet that need not wait for each other, such as a load of one own object and a store to another). AX, part AyH: a plain function that is handed a closure over an own object. AX, part AyI: a plain function that is handed something and a closure over an own object. AX, part AyJ: an own object that is no more written becomes a plain one. AX, part AyK: a region that draws its order, in which one pair of operations that don't wait for each other meets: two orders are walked. AX, more, part M: maps: evaluation.
-/
import Derived.Test.YtkpgebeipmedeaaDoorBD
import Derived.Defers
import Derived.Recover
namespace Go.AX
open Go

section
variable {P : Program} {GL : Nat → Option (List AV)} {nt : Nat} {Q : Exit → S → Prop}

end
end Go.AX

namespace Go.AX
open Go

section
variable {P : Program} {Γ : Env} {c : Ctx} {σ0 : Nat → Loc} {I0 : Nat → Prop} {w0 : World} {md : Nat → Nat} {ops : Array Oper}

end

end Go.AX

namespace Go.AX
open Go

def rdH (g : List AV → List AV → Option (Option (AV × List AV))) : List AV → H → Nat → Option (AV × H × Nat)
  | .op id off :: rest, hp, nx => obind (hp id) fun o => match o with
    | .cells xs mt => guardO (mt = true) (obind (g (.op id off :: rest) xs) fun p => obind p fun q => some (q.1, upd hp id (.cells q.2 true), nx))
    | _ => none
  | _, _, _ => none
def rdP (g : List AV → List AV → Option (Option (AV × List AV))) : List AV → H → Nat → Option (H × Nat)
  | .op id off :: rest, hp, nx => obind (hp id) fun o => match o with
    | .cells xs mt => guardO (mt = true) (obind (g (.op id off :: rest) xs) fun p => match p with
      | some _ => none
      | none => some (del hp id, nx))
    | _ => none
  | _, _, _ => none
def rdO (g : List AV → List AV → Option (Option (AV × List AV))) (args : List AV) (id : Nat) (hp : H) (nx : Nat) : AO → Option (AV × H × Nat)
  | .cells xs mt => guardO (mt = true) (obind (g args xs) fun p => obind p fun q => some (q.1, upd hp id (.cells q.2 true), nx))
  | _ => none
theorem rdH_op (g : List AV → List AV → Option (Option (AV × List AV))) (id off : Nat) (rest : List AV) (hp : H) (nx : Nat) : rdH g (.op id off :: rest) hp nx = obind (hp id) (rdO g (.op id off :: rest) id hp nx) := by
  unfold rdH rdO; rfl
theorem rdO_c (g : List AV → List AV → Option (Option (AV × List AV))) (args : List AV) (id : Nat) (hp : H) (nx : Nat) (xs : List AV) (mt : Bool) : rdO g args id hp nx (.cells xs mt) = guardO (mt = true) (obind (g args xs) fun p => obind p fun q => some (q.1, upd hp id (.cells q.2 true), nx)) := (rfl)
def rdR (id : Nat) (hp : H) (nx : Nat) : Option (AV × List AV) → Option (H × Nat)
  | some _ => none
  | none => some (del hp id, nx)
def rdU (g : List AV → List AV → Option (Option (AV × List AV))) (args : List AV) (id : Nat) (hp : H) (nx : Nat) : AO → Option (H × Nat)
  | .cells xs mt => guardO (mt = true) (obind (g args xs) (rdR id hp nx))
  | _ => none
theorem rdP_op (g : List AV → List AV → Option (Option (AV × List AV))) (id off : Nat) (rest : List AV) (hp : H) (nx : Nat) : rdP g (.op id off :: rest) hp nx = obind (hp id) (rdU g (.op id off :: rest) id hp nx) := by
  unfold rdP rdU rdR; rfl
theorem rdU_c (g : List AV → List AV → Option (Option (AV × List AV))) (args : List AV) (id : Nat) (hp : H) (nx : Nat) (xs : List AV) (mt : Bool) : rdU g args id hp nx (.cells xs mt) = guardO (mt = true) (obind (g args xs) (rdR id hp nx)) := (rfl)
theorem rdR_n (id : Nat) (hp : H) (nx : Nat) : rdR id hp nx none = some (del hp id, nx) := (rfl)
attribute [go_sem] rdH_op rdO_c rdP_op rdU_c rdR_n
theorem b_eql_sl (P : Program) (t : TypeId) (n : Nat) (xs : List AV) : binT P .eql t (.sl n xs) (.v (.slice none 0 0)) = guardO (isSlT P t = true ∧ 0 < n) (some (.b false)) := (rfl)
theorem b_neq_sl (P : Program) (t : TypeId) (n : Nat) (xs : List AV) : binT P .neq t (.sl n xs) (.v (.slice none 0 0)) = guardO (isSlT P t = true ∧ 0 < n) (some (.b true)) := (rfl)
theorem b_eql_os (P : Program) (t : TypeId) (i off n e : Nat) (g : Bool) : binT P .eql t (.os i off n e g) (.v (.slice none 0 0)) = guardO (isSlT P t = true ∧ 0 < n) (some (.b false)) := (rfl)
theorem b_neq_os (P : Program) (t : TypeId) (i off n e : Nat) (g : Bool) : binT P .neq t (.os i off n e g) (.v (.slice none 0 0)) = guardO (isSlT P t = true ∧ 0 < n) (some (.b true)) := (rfl)
attribute [go_sem] b_eql_sl b_neq_sl b_eql_os b_neq_os
theorem b_neq_if (P : Program) (t t' : TypeId) (v : Value) : binT P .neq t (.v (.iface t' v)) (.v .nilIface) = guardO (isIfT P t = true) (some (.b true)) := (rfl)
theorem b_eql_if (P : Program) (t t' : TypeId) (v : Value) : binT P .eql t (.v (.iface t' v)) (.v .nilIface) = guardO (isIfT P t = true) (some (.b false)) := (rfl)
def tasV (P : Program) (t : TypeId) : AV → Option AV
  | .v (.iface t' v) => guardO (t' = t ∧ isIfT P t = false ∧ (P.underlying t).isSome = true) (some (.tup [ofV v, .b true]))
  | _ => none
theorem tasV_if (P : Program) (t t' : TypeId) (v : Value) : tasV P t (.v (.iface t' v)) = guardO (t' = t ∧ isIfT P t = false ∧ (P.underlying t).isSome = true) (some (.tup [ofV v, .b true])) := (rfl)
theorem e_tas {P : Program} {Γ : Env} {ρ : Operand → AV} {m nx n id cx : Nat} {hp : H} {x : Operand} {xt t : TypeId} : eff P Γ (.typeAssert x xt t true) ρ m nx n hp id cx = obind (tasV P t (ρ x)) fun y => some (y, hp, cx) := by
  simp only [eff, cls, pureOp, tasV]
  generalize ρ x = y
  cases y <;> first | rfl | (rename_i v; cases v <;> rfl)
theorem ofv_nif : ofV .nilIface = .v .nilIface := (rfl)
attribute [go_sem] b_neq_if b_eql_if tasV_if e_tas ofv_nif
theorem im4_fn (hp : H) (f xs) : immF 4 hp (.fn f xs) = obind (immL (immF 3 hp) xs) fun l => some (.fn f l) := (rfl)
theorem im3_fn (hp : H) (f xs) : immF 3 hp (.fn f xs) = obind (immL (immF 2 hp) xs) fun l => some (.fn f l) := (rfl)
theorem noOwn_fn (f xs r) : noOwn (.fn f xs :: r) = false := (rfl)
attribute [go_sem] im4_fn im3_fn noOwn_fn
section
variable {P : Program} {GL : Nat → Option (List AV)}

end

def ppG (g : List AV → Option (Option AV)) (args : List AV) : Option AV := obind (g args) fun o => o
def ppR (hp : H) (nx : Nat) : Option AV → Option (H × Nat)
  | some _ => none
  | none => some (hp, nx)
def ppP (g : List AV → Option (Option AV)) (args : List AV) (hp : H) (nx : Nat) : Option (H × Nat) := obind (g args) (ppR hp nx)
theorem ppG_eq (g : List AV → Option (Option AV)) (args : List AV) : ppG g args = obind (g args) fun o => o := (rfl)
theorem ppP_eq (g : List AV → Option (Option AV)) (args : List AV) (hp : H) (nx : Nat) : ppP g args hp nx = obind (g args) (ppR hp nx) := (rfl)
theorem ppR_n (hp : H) (nx : Nat) : ppR hp nx none = some (hp, nx) := (rfl)
attribute [go_sem] ppG_eq ppP_eq ppR_n
def ppQ (P : Program) (rs : List ResultVar) (ch : List PanicEntry) : Option AV → Exit → S → Prop
  | some r, e, t => pureQ P rs r e t
  | none, .panic c, _ => c = ch
  | none, _, _ => False
theorem ppQ_s (P : Program) (rs : List ResultVar) (ch : List PanicEntry) (r : AV) (e : Exit) (t : S) : ppQ P rs ch (some r) e t = pureQ P rs r e t := (rfl)
attribute [go_sem] ppQ_s
section
variable {P : Program} {GL : Nat → Option (List AV)}
end
end Go.AX

namespace Go.AX
open Go

section
variable {P : Program} {GL : Nat → Option (List AV)}

end
end Go.AX

namespace Go.AX
open Go

section
variable {P : Program} {Γ : Env} {c : Ctx} {σ0 : Nat → Loc} {I0 : Nat → Prop} {w0 : World} {md : Nat → Nat} {ops : Array Oper}

end

def stepI (P : Program) (Γ : Env) (GL : Nat → Option (List AV)) (m n k : Nat) (s : S) : Option LOp → Option S
  | some o => stepP P Γ GL m n k o s
  | none => none
theorem stepI_some (P Γ GL m n k s o) : stepI P Γ GL m n k s (some o) = stepP P Γ GL m n k o s := (rfl)
end Go.AX

namespace Go.AX
open Go

def capO (h : FuncId) (g : List AV → Option AV) (id off : Nat) (hp : H) (nx : Nat) : AO → Option (AV × H × Nat)
  | .cells xs _ => obind (g [.fn h [.rp (xs.drop off)]]) fun r => guardO (r.ids = 0) (some (r, upd hp id (.cells xs false), nx))
  | _ => none
/-- A plain function that takes a closure, which has captured one variable, as a function with own objects. -/
def capG (h : FuncId) (g : List AV → Option AV) : List AV → H → Nat → Option (AV × H × Nat)
  | [.fn h' [.op id off]], hp, nx => guardO (h' = h) (obind (hp id) (capO h g id off hp nx))
  | _, _, _ => none
theorem capG_eq (h h' : FuncId) (g : List AV → Option AV) (id off : Nat) (hp : H) (nx : Nat) : capG h g [.fn h' [.op id off]] hp nx = guardO (h' = h) (obind (hp id) (capO h g id off hp nx)) := (rfl)
theorem capO_c (h : FuncId) (g : List AV → Option AV) (id off : Nat) (hp : H) (nx : Nat) (xs : List AV) (mt : Bool) : capO h g id off hp nx (.cells xs mt) = obind (g [.fn h [.rp (xs.drop off)]]) fun r => guardO (r.ids = 0) (some (r, upd hp id (.cells xs false), nx)) := (rfl)
attribute [go_sem] capG_eq capO_c
end Go.AX

namespace Go.AX
open Go

def capO2 (h : FuncId) (g : List AV → Option AV) (x : AV) (id off : Nat) (hp : H) (nx : Nat) : AO → Option (AV × H × Nat)
  | .cells xs _ => obind (g [x, .fn h [.rp (xs.drop off)]]) fun r => guardO (r.ids = 0) (some (r, upd hp id (.cells xs false), nx))
  | _ => none
def capG2 (h : FuncId) (g : List AV → Option AV) : List AV → H → Nat → Option (AV × H × Nat)
  | [x, .fn h' [.op id off]], hp, nx => guardO (h' = h) (obind (hp id) (capO2 h g x id off hp nx))
  | _, _, _ => none
theorem capG2_eq (h h' : FuncId) (g : List AV → Option AV) (x : AV) (id off : Nat) (hp : H) (nx : Nat) : capG2 h g [x, .fn h' [.op id off]] hp nx = guardO (h' = h) (obind (hp id) (capO2 h g x id off hp nx)) := (rfl)
theorem capO2_c (h : FuncId) (g : List AV → Option AV) (x : AV) (id off : Nat) (hp : H) (nx : Nat) (xs : List AV) (mt : Bool) : capO2 h g x id off hp nx (.cells xs mt) = obind (g [x, .fn h [.rp (xs.drop off)]]) fun r => guardO (r.ids = 0) (some (r, upd hp id (.cells xs false), nx)) := (rfl)
attribute [go_sem] capG2_eq capO2_c
end Go.AX

namespace Go.AX
open Go

theorem awp_rp {P : Program} {GL : Nat → Option (List AV)} {nt : Nat} {code : Code} {Q : Exit → S → Prop} {fr : List (Nat × AV)} {hp : H} {nx cx : Nat} (t id off : Nat) {xs : List AV} {mt : Bool} (hn : look fr t = .op id off) (ho : hp id = some (.cells xs mt))
    (h : Awp P GL nt code { fr := (t, .rp (xs.drop off)) :: fr, hp := upd hp id (.cells xs false), nx := nx, cx := cx } Q) : Awp P GL nt code { fr := fr, hp := hp, nx := nx, cx := cx } Q := by
  intro c h1 h2 σ0 I0 w0 a w hR
  refine h c h1 h2 σ0 I0 w0 a w ?_
  obtain ⟨⟨σ, I, a1, a2, a3⟩, b, d, e1, e0⟩ := hR
  have ht := a3 t
  simp only at a1 a3 ht
  rw [hn] at ht
  obtain ⟨I1, b1, b2, b3⟩ := frzArg_sound (x := .op id off) (p := (.rp (xs.drop off), upd hp id (.cells xs false))) (by simp only [frzArg, ho, obind_some]) a1 ht
  have hg : Grow σ I w σ I1 w := ⟨fun _ _ => rfl, b1, fun _ _ => rfl⟩
  refine ⟨⟨σ, I1, b2, a2.trans hg, fun k => ?_⟩, b, d, e1, e0⟩
  simp only [look]
  split
  · rename_i e; subst e; exact b3
  · exact (a3 k).grow hg
/-- The same for a row. -/
theorem awp_sl {P : Program} {GL : Nat → Option (List AV)} {nt : Nat} {code : Code} {Q : Exit → S → Prop} {fr : List (Nat × AV)} {hp : H} {nx cx : Nat} (t id off n e : Nat) {g : Bool} {xs : List AV} {mt : Bool} (hn : look fr t = .os id off n e g) (ho : hp id = some (.cells xs mt)) (hl : off + n * e ≤ xs.length)
    (h : Awp P GL nt code { fr := (t, .sl n ((xs.drop off).take (n * e))) :: fr, hp := upd hp id (.cells xs false), nx := nx, cx := cx } Q) : Awp P GL nt code { fr := fr, hp := hp, nx := nx, cx := cx } Q := by
  intro c h1 h2 σ0 I0 w0 a w hR
  refine h c h1 h2 σ0 I0 w0 a w ?_
  obtain ⟨⟨σ, I, a1, a2, a3⟩, b, d, e1, e0⟩ := hR
  have ht := a3 t
  simp only at a1 a3 ht
  rw [hn] at ht
  obtain ⟨I1, b1, b2, b3⟩ := frzArg_sound (x := .os id off n e g) (p := (.sl n ((xs.drop off).take (n * e)), upd hp id (.cells xs false))) (by simp only [frzArg, ho, obind_some]; rw [guardO_true _ hl]) a1 ht
  have hg : Grow σ I w σ I1 w := ⟨fun _ _ => rfl, b1, fun _ _ => rfl⟩
  refine ⟨⟨σ, I1, b2, a2.trans hg, fun k => ?_⟩, b, d, e1, e0⟩
  simp only [look]
  split
  · rename_i e; subst e; exact b3
  · exact (a3 k).grow hg
end Go.AX

namespace Go.AX
open Go

def okPair (P : Program) (Γ : Env) (md : Nat → Nat) (ops : Array Oper) (c d j i : Nat) : Bool :=
  ((Region.before ops).getD i 0).testBit j || (j == c && i == d) || match ops[j]?, ops[i]? with
    | some y, some x => y.apart ops x && compat j i (dcOf P Γ (md j) y.op) (dcOf P Γ (md i) x.op)
    | _, _ => false
def okPairs (P : Program) (Γ : Env) (md : Nat → Nat) (ops : Array Oper) (c d : Nat) : List Nat → Bool
  | [] => true
  | j :: r => (r.all fun i => okPair P Γ md ops c d j i && j != i) && okPairs P Γ md ops c d r
def okEdges (ops : Array Oper) : Bool := (List.range ops.size).all fun j => match ops[j]? with
  | none => true
  | some y => y.after.all fun e => !Region.binds .any e || decide (e.on < j)
def okL (P : Program) (Γ : Env) (md : Nat → Nat) (ops : Array Oper) (c d : Nat) (l : List Nat) : Bool :=
  okPairs P Γ md ops c d l && ((List.range ops.size).all fun i => l.contains i) && l.all fun i => decide (i < ops.size)

theorem okPairs_pw {P : Program} {Γ : Env} {md : Nat → Nat} {ops : Array Oper} {c d : Nat} : ∀ {l : List Nat}, okPairs P Γ md ops c d l = true → l.Pairwise fun j i => okPair P Γ md ops c d j i = true ∧ j ≠ i
  | [], _ => .nil
  | j :: r, h => by
    simp only [okPairs, Bool.and_eq_true, List.all_eq_true] at h
    refine .cons (fun i hi => ?_) (okPairs_pw h.2)
    have := h.1 i hi
    exact ⟨this.1, by simpa using this.2⟩

section
variable {P : Program} {Γ : Env} {c : Ctx} {σ0 : Nat → Loc} {I0 : Nat → Prop} {w0 : World} {md : Nat → Nat} {ops : Array Oper}

def unlB (listed : Array Bool) (i : Nat) : Bool := !listed.getD i true
theorem unlB_iff {listed : Array Bool} {i : Nat} : unlB listed i = true ↔ listed.getD i true = false := by simp [unlB]
/-- No operation is ready: all have run. -/
theorem noready_of (he : okEdges ops = true) (listed : Array Bool) (hsz : listed.size = ops.size) (hr : Region.ready .any ops listed = []) : ∀ i, i < ops.size → listed.getD i true = true := by
  intro i
  induction i using Nat.strongRecOn with
  | _ i ih =>
    intro hlt
    cases hun : listed.getD i true with
    | true => rfl
    | false =>
      have : i ∈ Region.ready .any ops listed := by
        rw [mem_ready]
        refine ⟨hun, ops[i], Array.getElem?_eq_getElem hlt, fun e he' hb => ?_⟩
        have h1 := List.all_eq_true.1 he i (List.mem_range.2 hlt)
        simp only [Array.getElem?_eq_getElem hlt] at h1
        have h2 := Array.all_eq_true_iff_forall_mem.1 h1 e he'
        have hlt' : e.on < i := by simpa [hb] using h2
        have h3 := ih e.on hlt' (by omega)
        have hs2 : e.on < listed.size := by omega
        rw [Array.getD_eq_getD_getElem?, Array.getElem?_eq_getElem hs2] at h3 ⊢
        exact h3
      rw [hr] at this; cases this
/-- What is listed is closed under what must run before. -/
def Closed (ops : Array Oper) (listed : Array Bool) : Prop := ∀ m o, listed.getD m false = true → ops[m]? = some o → ∀ e ∈ o.after, Region.binds .any e = true → listed.getD e.on false = true
theorem anc_listed {listed : Array Bool} (hdc : Closed ops listed) {m j : Nat} (ha : Anc ops m j) (h : ∀ o, ops[m]? = some o → ∀ e ∈ o.after, Region.binds .any e = true → listed.getD e.on false = true) : listed.getD j false = true := by
  induction ha with
  | edge ho he hb => exact h _ ho _ he hb
  | step ho he hb _ ih2 => exact ih2 fun o ho' e' he' hb' => hdc _ o (h _ ho _ he hb) ho' e' he' hb'
theorem Closed.set {listed : Array Bool} (hdc : Closed ops listed) {i : Nat} {x : Oper} (hx : ops[i]? = some x) (hall : ∀ e ∈ x.after, Region.binds .any e = true → listed.getD e.on false = true) : Closed ops (listed.setIfInBounds i true) := by
  intro m o hm ho e he hb
  by_cases hmi : m = i
  · subst hmi
    rw [hx] at ho; obtain rfl := Option.some.inj ho
    exact getD_set_true (hall e he hb)
  · rw [getD_set_ne false (Ne.symm hmi)] at hm
    exact getD_set_true (hdc m o hm ho e he hb)

/-- One of the ready operations is taken out of an order. -/
theorem cand_step {l : List Nat} {a0 b0 : Nat} (hl : okL P Γ md ops a0 b0 l = true) {listed : Array Bool} (hsz : listed.size = ops.size) (hdc : Closed ops listed) {i : Nat} (hi : i ∈ Region.ready .any ops listed) (hab : listed.getD a0 true = true ∨ i ≠ b0) {s sf : S}
    (hrun : runIx P Γ c.GL md ops (l.filter (unlB listed)) s = some sf) : ∃ x s1 sf1, ops[i]? = some x ∧ stepO P Γ c.GL md ops i x s = some s1 ∧ runIx P Γ c.GL md ops (l.filter (unlB (listed.setIfInBounds i true))) s1 = some sf1 ∧ Seqv sf sf1 := by
  obtain ⟨hun, x, hx, hall⟩ := mem_ready.1 hi
  have hlt := (Array.getElem?_eq_some_iff.1 hx).1
  simp only [okL, Bool.and_eq_true, List.all_eq_true] at hl
  obtain ⟨⟨h1, h2⟩, h3⟩ := hl
  have hpw := (okPairs_pw h1).filter (unlB listed)
  have hmem : i ∈ l.filter (unlB listed) := List.mem_filter.2 ⟨by simpa using h2 i (List.mem_range.2 hlt), unlB_iff.2 hun⟩
  obtain ⟨p, q, hpq⟩ := List.append_of_mem hmem
  rw [hpq] at hpw hrun
  have hpi := fun j (hj : j ∈ p) => (List.pairwise_append.1 hpw).2.2 j hj i (by simp)
  have hiq := fun j (hj : j ∈ q) => (List.pairwise_cons.1 (List.pairwise_append.1 hpw).2.1).1 j hj
  obtain ⟨s1, sf1, f1, f2, f3⟩ := forward hx p q (fun j hj => by
    obtain ⟨g1, g2⟩ := hpi j hj
    have hjm : j ∈ l.filter (unlB listed) := by rw [hpq]; simp [hj]
    have hjun := unlB_iff.1 (List.mem_filter.1 hjm).2
    have hjlt : j < ops.size := by simpa using h3 j (List.mem_filter.1 hjm).1
    refine ⟨g2, ops[j], Array.getElem?_eq_getElem hjlt, ?_⟩
    simp only [okPair, Bool.or_eq_true, Bool.and_eq_true, beq_iff_eq, Array.getElem?_eq_getElem hjlt, hx] at g1
    rcases g1 with (g1 | ⟨rfl, rfl⟩) | g1
    · have := anc_listed hdc (before_anc ops i j g1) (fun o ho e he hb => by rw [hx] at ho; obtain rfl := Option.some.inj ho; exact hall e he hb)
      have hs2 : j < listed.size := by omega
      rw [Array.getD_eq_getD_getElem?, Array.getElem?_eq_getElem hs2] at hjun this
      simp only [Option.getD_some] at hjun this
      rw [hjun] at this; cases this
    · rcases hab with h | h
      · rw [h] at hjun; cases hjun
      · exact absurd rfl h
    · exact g1) hrun
  refine ⟨x, s1, sf1, hx, f1, ?_, f3⟩
  have hnew : l.filter (unlB (listed.setIfInBounds i true)) = p ++ q := by
    have e1 : l.filter (unlB (listed.setIfInBounds i true)) = (l.filter (unlB listed)).filter (fun k => k != i) := by
      rw [List.filter_filter]
      refine List.filter_congr fun k hk => ?_
      by_cases hki : k = i
      · subst hki
        unfold unlB
        rw [Array.getD_eq_getD_getElem?, Array.getElem?_setIfInBounds_self_of_lt (by omega)]; simp
      · unfold unlB
        rw [getD_set_ne true (Ne.symm hki)]
        simp [hki]
    rw [e1, hpq, List.filter_append, List.filter_cons]
    simp only [bne_self_eq_false, Bool.false_eq_true, if_false]
    congr 1
    · exact List.filter_eq_self.2 fun k hk => by simpa using (hpi k hk).2
    · exact List.filter_eq_self.2 fun k hk => by simpa using (hiq k hk).2.symm
  rw [hnew]; exact f2

theorem cand_done {l : List Nat} {a0 b0 : Nat} (hl : okL P Γ md ops a0 b0 l = true) {listed : Array Bool} (hall : ∀ i, i < ops.size → listed.getD i true = true) : l.filter (unlB listed) = [] := by
  simp only [okL, Bool.and_eq_true, List.all_eq_true] at hl
  refine List.filter_eq_nil_iff.2 fun j hj => ?_
  have := hall j (by simpa using hl.2 j hj)
  simp [unlB, this]

theorem drawn1_sound (hΓ : EnvOK P c.GL Γ) {Q : Exit → Act → World → Prop} (hdst : okDst c.nt ops.toList = true) (he : okEdges ops = true) {l : List Nat} {a0 b0 : Nat} (hl : okL P Γ md ops a0 b0 l = true) {s' : S}
    (hQ : ∀ a' w', R c σ0 I0 w0 (fun _ => False) s' a' w' → Q .normal a' w') :
    ∀ (fuel : Nat) (listed : Array Bool) (s sf : S) (a : Act) (w : World), listed.size = ops.size → listed.getD a0 true = true → (unl ops.size listed).length ≤ fuel → Closed ops listed →
      runIx P Γ c.GL md ops (l.filter (unlB listed)) s = some sf → Seqv s' sf → R c σ0 I0 w0 (fun k => k ∈ unl ops.size listed) s a w → wpAny P .any ops Q fuel listed a w := by
  have fin : ∀ (listed : Array Bool) (s sf : S) (a : Act) (w : World), listed.size = ops.size → Region.ready .any ops listed = [] → runIx P Γ c.GL md ops (l.filter (unlB listed)) s = some sf → Seqv s' sf → R c σ0 I0 w0 (fun k => k ∈ unl ops.size listed) s a w → Q .normal a w := by
    intro listed s sf a w hsz hr hrun heq hR
    rw [cand_done hl (noready_of he listed hsz hr)] at hrun
    obtain rfl := Option.some.inj hrun
    exact hQ _ _ ((hR.un fun k hk => hk.elim).eqv heq.symm)
  intro fuel
  induction fuel with
  | zero =>
    intro listed s sf a w hsz ha0 hlen hdc hrun heq hR
    have hun0 : unl ops.size listed = [] := List.eq_nil_of_length_eq_zero (by omega)
    have hr : Region.ready .any ops listed = [] := by
      refine List.eq_nil_iff_forall_not_mem.2 fun i hi => ?_
      obtain ⟨h1, o, ho, _⟩ := mem_ready.1 hi
      have : i ∈ unl ops.size listed := by unfold unl; rw [List.mem_filter, List.mem_range]; exact ⟨(Array.getElem?_eq_some_iff.1 ho).1, by rw [h1]; rfl⟩
      rw [hun0] at this; cases this
    exact ⟨hr, fin listed s sf a w hsz hr hrun heq hR⟩
  | succ fuel ih =>
    intro listed s sf a w hsz ha0 hlen hdc hrun heq hR
    refine ⟨fun hr => fin listed s sf a w hsz hr hrun heq hR, fun i hi => ?_⟩
    obtain ⟨x, s1, sf1, hx, f1, f2, f3⟩ := cand_step hl hsz hdc hi (.inl ha0) hrun
    obtain ⟨hun, x', hx', hall⟩ := mem_ready.1 hi
    rw [hx] at hx'; obtain rfl := Option.some.inj hx'
    have hlt := (Array.getElem?_eq_some_iff.1 hx).1
    have hmem : i ∈ unl ops.size listed := by unfold unl; rw [List.mem_filter, List.mem_range]; exact ⟨hlt, by rw [hun]; rfl⟩
    have hsub : ∀ k, k ∈ unl ops.size (listed.setIfInBounds i true) → k ∈ unl ops.size listed ∧ k ≠ i := by
      intro k hk
      simp only [unl, List.mem_filter, List.mem_range] at hk ⊢
      by_cases hki : k = i
      · subst hki
        rw [Array.getD_eq_getD_getElem?, Array.getElem?_setIfInBounds_self_of_lt (by omega)] at hk
        simp at hk
      · rw [getD_set_ne true (Ne.symm hki)] at hk
        exact ⟨hk, hki⟩
    have hlen2 : (unl ops.size (listed.setIfInBounds i true)).length < (unl ops.size listed).length := by
      have e0 : unl ops.size (listed.setIfInBounds i true) = (unl ops.size listed).filter (fun k => k != i) := by
        unfold unl
        rw [List.filter_filter]
        refine List.filter_congr fun k hk => ?_
        by_cases hki : k = i
        · subst hki
          rw [Array.getD_eq_getD_getElem?, Array.getElem?_setIfInBounds_self_of_lt (by omega)]; simp
        · rw [getD_set_ne true (Ne.symm hki)]
          simp [hki]
      rw [e0]
      refine Nat.lt_of_le_of_ne (List.length_filter_le _ _) fun e => ?_
      have := List.length_filter_eq_length_iff.1 e i hmem
      simp at this
    have ha1 : (listed.setIfInBounds i true).getD a0 true = true := by
      by_cases hai : a0 = i
      · subst hai; rw [Array.getD_eq_getD_getElem?, Array.getElem?_setIfInBounds_self_of_lt (by omega)]; rfl
      · rw [getD_set_ne true (Ne.symm hai)]; exact ha0
    have hstep := step_sound (K := wpAny P .any ops Q fuel (listed.setIfInBounds i true)) (Q := Q) (ops := ops) hΓ f1 (okDst_mem hdst (Array.mem_toList_iff.2 (Array.mem_of_getElem? hx))) (rem := fun k => k ∈ unl ops.size listed) hmem hR (fun a' w' hR' =>
      ih (listed.setIfInBounds i true) s1 sf1 a' w' (by simpa using hsz) ha1 (by omega) (hdc.set hx hall) f2 (heq.trans f3) (hR'.un fun k hk => hsub k hk))
    unfold wpOp
    simp only [hx]
    split
    · rename_i hw; rw [if_pos hw] at hstep; exact .inl hstep
    · rename_i hw; rw [if_neg hw] at hstep; exact hstep

theorem drawn2_sound (hΓ : EnvOK P c.GL Γ) {Q : Exit → Act → World → Prop} (hdst : okDst c.nt ops.toList = true) (he : okEdges ops = true) {l1 l2 : List Nat} {a0 b0 : Nat} (hne : a0 ≠ b0) (hl1 : okL P Γ md ops a0 b0 l1 = true) (hl2 : okL P Γ md ops b0 a0 l2 = true) {s1' s2' : S}
    (hQ1 : ∀ a' w', R c σ0 I0 w0 (fun _ => False) s1' a' w' → Q .normal a' w') (hQ2 : ∀ a' w', R c σ0 I0 w0 (fun _ => False) s2' a' w' → Q .normal a' w') :
    ∀ (fuel : Nat) (listed : Array Bool) (s sf1 sf2 : S) (a : Act) (w : World), listed.size = ops.size → (unl ops.size listed).length ≤ fuel → Closed ops listed →
      runIx P Γ c.GL md ops (l1.filter (unlB listed)) s = some sf1 → Seqv s1' sf1 → runIx P Γ c.GL md ops (l2.filter (unlB listed)) s = some sf2 → Seqv s2' sf2 → R c σ0 I0 w0 (fun k => k ∈ unl ops.size listed) s a w → wpAny P .any ops Q fuel listed a w := by
  have fin : ∀ (listed : Array Bool) (s sf : S) (a : Act) (w : World), listed.size = ops.size → Region.ready .any ops listed = [] → runIx P Γ c.GL md ops (l1.filter (unlB listed)) s = some sf → Seqv s1' sf → R c σ0 I0 w0 (fun k => k ∈ unl ops.size listed) s a w → Q .normal a w := by
    intro listed s sf a w hsz hr hrun heq hR
    rw [cand_done hl1 (noready_of he listed hsz hr)] at hrun
    obtain rfl := Option.some.inj hrun
    exact hQ1 _ _ ((hR.un fun k hk => hk.elim).eqv heq.symm)
  intro fuel
  induction fuel with
  | zero =>
    intro listed s sf1 sf2 a w hsz hlen hdc hrun heq _ _ hR
    have hun0 : unl ops.size listed = [] := List.eq_nil_of_length_eq_zero (by omega)
    have hr : Region.ready .any ops listed = [] := by
      refine List.eq_nil_iff_forall_not_mem.2 fun i hi => ?_
      obtain ⟨h1, o, ho, _⟩ := mem_ready.1 hi
      have : i ∈ unl ops.size listed := by unfold unl; rw [List.mem_filter, List.mem_range]; exact ⟨(Array.getElem?_eq_some_iff.1 ho).1, by rw [h1]; rfl⟩
      rw [hun0] at this; cases this
    exact ⟨hr, fin listed s sf1 a w hsz hr hrun heq hR⟩
  | succ fuel ih =>
    intro listed s sf1 sf2 a w hsz hlen hdc hrun1 heq1 hrun2 heq2 hR
    refine ⟨fun hr => fin listed s sf1 a w hsz hr hrun1 heq1 hR, fun i hi => ?_⟩
    obtain ⟨hun, x, hx, hall⟩ := mem_ready.1 hi
    have hlt := (Array.getElem?_eq_some_iff.1 hx).1
    have hmem : i ∈ unl ops.size listed := by unfold unl; rw [List.mem_filter, List.mem_range]; exact ⟨hlt, by rw [hun]; rfl⟩
    have hsub : ∀ k, k ∈ unl ops.size (listed.setIfInBounds i true) → k ∈ unl ops.size listed ∧ k ≠ i := by
      intro k hk
      simp only [unl, List.mem_filter, List.mem_range] at hk ⊢
      by_cases hki : k = i
      · subst hki
        rw [Array.getD_eq_getD_getElem?, Array.getElem?_setIfInBounds_self_of_lt (by omega)] at hk
        simp at hk
      · rw [getD_set_ne true (Ne.symm hki)] at hk
        exact ⟨hk, hki⟩
    have hlen2 : (unl ops.size (listed.setIfInBounds i true)).length < (unl ops.size listed).length := by
      have e0 : unl ops.size (listed.setIfInBounds i true) = (unl ops.size listed).filter (fun k => k != i) := by
        unfold unl
        rw [List.filter_filter]
        refine List.filter_congr fun k hk => ?_
        by_cases hki : k = i
        · subst hki
          rw [Array.getD_eq_getD_getElem?, Array.getElem?_setIfInBounds_self_of_lt (by omega)]; simp
        · rw [getD_set_ne true (Ne.symm hki)]
          simp [hki]
      rw [e0]
      refine Nat.lt_of_le_of_ne (List.length_filter_le _ _) fun e => ?_
      have := List.length_filter_eq_length_iff.1 e i hmem
      simp at this
    have hset : (listed.setIfInBounds i true).getD i true = true := by rw [Array.getD_eq_getD_getElem?, Array.getElem?_setIfInBounds_self_of_lt (by omega)]; rfl
    have go : ∀ (s1 : S), stepO P Γ c.GL md ops i x s = some s1 → (∀ a' w', R c σ0 I0 w0 (fun k => k ∈ unl ops.size (listed.setIfInBounds i true)) s1 a' w' → wpAny P .any ops Q fuel (listed.setIfInBounds i true) a' w') → wpOp P ops Q i (wpAny P .any ops Q fuel (listed.setIfInBounds i true)) a w := by
      intro s1 f1 hk
      have hstep := step_sound (K := wpAny P .any ops Q fuel (listed.setIfInBounds i true)) (Q := Q) (ops := ops) hΓ f1 (okDst_mem hdst (Array.mem_toList_iff.2 (Array.mem_of_getElem? hx))) (rem := fun k => k ∈ unl ops.size listed) hmem hR (fun a' w' hR' => hk a' w' (hR'.un fun k hk => hsub k hk))
      unfold wpOp
      simp only [hx]
      split
      · rename_i hw; rw [if_pos hw] at hstep; exact .inl hstep
      · rename_i hw; rw [if_neg hw] at hstep; exact hstep
    by_cases hib : i = b0
    · obtain ⟨x', s1, sf', hx', f1, f2, f3⟩ := cand_step hl2 hsz hdc hi (.inr (fun e => hne (e.symm.trans hib))) hrun2
      rw [hx] at hx'; obtain rfl := Option.some.inj hx'
      exact go s1 f1 fun a' w' hR' => drawn1_sound hΓ hdst he hl2 hQ2 fuel _ s1 sf' a' w' (by simpa using hsz) (by rw [← hib]; exact hset) (by omega) (hdc.set hx hall) f2 (heq2.trans f3) hR'
    · by_cases hia : i = a0
      · obtain ⟨x', s1, sf', hx', f1, f2, f3⟩ := cand_step hl1 hsz hdc hi (.inr hib) hrun1
        rw [hx] at hx'; obtain rfl := Option.some.inj hx'
        exact go s1 f1 fun a' w' hR' => drawn1_sound hΓ hdst he hl1 hQ1 fuel _ s1 sf' a' w' (by simpa using hsz) (by rw [← hia]; exact hset) (by omega) (hdc.set hx hall) f2 (heq1.trans f3) hR'
      · obtain ⟨x1, s1, sfa, hx1, f1, f2, f3⟩ := cand_step hl1 hsz hdc hi (.inr hib) hrun1
        obtain ⟨x2, s2, sfb, hx2, g1, g2, g3⟩ := cand_step hl2 hsz hdc hi (.inr hia) hrun2
        rw [hx] at hx1 hx2; obtain rfl := Option.some.inj hx1; obtain rfl := Option.some.inj hx2
        rw [f1] at g1; obtain rfl := Option.some.inj g1
        exact go s1 f1 fun a' w' hR' => ih (listed.setIfInBounds i true) s1 sfa sfb a' w' (by simpa using hsz) (by omega) (hdc.set hx hall) f2 (heq1.trans f3) g2 (heq2.trans g3) hR'
end

def ok2 (P : Program) (Γ : Env) (md : Nat → Nat) (a0 b0 : Nat) (l1 l2 : List Nat) (c : Code) : Bool := okEdges (rOps c) && okL P Γ md (rOps c) a0 b0 l1 && okL P Γ md (rOps c) b0 a0 l2
def runM (P : Program) (Γ : Env) (GL : Nat → Option (List AV)) (md : Nat → Nat) (n : Nat) (ls : List LOp) : List Nat → S → Option S
  | [], s => some s
  | i :: r, s => obind (stepI P Γ GL (md i) n i s ls[i]?) fun s' => runM P Γ GL md n ls r s'
@[congr] theorem runM_congr {P : Program} {Γ : Env} {GL : Nat → Option (List AV)} {md : Nat → Nat} {n : Nat} {ls : List LOp} {l : List Nat} {s s' : S} (h : s = s') : runM P Γ GL md n ls l s = runM P Γ GL md n ls l s' := by rw [h]
theorem runM_nil (P Γ GL md n ls s) : runM P Γ GL md n ls [] s = some s := (rfl)
theorem runM_cons (P Γ GL md n ls i r s) : runM P Γ GL md n ls (i :: r) s = obind (stepI P Γ GL (md i) n i s ls[i]?) fun s' => runM P Γ GL md n ls r s' := (rfl)

theorem awp_dr2 {P : Program} {GL : Nat → Option (List AV)} {nt : Nat} {Q : Exit → S → Prop} {s : S} {code : Code} {Γ : Env} (a0 b0 : Nat) (l1 l2 : List Nat) (md : Nat → Nat) (ks : List Nat) (hm : P.follows .mixedOrders = true) (hΓ : EnvOK P GL Γ) (hne : a0 ≠ b0) (hc : isReg code = true) (hd : rDraw code = true) (ho : okDst nt (rOps code).toList = true) (hk : ok2 P Γ md a0 b0 l1 l2 code = true)
    (h1 : ∀ K : S → Prop, (∀ t, Q .normal t → K t) → someP (runM P Γ GL md (rN code) (lights code) l1 (enterR (rN code) s)) fun t => K { t with fr := keepF ks t.fr })
    (h2 : ∀ K : S → Prop, (∀ t, Q .normal t → K t) → someP (runM P Γ GL md (rN code) (lights code) l2 (enterR (rN code) s)) fun t => K { t with fr := keepF ks t.fr }) : Awp P GL nt code s Q := by
  replace h1 := h1 (Q .normal) fun _ h => h
  replace h2 := h2 (Q .normal) fun _ h => h
  refine Q_keep ?_
  cases code <;> first | (cases hc; done) | skip
  rename_i id ops d
  simp only [rDraw] at hd
  subst hd
  intro c g1 g2 σ0 I0 w0 a w hR
  subst g1; subst g2
  simp only [rOps, ok2, Bool.and_eq_true] at ho hk
  have h0 : unl ops.size (Array.replicate ops.size false) = List.range ops.size := by
    unfold unl
    refine List.filter_eq_self.2 fun k hk => ?_
    rw [List.mem_range] at hk
    rw [Array.getD_eq_getD_getElem?, Array.getElem?_replicate, if_pos hk]; rfl
  have hf : ∀ {x y : Nat} {l : List Nat}, okL P Γ md ops x y l = true → l.filter (unlB (Array.replicate ops.size false)) = l := by
    intro x y l hl
    simp only [okL, Bool.and_eq_true, List.all_eq_true] at hl
    refine List.filter_eq_self.2 fun j hj => unlB_iff.2 ?_
    have : j < ops.size := by simpa using hl.2 j hj
    rw [Array.getD_eq_getD_getElem?, Array.getElem?_replicate, if_pos this]; rfl
  have hrun : ∀ (l : List Nat) (s : S), runM P Γ c.GL md (rN (.region id ops true)) (lights (.region id ops true)) l s = runIx P Γ c.GL md ops l s := by
    intro l
    induction l with
    | nil => intro s; rfl
    | cons i r ih =>
      intro s
      have hl : (lights (.region id ops true))[i]? = (ops[i]?).map (light ops) := by simp only [lights, rOps, List.getElem?_map, Array.getElem?_toList]
      simp only [runM, runIx, hl]
      cases ops[i]? with
      | none => rfl
      | some o =>
        simp only [Option.map_some, stepI, step_eq]
        congr 1
        funext s'
        exact ih s'
  obtain ⟨t1, e1, e2⟩ := someP_inv h1
  obtain ⟨t2, f1, f2⟩ := someP_inv h2
  rw [hrun] at e1 f1
  refine wp_region_any hm (drawn2_sound (σ0 := σ0) (I0 := I0) (w0 := w0) (md := md) (s1' := t1) (s2' := t2) hΓ ho hk.1.1 hne hk.1.2 hk.2 (fun a' w' hR' => ⟨t1, ⟨_, e2, sub_keep ks t1, rfl⟩, hR'⟩) (fun a' w' hR' => ⟨t2, ⟨_, f2, sub_keep ks t2, rfl⟩, hR'⟩)
    ops.size _ (enterR ops.size s) t1 t2 a _ (by simp) (by rw [h0]; simp) (fun m o hl => ?_) (by rw [hf hk.1.2]; exact e1) (Seqv.refl _) (by rw [hf hk.2]; exact f1) (Seqv.refl _) ?_)
  · rw [Array.getD_eq_getD_getElem?, Array.getElem?_replicate] at hl; split at hl <;> cases hl
  · exact ((hR.enter ops.size).un fun k hk => by rw [h0] at hk; exact List.mem_range.1 hk).world rfl rfl rfl rfl
end Go.AX

namespace Go.AX
open Go Go.Proofs

section
variable {P : Program} {Γ : Env} {ρ : Operand → AV} {m nx n id cx : Nat} {hp : H}
def lkF (P : Program) (hp : H) (x k : AV) (ok : Bool) : Option TypeDesc → Option AV
  | some (.map kt et) => obind (P.underlying kt) fun d => guardO (keyD d k = true) (obind (zvA P et) fun z => obind (mpOf hp x) fun es => obind (mget k es) fun r => some (lookR z ok r))
  | _ => none
theorem e_lookup {t : TypeId} {x k : Operand} {ok : Bool} : eff P Γ (.lookup t x k ok) ρ m nx n hp id cx = obind (lkF P (hsel m nx n hp) (ρ x) (ρ k) ok (P.underlying t)) fun y => some (y, hp, cx) := by
  simp only [eff, cls, readOp, lookA]
  cases P.underlying t with
  | none => rfl
  | some d => cases d <;> rfl
theorem lkF_m {x k : AV} {ok : Bool} (kt et : TypeId) : lkF P hp x k ok (some (.map kt et)) = obind (P.underlying kt) fun d => guardO (keyD d k = true) (obind (zvA P et) fun z => obind (mpOf hp x) fun es => obind (mget k es) fun r => some (lookR z ok r)) := (rfl)
def muM (hp : H) (m k x : AV) : Option (AV × H) :=
  match m with
  | .mp id => obind (frz1 hp x) fun fx => obind (fx.2 id) (mapO k fx.1 id fx.2)
  | _ => none
def muF (P : Program) (hp : H) (m k x : AV) : Option TypeDesc → Option (AV × H)
  | some (.map kt _) => obind (P.underlying kt) fun d => guardO (keyD d k = true) (muM hp m k x)
  | _ => none
theorem e_mup {t : TypeId} {a k x : Operand} : eff P Γ (.mapUpdate t a k x) ρ m nx n hp id cx = obind (muF P hp (ρ a) (ρ k) (ρ x) (P.underlying t)) fun p => some (p.1, p.2, cx) := by
  simp only [eff, cls, writeOp, mapUp]
  cases P.underlying t with
  | none => rfl
  | some d => cases d <;> first | rfl | (simp only [muF, muM]; cases ρ a <;> rfl)
theorem e_mins {t : TypeId} {a k x : Operand} : eff P Γ (.insert t a k x) ρ m nx n hp id cx = obind (muF P hp (ρ a) (ρ k) (ρ x) (P.underlying t)) fun p => some (p.1, p.2, cx) := by
  simp only [eff, cls, writeOp, mapUp]
  cases P.underlying t with
  | none => rfl
  | some d => cases d <;> first | rfl | (simp only [muF, muM]; cases ρ a <;> rfl)
theorem muF_m {a k x : AV} (kt et : TypeId) : muF P hp a k x (some (.map kt et)) = obind (P.underlying kt) fun d => guardO (keyD d k = true) (muM hp a k x) := (rfl)
theorem muM_mp {k x : AV} (i : Nat) : muM hp (.mp i) k x = obind (frz1 hp x) fun fx => obind (fx.2 i) (mapO k fx.1 i fx.2) := (rfl)
theorem mapO_m {k x : AV} (i : Nat) (es : List (AV × AV)) (mt : Bool) : mapO k x i hp (.mapo es mt) = guardO (mt = true) (obind (mput k x es) fun es' => some (.junk, upd hp i (.mapo es' true))) := (rfl)
theorem e_mkmap {t : TypeId} : eff P Γ (.makeMap t none) ρ m nx n hp id cx = some (.mp id, upd hp id (.mapo [] true), cx) := (rfl)
def dlM (hp : H) (m k : AV) : Option (AV × H) :=
  match m with
  | .mp id => obind (hp id) (delO k id hp)
  | _ => none
def dlF (P : Program) (hp : H) (m k : AV) : Option TypeDesc → Option (AV × H)
  | some (.map kt _) => obind (P.underlying kt) fun d => guardO (keyD d k = true) (dlM hp m k)
  | _ => none
theorem ea_delete {x k : Operand} {t t2 : TypeId} : eff P Γ (.call { callee := .builtin .delete, args := #[x, k], argTypes := #[t, t2] }) ρ m nx n hp id cx = obind (dlF P hp (ρ x) (ρ k) (P.underlying t)) fun p => some (p.1, p.2, cx) := by
  simp only [eff, cls, writeOp, delA]
  cases P.underlying t with
  | none => rfl
  | some d => cases d <;> first | rfl | (simp only [dlF, dlM]; cases ρ x <;> rfl)
theorem dlF_m {a k : AV} (kt et : TypeId) : dlF P hp a k (some (.map kt et)) = obind (P.underlying kt) fun d => guardO (keyD d k = true) (dlM hp a k) := (rfl)
theorem dlM_mp {k : AV} (i : Nat) : dlM hp (.mp i) k = obind (hp i) (delO k i hp) := (rfl)
theorem delO_m {k : AV} (i : Nat) (es : List (AV × AV)) (mt : Bool) : delO k i hp (.mapo es mt) = guardO (mt = true) (obind (mdel k es) fun es' => some (.tup [], upd hp i (.mapo es' true))) := (rfl)
def fm1O (hp : H) (i off n e : Nat) : AO → Option (AV × H)
  | .cells xs _ => guardO (off + n * e ≤ xs.length) (some (.sl n ((xs.drop off).take (n * e)), upd hp i (.cells xs false)))
  | _ => none
theorem fm_os (i off n e g) : frz1 hp (.os i off n e g) = obind (hp i) (fm1O hp i off n e) := by
  simp only [frz1]; congr 1
theorem fm1O_c (i off n e xs mt) : fm1O hp i off n e (.cells xs mt) = guardO (off + n * e ≤ xs.length) (some (.sl n ((xs.drop off).take (n * e)), upd hp i (.cells xs false))) := (rfl)
theorem fm_nil : frz1 hp (.v (.slice none 0 0)) = some (.sl 0 [], hp) := (rfl)
theorem fm_w8 (x) : frz1 hp (.w8 x) = some (.w8 x, hp) := (rfl)
theorem fm_w16 (x) : frz1 hp (.w16 x) = some (.w16 x, hp) := (rfl)
theorem fm_w32 (x) : frz1 hp (.w32 x) = some (.w32 x, hp) := (rfl)
theorem fm_w64 (x) : frz1 hp (.w64 x) = some (.w64 x, hp) := (rfl)
theorem fm_i (x) : frz1 hp (.i x) = some (.i x, hp) := (rfl)
theorem fm_b (x) : frz1 hp (.b x) = some (.b x, hp) := (rfl)
theorem fm_s (x) : frz1 hp (.s x) = some (.s x, hp) := (rfl)
theorem fm_agg (x) : frz1 hp (.agg x) = some (.agg x, hp) := (rfl)
theorem fm_sl (n x) : frz1 hp (.sl n x) = some (.sl n x, hp) := (rfl)
theorem fm_rp (x) : frz1 hp (.rp x) = some (.rp x, hp) := (rfl)
theorem fm_op (i o) : frz1 hp (.op i o) = some (.op i o, hp) := (rfl)
theorem fm_mp (i) : frz1 hp (.mp i) = some (.mp i, hp) := (rfl)
theorem fm_ptr (p) : frz1 hp (.v (.pointer p)) = some (.v (.pointer p), hp) := (rfl)
theorem kd_i (x) : keyD (.int .i64) (.i x) = true := (rfl)
theorem kd_8 (x) : keyD (.int .u8) (.w8 x) = true := (rfl)
theorem kd_16 (x) : keyD (.int .u16) (.w16 x) = true := (rfl)
theorem kd_32 (x) : keyD (.int .u32) (.w32 x) = true := (rfl)
theorem kd_64 (x) : keyD (.int .u64) (.w64 x) = true := (rfl)
theorem kd_s (x) : keyD .string (.s x) = true := (rfl)
theorem lr_st (z v) : lookR z true (some v) = .tup [v, .b true] := (rfl)
theorem lr_sf (z v) : lookR z false (some v) = v := (rfl)
theorem lr_nt (z) : lookR z true none = .tup [z, .b false] := (rfl)
theorem lr_nf (z) : lookR z false none = z := (rfl)
theorem e_mkf {f : FuncId} {cap : Array Operand} : eff P Γ (.makeFunc (.func f) #[] cap) ρ m nx n hp id cx = some (.fn f (cap.toList.map ρ), hp, cx) := (rfl)
theorem cellsV_mp (i) : cellsV (.mp i) = some [.mp i] := (rfl)
end
attribute [go_sem] e_lookup lkF_m e_mup e_mins muF_m muM_mp mapO_m e_mkmap ea_delete dlF_m dlM_mp delO_m fm_os fm1O_c fm_nil fm_w8 fm_w16 fm_w32 fm_w64 fm_i fm_b fm_s fm_agg fm_sl fm_rp fm_op fm_mp fm_ptr kd_i kd_8 kd_16 kd_32 kd_64 kd_s lr_st lr_sf lr_nt lr_nf cellsV_mp e_mkf
/-! Maps whose entries are a plain list of keys and values. -/
section
variable {α : Type} [DecidableEq α] (kc : α → AV) (hk : ∀ a b, kEq (kc a) (kc b) = some (decide (a = b)))
/-- Where a key stands. -/
def posK (a : α) : List α → Option Nat
  | [] => none
  | b :: r => if a = b then some 0 else (posK a r).map (· + 1)
include hk in
theorem midx_map {β : Type} (vc : β → AV) (a : α) : ∀ l : List (α × β), midx (kc a) (l.map fun p => (kc p.1, vc p.2)) = some (posK a (l.map (·.1)))
  | [] => rfl
  | p :: r => by
    simp only [List.map_cons, midx, posK, hk, obind_some]
    by_cases h : a = p.1
    · simp [h]
    · simp only [h, decide_false, if_false, midx_map vc a r, obind_some]
def getK {β : Type} (a : α) : List (α × β) → Option β
  | [] => none
  | p :: r => if a = p.1 then some p.2 else getK a r
def putK {β : Type} (a : α) (v : β) : List (α × β) → List (α × β)
  | [] => [(a, v)]
  | p :: r => if a = p.1 then (a, v) :: r else p :: putK a v r
def delK {β : Type} (a : α) : List (α × β) → List (α × β)
  | [] => []
  | p :: r => if a = p.1 then r else p :: delK a r
include hk in
theorem mget_map {β : Type} (vc : β → AV) (a : α) (l : List (α × β)) : mget (kc a) (l.map fun p => (kc p.1, vc p.2)) = some ((getK a l).map vc) := by
  unfold mget
  rw [midx_map kc hk, obind_some]
  congr 1
  induction l with
  | nil => rfl
  | cons p r ih =>
    simp only [List.map_cons, posK, getK]
    by_cases h : a = p.1
    · simp [h]
    · simp only [h, if_false]
      rw [← ih]
      cases posK a (r.map (·.1)) <;> simp
include hk in
theorem mput_map {β : Type} (vc : β → AV) (a : α) (v : β) (l : List (α × β)) : mput (kc a) (vc v) (l.map fun p => (kc p.1, vc p.2)) = some ((putK a v l).map fun p => (kc p.1, vc p.2)) := by
  unfold mput
  rw [midx_map kc hk, obind_some]
  congr 1
  induction l with
  | nil => rfl
  | cons p r ih =>
    simp only [List.map_cons, posK, putK]
    by_cases h : a = p.1
    · simp [h]
    · simp only [h, if_false, List.map_cons]
      rw [← ih]
      cases posK a (r.map (·.1)) <;> simp
include hk in
theorem mdel_map {β : Type} (vc : β → AV) (a : α) (l : List (α × β)) : mdel (kc a) (l.map fun p => (kc p.1, vc p.2)) = some ((delK a l).map fun p => (kc p.1, vc p.2)) := by
  unfold mdel
  rw [midx_map kc hk, obind_some]
  congr 1
  induction l with
  | nil => rfl
  | cons p r ih =>
    simp only [List.map_cons, posK, delK]
    by_cases h : a = p.1
    · simp [h]
    · simp only [h, if_false, List.map_cons]
      rw [← ih]
      cases posK a (r.map (·.1)) <;> simp
end
theorem kEq_32 (a b : BitVec 32) : kEq (.w32 a) (.w32 b) = some (decide (a = b)) := (rfl)
end Go.AX
