/-
  AX, part V: rules in the form in which they are used.
-/
import Derived.Test.YtnnkmoaipcdhnaaDoorAxU
namespace Go.AX
open Go

def cl : Code → Code | .seq a _ => a | .block _ a => a | .loop a => a | .cond _ a _ => a | .scope a => a | c => c
def cr : Code → Code | .seq _ b => b | .cond _ _ b => b | c => c
def bodyOf (f : Func) : Code := f.body.getD .skip
def isSeq : Code → Bool | .seq _ _ => true | _ => false
def isReg : Code → Bool | .region _ _ _ => true | _ => false
def rOps : Code → Array Oper | .region _ ops _ => ops | _ => #[]
def rDraw : Code → Bool | .region _ _ d => d | _ => false
def isCond : Code → Bool | .cond _ _ _ => true | _ => false
def cOp : Code → Operand | .cond c _ _ => c | _ => .const undef
def isBlock : Code → Bool | .block _ _ => true | _ => false
def bId : Code → Nat | .block id _ => id | .exit id => id | _ => 0
def isLoop : Code → Bool | .loop _ => true | _ => false
def isExit : Code → Bool | .exit _ => true | _ => false
def isRet : Code → Bool | .ret => true | _ => false
def isSkip : Code → Bool | .skip => true | _ => false

def keepF (ks : List Nat) (fr : List (Nat × AV)) : List (Nat × AV) := ks.map fun k => (k, look fr k)
theorem keepF_nil (fr : List (Nat × AV)) : keepF [] fr = [] := rfl
theorem keepF_cons (k : Nat) (ks : List Nat) (fr : List (Nat × AV)) : keepF (k :: ks) fr = (k, look fr k) :: keepF ks fr := rfl
theorem look_keepF (ks : List Nat) (fr : List (Nat × AV)) (t : Nat) : look (keepF ks fr) t = .junk ∨ look (keepF ks fr) t = look fr t := by
  induction ks with
  | nil => exact .inl rfl
  | cons k ks ih =>
    rw [keepF_cons]
    simp only [look]
    split
    · rename_i e; subst e; exact .inr rfl
    · exact ih

def someP (o : Option S) (Q : S → Prop) : Prop := match o with | some t => Q t | none => False
theorem someP_some (t : S) (Q : S → Prop) : someP (some t) Q = Q t := rfl
theorem someP_inv {o : Option S} {Q : S → Prop} (h : someP o Q) : ∃ t, o = some t ∧ Q t := by
  cases o with
  | none => exact h.elim
  | some t => exact ⟨t, rfl, h⟩

theorem guardO_True {α : Type} (x : Option α) : guardO True x = x := by simp [guardO]

section
variable {P : Program} {GL : Nat → Option (List AV)} {nt : Nat} {Q : Exit → S → Prop} {s : S} {code : Code}

theorem awp_seqP (hc : isSeq code = true) (h : Awp P GL nt (cl code) s (andThenQ P GL nt (cr code) Q)) : Awp P GL nt code s Q := by
  cases code <;> first | (cases hc; done) | exact awp_seq h

theorem Q_keep {code : Code} (h : Awp P GL nt code s fun e t => ∃ u, Q e u ∧ Sub u t ∧ u.nx = t.nx) : Awp P GL nt code s Q := by
  intro c h1 h2 σ0 I0 w0 a w hR
  refine wp_mono (h c h1 h2 σ0 I0 w0 a w hR) ?_
  rintro e a' w' ⟨t, ⟨u, hq, hs, hn⟩, hr⟩
  exact ⟨u, hq, hr.sub hs hn⟩

theorem sub_keep (ks : List Nat) (t : S) : Sub { t with fr := keepF ks t.fr } t := ⟨fun k => look_keepF ks t.fr k, fun _ _ h => h, Nat.le_refl _⟩

theorem awp_reg {Γ : Env} (ks : List Nat) (hc : isReg code = true) (hd : rDraw code = false) (hΓ : EnvOK P GL Γ) (ho : okDst nt (rOps code).toList = true)
    (h : someP (runL P Γ GL (fun _ => 0) (rOps code) 0 (rOps code).toList (enterR (rOps code).size s)) fun t => Q .normal { t with fr := keepF ks t.fr }) : Awp P GL nt code s Q := by
  obtain ⟨t, h1, h2⟩ := someP_inv h
  cases code <;> first | (cases hc; done) | skip
  rename_i id ops d
  simp only [rDraw] at hd
  subst hd
  exact Q_keep (awp_region hΓ ho h1 ⟨_, h2, sub_keep ks t, rfl⟩)

theorem awp_drw {Γ : Env} (md : Nat → Nat) (ks : List Nat) (hm : P.follows .mixedOrders = true) (hc : isReg code = true) (hd : rDraw code = true) (hΓ : EnvOK P GL Γ) (ho : okDst nt (rOps code).toList = true) (hk : okDraw P Γ md (rOps code) = true)
    (h : someP (runL P Γ GL md (rOps code) 0 (rOps code).toList (enterR (rOps code).size s)) fun t => Q .normal { t with fr := keepF ks t.fr }) : Awp P GL nt code s Q := by
  obtain ⟨t, h1, h2⟩ := someP_inv h
  cases code <;> first | (cases hc; done) | skip
  rename_i id ops d
  simp only [rDraw] at hd
  subst hd
  exact Q_keep (awp_draw hm hΓ ho hk h1 ⟨_, h2, sub_keep ks t, rfl⟩)

theorem awp_if {b : Bool} (hc : isCond code = true) (hb : ev GL s.fr (cOp code) = .b b) (ht : b = true → Awp P GL nt (cl code) s Q) (hf : b = false → Awp P GL nt (cr code) s Q) : Awp P GL nt code s Q := by
  cases code <;> first | (cases hc; done) | exact awp_cond hb ht hf

theorem awp_blockP (hc : isBlock code = true) (h : Awp P GL nt (cl code) s (inBlockQ (bId code) Q)) : Awp P GL nt code s Q := by
  cases code <;> first | (cases hc; done) | exact awp_block h

theorem awp_loopP {ι : Type} (st : ι → S) (inv : ι → Prop) (μ : ι → Nat) (hc : isLoop code = true) (h0 : ∃ i, inv i ∧ Sub (st i) s) (hr : ∀ i, inv i → ∀ n, Awp P GL nt (cl code) { st i with nx := n } (loopQ st inv μ i Q)) : Awp P GL nt code s Q := by
  cases code <;> first | (cases hc; done) | exact awp_loop st inv μ h0 hr

theorem awp_exitP (hc : isExit code = true) (h : Q (.exit (bId code)) s) : Awp P GL nt code s Q := by
  cases code <;> first | (cases hc; done) | exact awp_exit h
theorem awp_retP (hc : isRet code = true) (h : Q .ret s) : Awp P GL nt code s Q := by
  cases code <;> first | (cases hc; done) | exact awp_ret h
theorem awp_skipP (hc : isSkip code = true) (h : Q .normal s) : Awp P GL nt code s Q := by
  cases code <;> first | (cases hc; done) | exact awp_skip h

theorem bodyOf_some {fn : Func} (h : fn.body.isSome = true) : fn.body = some (bodyOf fn) := by
  unfold bodyOf; cases hb : fn.body with
  | none => simp [hb] at h
  | some c => rfl

end

def noEnv : Env := fun _ => none
theorem noEnv_ok (P : Program) (GL : Nat → Option (List AV)) : EnvOK P GL noEnv := fun f s h => by cases h

end Go.AX
