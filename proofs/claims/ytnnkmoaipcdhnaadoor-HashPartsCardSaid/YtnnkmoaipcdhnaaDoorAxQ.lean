/-
  AX, part Q: a region that draws its order comes to what the text's order comes to.
-/
import Derived.Test.YtnnkmoaipcdhnaaDoorAxO
namespace Go.AX
open Go

inductive Anc (ops : Array Oper) : Nat → Nat → Prop
  | edge {m : Nat} {o : Oper} {e : Edge} : ops[m]? = some o → e ∈ o.after → Region.binds .any e = true → Anc ops m e.on
  | step {m j : Nat} {o : Oper} {e : Edge} : ops[m]? = some o → e ∈ o.after → Region.binds .any e = true → Anc ops e.on j → Anc ops m j

theorem edges_fold (acc : Array Nat) (j : Nat) : ∀ (l : List Edge) (s : Nat), (l.foldl (fun s e => if Region.binds .any e then s ||| 2 ^ e.on ||| acc.getD e.on 0 else s) s).testBit j = true →
    s.testBit j = true ∨ ∃ e ∈ l, Region.binds .any e = true ∧ (j = e.on ∨ (acc.getD e.on 0).testBit j = true)
  | [], s, h => .inl h
  | e :: r, s, h => by
    simp only [List.foldl_cons] at h
    rcases edges_fold acc j r _ h with h | ⟨e', h1, h2, h3⟩
    · split at h
      · rename_i hb
        rw [Nat.testBit_or, Nat.testBit_or, Bool.or_eq_true, Bool.or_eq_true, Nat.testBit_two_pow] at h
        rcases h with (h | h) | h
        · exact .inl h
        · exact .inr ⟨e, by simp, hb, .inl (by simpa [eq_comm] using h)⟩
        · exact .inr ⟨e, by simp, hb, .inr h⟩
      · exact .inl h
    · exact .inr ⟨e', by simp [h1], h2, h3⟩

theorem before_anc_aux (ops : Array Oper) : ∀ (l pre : List Oper) (acc : Array Nat), ops.toList = pre ++ l → acc.size = pre.length → (∀ m j, (acc.getD m 0).testBit j = true → Anc ops m j) →
    ∀ m j, ((l.foldl (fun acc o => acc.push (o.after.foldl (fun s e => if Region.binds .any e then s ||| 2 ^ e.on ||| acc.getD e.on 0 else s) 0)) acc).getD m 0).testBit j = true → Anc ops m j
  | [], _, _, _, _, h => h
  | o :: r, pre, acc, ho, hs, h => by
    simp only [List.foldl_cons]
    refine before_anc_aux ops r (pre ++ [o]) _ (by simp [ho]) (by simp [hs]) ?_
    intro m j hm
    rw [Array.getD_eq_getD_getElem?, Array.getElem?_push] at hm
    split at hm
    · rename_i e
      subst e
      simp only [Option.getD_some] at hm
      rw [← Array.foldl_toList] at hm
      have hget : ops[acc.size]? = some o := by rw [← Array.getElem?_toList, ho, hs]; simp
      rcases edges_fold acc j o.after.toList 0 hm with hm | ⟨e, h1, h2, h3⟩
      · simp at hm
      · rcases h3 with rfl | h3
        · exact .edge hget (Array.mem_toList_iff.1 h1) h2
        · exact .step hget (Array.mem_toList_iff.1 h1) h2 (h _ _ h3)
    · exact h m j (by rw [Array.getD_eq_getD_getElem?]; exact hm)

theorem before_anc (ops : Array Oper) (m j : Nat) (h : ((Region.before ops).getD m 0).testBit j = true) : Anc ops m j := by
  unfold Region.before at h
  rw [← Array.foldl_toList] at h
  exact before_anc_aux ops ops.toList [] #[] (by simp) rfl (fun m j hm => by simp at hm) m j h

def okDraw (P : Program) (Γ : Env) (md : Nat → Nat) (ops : Array Oper) : Bool :=
  let b := Region.before ops
  (List.range ops.size).all fun j => match ops[j]? with
    | none => true
    | some y => y.after.all (fun e => !Region.binds .any e || decide (e.on < j)) &&
      let bj := b.getD j 0
      (List.range j).all fun i => bj.testBit i || match ops[i]? with
        | none => true
        | some x => x.apart ops y && compat i j (dcOf P Γ (md i) x.op) (dcOf P Γ (md j) y.op)

def runIx (P : Program) (Γ : Env) (GL : Nat → Option (List AV)) (md : Nat → Nat) (ops : Array Oper) : List Nat → S → Option S
  | [], s => some s
  | i :: r, s => match ops[i]? with
    | some o => obind (stepO P Γ GL md ops i o s) fun s' => runIx P Γ GL md ops r s'
    | none => none

section
variable {P : Program} {Γ : Env} {c : Ctx} {σ0 : Nat → Loc} {I0 : Nat → Prop} {w0 : World} {GL : Nat → Option (List AV)} {md : Nat → Nat} {ops : Array Oper}

theorem runIx_eqv : ∀ (l : List Nat) {s t s' : S}, runIx P Γ GL md ops l s = some s' → Seqv s t → ∃ t', runIx P Γ GL md ops l t = some t' ∧ Seqv s' t'
  | [], s, t, s', h, he => by obtain rfl := Option.some.inj h; exact ⟨t, rfl, he⟩
  | i :: r, s, t, s', h, he => by
    simp only [runIx] at h ⊢
    cases ho : ops[i]? with
    | none => simp [ho] at h
    | some o =>
      simp only [ho] at h ⊢
      replace h := obind_inv h; obtain ⟨s1, h1, h⟩ := h
      obtain ⟨t1, e1, e2⟩ := stepO_eqv h1 he
      obtain ⟨t', e3, e4⟩ := runIx_eqv r h e2
      exact ⟨t', by rw [e1, obind_some]; exact e3, e4⟩

theorem runL_runIx : ∀ (l : List Oper) (k : Nat) (s : S), (∀ m, l[m]? = ops[k + m]?) → runL P Γ GL md ops k l s = runIx P Γ GL md ops (List.range' k l.length) s
  | [], k, s, _ => rfl
  | o :: r, k, s, h => by
    have h0 : ops[k]? = some o := by have := (h 0).symm; simpa using this
    simp only [runL, List.length_cons, List.range'_succ, runIx, h0]
    congr 1
    funext s'
    exact runL_runIx r (k + 1) s' (fun m => by have := h (m + 1); simpa [Nat.add_assoc, Nat.add_comm 1 m] using this)

theorem forward {i : Nat} {x : Oper} (hx : ops[i]? = some x) : ∀ (l1 l2 : List Nat) {s sf : S},
    (∀ j ∈ l1, j ≠ i ∧ ∃ y, ops[j]? = some y ∧ y.apart ops x = true ∧ compat j i (dcOf P Γ (md j) y.op) (dcOf P Γ (md i) x.op) = true) →
    runIx P Γ GL md ops (l1 ++ i :: l2) s = some sf → ∃ s1 sf', stepO P Γ GL md ops i x s = some s1 ∧ runIx P Γ GL md ops (l1 ++ l2) s1 = some sf' ∧ Seqv sf sf'
  | [], l2, s, sf, _, h => by
    simp only [List.nil_append, runIx, hx] at h
    replace h := obind_inv h; obtain ⟨s1, h1, h⟩ := h
    exact ⟨s1, sf, h1, h, Seqv.refl _⟩
  | j :: r, l2, s, sf, hl, h => by
    obtain ⟨hji, y, hy, hap, hc⟩ := hl j (by simp)
    simp only [List.cons_append, runIx, hy] at h
    replace h := obind_inv h; obtain ⟨sj, hj, h⟩ := h
    obtain ⟨s2, sf2, e1, e2, e3⟩ := forward hx r l2 (fun k hk => hl k (by simp [hk])) h
    obtain ⟨t1, t2, c1, c2, c3⟩ := step_comm hap hc hji (Array.getElem?_eq_some_iff.1 hy).1 (Array.getElem?_eq_some_iff.1 hx).1 hj e1
    obtain ⟨sf3, g1, g2⟩ := runIx_eqv (r ++ l2) e2 c3
    refine ⟨t1, sf3, c1, ?_, e3.trans g2⟩
    simp only [List.cons_append, runIx, hy]
    rw [c2, obind_some]; exact g1

def unl (n : Nat) (listed : Array Bool) : List Nat := (List.range n).filter fun i => !listed.getD i true

theorem R.eqv {rem : Nat → Prop} {s t : S} {a : Act} {w : World} (h : R c σ0 I0 w0 rem s a w) (he : Seqv s t) : R c σ0 I0 w0 rem t a w := by
  obtain ⟨e1, e2, e3, e4⟩ := he
  obtain ⟨⟨σ, I, a1, a2, a3⟩, b, d, e, e0⟩ := h
  refine ⟨⟨σ, I, ?_, a2, fun k => by rw [← e1 k]; exact a3 k⟩, b, d, ?_, ?_⟩
  · rw [← e2, ← e3, ← e4]; exact a1
  · rw [← e3, ← e4]; exact e
  · rw [← e3, ← e4]; exact e0

theorem drawn_sound (hΓ : EnvOK P c.GL Γ) {Q : Exit → Act → World → Prop} (hdst : okDst c.nt ops.toList = true) (hok : okDraw P Γ md ops = true) {s' : S}
    (hQ : ∀ a' w', R c σ0 I0 w0 (fun _ => False) s' a' w' → Q .normal a' w') :
    ∀ (fuel : Nat) (listed : Array Bool) (s sf : S) (a : Act) (w : World), listed.size = ops.size → (unl ops.size listed).length ≤ fuel →
      (∀ m o, listed.getD m false = true → ops[m]? = some o → ∀ e ∈ o.after, Region.binds .any e = true → listed.getD e.on false = true) →
      runIx P Γ c.GL md ops (unl ops.size listed) s = some sf → Seqv s' sf → R c σ0 I0 w0 (fun k => k ∈ unl ops.size listed) s a w → wpAny P .any ops Q fuel listed a w := by
  have hchk : ∀ j y, ops[j]? = some y → (∀ e ∈ y.after, Region.binds .any e = true → e.on < j) ∧ ∀ i x, i < j → ops[i]? = some x → ((Region.before ops).getD j 0).testBit i = true ∨ (x.apart ops y = true ∧ compat i j (dcOf P Γ (md i) x.op) (dcOf P Γ (md j) y.op) = true) := by
    intro j y hy
    have hlt := (Array.getElem?_eq_some_iff.1 hy).1
    have h := List.all_eq_true.1 hok j (List.mem_range.2 hlt)
    simp only [hy, Bool.and_eq_true] at h
    refine ⟨fun e he hb => ?_, fun i x hi hx => ?_⟩
    · have := Array.all_eq_true_iff_forall_mem.1 h.1 e he
      simpa [hb] using this
    · have := List.all_eq_true.1 h.2 i (List.mem_range.2 hi)
      simp only [hx, Bool.or_eq_true, Bool.and_eq_true] at this
      exact this
  have mem_unl : ∀ (listed : Array Bool) i, i ∈ unl ops.size listed ↔ i < ops.size ∧ listed.getD i true = false := by
    intro listed i; simp [unl]
  have done : ∀ (listed : Array Bool) (s sf : S) (a : Act) (w : World), unl ops.size listed = [] → runIx P Γ c.GL md ops (unl ops.size listed) s = some sf → Seqv s' sf → R c σ0 I0 w0 (fun k => k ∈ unl ops.size listed) s a w → Q .normal a w := by
    intro listed s sf a w h0 hrun heq hR
    rw [h0] at hrun
    obtain rfl := Option.some.inj hrun
    exact hQ _ _ ((hR.un fun k hk => hk.elim).eqv heq.symm)
  have noready : ∀ (listed : Array Bool), listed.size = ops.size → (Region.ready .any ops listed = [] ↔ unl ops.size listed = []) := by
    intro listed hsz
    constructor
    · intro hr
      refine List.eq_nil_iff_forall_not_mem.2 fun i => ?_
      induction i using Nat.strongRecOn with
      | _ i ih =>
        intro hi
        obtain ⟨hlt, hun⟩ := (mem_unl listed i).1 hi
        have : i ∈ Region.ready .any ops listed := by
          rw [mem_ready]
          refine ⟨hun, ops[i], Array.getElem?_eq_getElem hlt, fun e he hb => ?_⟩
          have hlt' := (hchk i _ (Array.getElem?_eq_getElem hlt)).1 e he hb
          have hn := ih e.on hlt'
          rw [mem_unl] at hn
          have hs2 : e.on < listed.size := by omega
          rw [Array.getD_eq_getD_getElem?, Array.getElem?_eq_getElem hs2] at hn ⊢
          simp only [Option.getD_some] at hn ⊢
          cases hv : listed[e.on] with
          | true => rfl
          | false => exact absurd ⟨by omega, hv⟩ hn
        rw [hr] at this; cases this
    · intro h0
      refine List.eq_nil_iff_forall_not_mem.2 fun i hi => ?_
      rw [mem_ready] at hi
      obtain ⟨h1, o, ho, _⟩ := hi
      have : i ∈ unl ops.size listed := (mem_unl listed i).2 ⟨(Array.getElem?_eq_some_iff.1 ho).1, h1⟩
      rw [h0] at this; cases this
  intro fuel
  induction fuel with
  | zero =>
    intro listed s sf a w hsz hlen hdc hrun heq hR
    have h0 : unl ops.size listed = [] := List.eq_nil_of_length_eq_zero (by omega)
    exact ⟨(noready listed hsz).2 h0, done listed s sf a w h0 hrun heq hR⟩
  | succ fuel ih =>
    intro listed s sf a w hsz hlen hdc hrun heq hR
    refine ⟨fun hr => done listed s sf a w ((noready listed hsz).1 hr) hrun heq hR, fun i hi => ?_⟩
    obtain ⟨hun, x, hx, hall⟩ := mem_ready.1 hi
    have hlt := (Array.getElem?_eq_some_iff.1 hx).1
    have hmem : i ∈ unl ops.size listed := (mem_unl listed i).2 ⟨hlt, hun⟩
    have hanc : ∀ m j, Anc ops m j → (∀ o, ops[m]? = some o → ∀ e ∈ o.after, Region.binds .any e = true → listed.getD e.on false = true) → listed.getD j false = true := by
      intro m j ha
      induction ha with
      | edge ho he hb => exact fun h => h _ ho _ he hb
      | step ho he hb _ ih2 => exact fun h => ih2 fun o ho' e' he' hb' => hdc _ o (h _ ho _ he hb) ho' e' he' hb'
    obtain ⟨l1, l2, hl⟩ := List.append_of_mem hmem
    have hpw : (unl ops.size listed).Pairwise (· < ·) := List.Pairwise.filter _ List.pairwise_lt_range
    rw [hl] at hpw hrun
    have hlt1 : ∀ j ∈ l1, j < i := fun j hj => (List.pairwise_append.1 hpw).2.2 j hj i (by simp)
    have hlt2 : ∀ j ∈ l2, i < j := fun j hj => (List.pairwise_cons.1 (List.pairwise_append.1 hpw).2.1).1 j hj
    obtain ⟨s1, sf1, f1, f2, f3⟩ := forward hx l1 l2 (fun j hj => by
      have hjm : j ∈ unl ops.size listed := by rw [hl]; simp [hj]
      obtain ⟨hjlt, hjun⟩ := (mem_unl listed j).1 hjm
      refine ⟨by have := hlt1 j hj; omega, ops[j], Array.getElem?_eq_getElem hjlt, ?_⟩
      rcases (hchk i x hx).2 j _ (hlt1 j hj) (Array.getElem?_eq_getElem hjlt) with h | h
      · have := hanc i j (before_anc ops i j h) (fun o ho e he hb => by rw [hx] at ho; obtain rfl := Option.some.inj ho; exact hall e he hb)
        have hs2 : j < listed.size := by omega
        rw [Array.getD_eq_getD_getElem?, Array.getElem?_eq_getElem hs2] at hjun this
        simp only [Option.getD_some] at hjun this
        rw [hjun] at this; cases this
      · exact h) hrun
    have hnew : unl ops.size (listed.setIfInBounds i true) = l1 ++ l2 := by
      have e1 : unl ops.size (listed.setIfInBounds i true) = (unl ops.size listed).filter (fun k => k != i) := by
        unfold unl
        rw [List.filter_filter]
        refine List.filter_congr fun k hk => ?_
        by_cases hki : k = i
        · subst hki
          rw [Array.getD_eq_getD_getElem?, Array.getElem?_setIfInBounds_self_of_lt (by omega)]; simp
        · rw [getD_set_ne true (Ne.symm hki)]
          simp [hki]
      rw [e1, hl, List.filter_append, List.filter_cons]
      simp only [bne_self_eq_false, Bool.false_eq_true, if_false]
      congr 1
      · exact List.filter_eq_self.2 fun k hk => by have := hlt1 k hk; simp; omega
      · exact List.filter_eq_self.2 fun k hk => by have := hlt2 k hk; simp; omega
    have hstep := step_sound (K := wpAny P .any ops Q fuel (listed.setIfInBounds i true)) (Q := Q) (ops := ops) hΓ f1 (okDst_mem hdst (Array.mem_toList_iff.2 (Array.mem_of_getElem? hx))) (rem := fun k => k ∈ unl ops.size listed) hmem hR (fun a' w' hR' =>
      ih (listed.setIfInBounds i true) s1 sf1 a' w' (by simpa using hsz) (by rw [hnew]; rw [hl] at hlen; simp at hlen ⊢; omega) (fun m o hm ho e he hb => by
          by_cases hmi : m = i
          · subst hmi
            rw [hx] at ho; obtain rfl := Option.some.inj ho
            exact getD_set_true (hall e he hb)
          · rw [getD_set_ne false (Ne.symm hmi)] at hm
            exact getD_set_true (hdc m o hm ho e he hb))
        (by rw [hnew]; exact f2) (heq.trans f3) (hR'.un fun k hk => by
          rw [hnew] at hk
          rw [hl]
          simp only [List.mem_append, List.mem_cons] at hk ⊢
          rcases hk with hk | hk
          · exact ⟨.inl hk, by have := hlt1 k hk; omega⟩
          · exact ⟨.inr (.inr hk), by have := hlt2 k hk; omega⟩))
    unfold wpOp
    simp only [hx]
    split
    · rename_i hw; rw [if_pos hw] at hstep; exact .inl hstep
    · rename_i hw; rw [if_neg hw] at hstep; exact hstep

theorem draw_sound (hm : P.follows .mixedOrders = true) (hΓ : EnvOK P c.GL Γ) {id : Nat} {Q : Exit → Act → World → Prop} (hdst : okDst c.nt ops.toList = true) (hok : okDraw P Γ md ops = true) {s s' : S} {a : Act} {w : World}
    (h : runL P Γ c.GL md ops 0 ops.toList (enterR ops.size s) = some s') (hR : R c σ0 I0 w0 (fun _ => False) s a w) (hQ : ∀ a' w', R c σ0 I0 w0 (fun _ => False) s' a' w' → Q .normal a' w') :
    (Code.region id ops true).wp P Q a w := by
  have h0 : unl ops.size (Array.replicate ops.size false) = List.range ops.size := by
    unfold unl
    refine List.filter_eq_self.2 fun k hk => ?_
    rw [List.mem_range] at hk
    rw [Array.getD_eq_getD_getElem?, Array.getElem?_replicate, if_pos hk]; rfl
  refine wp_region_any hm (drawn_sound hΓ hdst hok hQ ops.size _ (enterR ops.size s) s' a _ (by simp) (by rw [h0]; simp) (fun m o hl => ?_) ?_ (Seqv.refl _) ?_)
  · rw [Array.getD_eq_getD_getElem?, Array.getElem?_replicate] at hl; split at hl <;> cases hl
  · rw [h0, List.range_eq_range', ← Array.length_toList, ← runL_runIx ops.toList 0 _ (by simp)]; exact h
  · exact ((hR.enter ops.size).un fun k hk => by rw [h0] at hk; exact List.mem_range.1 hk).world rfl rfl rfl rfl

end
end Go.AX
