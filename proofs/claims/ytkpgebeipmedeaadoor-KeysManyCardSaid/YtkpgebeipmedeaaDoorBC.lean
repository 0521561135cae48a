/-
  AX, part N: one step of a region. AX, part O: regions, in the text's order and in any order. AX, part Q: a region that draws its order comes to what the text's order comes to. AX, part T: code, functions. AX, part U: what is known of a function, out of its code's run. AX, part V: rules in the form in which they are used.
-/
import Derived.Test.YtkpgebeipmedeaaDoorBB
namespace Go.AX
open Go
section
variable {P : Program} {Γ : Env} {c : Ctx} {σ0 : Nat → Loc} {I0 : Nat → Prop} {w0 : World} {rem : Nat → Prop} {s : S} {a : Act} {w : World} {ops : Array Oper}

theorem guard_run {j : Nat} {g want : Bool} {t : Tmp} (ht : (ops[j]?).bind (·.dst) = some t) (h : guardB want (look s.fr t) = some g) {σ : Nat → Loc} {I : Nat → Prop} (hf : ∀ t, Rel σ I w (look s.fr t) (a.tmps.getD t undef)) : (yielded ops a.tmps j == some want) = g := by
  unfold guardB at h
  split at h
  · rename_i x hx
    obtain rfl := Option.some.inj h
    have := hf t
    rw [hx] at this
    have hv := b_inv this
    have hlt : t < a.tmps.size := by
      rcases Nat.lt_or_ge t a.tmps.size with h | h
      · exact h
      · rw [Array.getD_eq_getD_getElem?, Array.getElem?_eq_none h] at hv; cases hv
    rw [Array.getD_eq_getD_getElem?, Array.getElem?_eq_getElem hlt] at hv
    simp only [Option.getD_some] at hv
    simp [yielded, ht, Option.bind_some, Array.getElem?_eq_getElem hlt, hv]
  · rename_i hx
    obtain rfl := Option.some.inj h
    have := hf t
    rw [hx] at this
    have hv : ∃ vs, a.tmps.getD t undef = .tuple vs := by
      generalize a.tmps.getD t undef = v at this
      cases this; exact ⟨_, rfl⟩
    obtain ⟨vs, hv⟩ := hv
    simp only [yielded, ht, Option.bind_some]
    rw [Array.getD_eq_getD_getElem?] at hv
    cases e : a.tmps[t]? with
    | none => rfl
    | some v => rw [e] at hv; simp only [Option.getD_some] at hv; subst hv; rfl
  · cases h

/-- The reserved names, one of them taken. -/
theorem un_take {k : Nat} (hk : rem k) (hlt : ∀ k, rem k → s.nx + k < s.cx) (hlt0 : ∀ id, c.u0 id → id < s.nx ∧ id < s.cx) {σ : Nat → Loc} {I : Nat → Prop} {hp : H}
    (h : Inv c σ I w hp (fun id => (s.cx ≤ id ∨ (∃ k, rem k ∧ id = s.nx + k) ∨ c.u0 id) ∧ id ≠ s.nx + k)) : Inv c σ I w hp (fun id => s.cx ≤ id ∨ (∃ m, (rem m ∧ m ≠ k) ∧ id = s.nx + m) ∨ c.u0 id) :=
  h.mono_un fun id hid => by
    rcases hid with hid | ⟨m, ⟨hm, hne⟩, rfl⟩ | hid
    · have := hlt k hk; exact ⟨.inl hid, by omega⟩
    · exact ⟨.inr (.inl ⟨m, hm, rfl⟩), by omega⟩
    · have := hlt0 id hid; exact ⟨.inr (.inr hid), by omega⟩

/-- A new slice that a call hands back becomes an own object. -/
theorem freshFin {σ : Nat → Loc} {I Iw : Nat → Prop} {w' : World} {hp : H} {un : Nat → Prop} {id cx nn ee : Nat} {xs : List AV} {v : Value} {I1 : Nat → Prop} (hext : Inv c σ I w' hp (fun k => cx ≤ k ∨ un k)) (hid : un id)
    (hsz : c.w0.heap.size ≤ w.heap.size) (_hI1 : ∀ k, Iw k → k < w.heap.size) (hlt : ∀ k o blk base sz, hp k = some o → σ k = .at_ blk base sz → blk < w.heap.size) (hgr : Grow σ I1 w σ I w')
    (hv : ((v = .slice none 0 0 ∨ ∃ a, v = .slice (some a) 0 0) ∧ nn = 0 ∧ xs = []) ∨ ∃ blk base sz cap, v = .slice (some ⟨blk, base, none⟩) nn cap ∧ nn ≤ cap ∧ base + cap * ee ≤ sz ∧ w.heap.size ≤ blk ∧ ¬ I blk ∧ RowAt σ I w' xs blk base sz) (hunl : ∀ k, cx ≤ k → k ≠ id) :
    ∃ v0 σ' I', (Ending.returned v) = .returned v0 ∧ Inv c σ' I' w' (upd hp id (.cells xs true)) (fun k => cx ≤ k ∨ (un k ∧ k ≠ id)) ∧ Rel σ' I' w' (.os id 0 nn ee true) v0 ∧ Grow σ I1 w σ' I' w' := by
  have hu : (fun k => cx ≤ k ∨ un k) id := .inr hid
  have hunm : ∀ k, (cx ≤ k ∨ (un k ∧ k ≠ id)) → ((cx ≤ k ∨ un k) ∧ k ≠ id) := by
    intro k hk
    rcases hk with hk | hk
    · exact ⟨.inl hk, hunl k hk⟩
    · exact ⟨.inr hk.1, hk.2⟩
  rcases hv with ⟨hv, rfl, rfl⟩ | ⟨blk, base, sz, cap, rfl, b2, b3, b4, b5, b6⟩
  · refine ⟨_, _, I, rfl, (hext.newNil hu).mono_un hunm, ?_, hgr.trans ⟨setLoc_ext (hext.un id hu), fun _ h => h, fun _ _ => rfl⟩⟩
    rcases hv with rfl | ⟨a, rfl⟩
    · exact .osnil _ _ _ (by simp [setLoc])
    · exact .oszero _ _ _ _ _ (by simp [setLoc])
  · refine ⟨_, _, I, rfl, (hext.adopt hu b6 b5 (by omega) (fun k o blk' base' sz' h1 h2 e => ?_)).mono_un hunm, ?_, hgr.trans ⟨setLoc_ext (hext.un id hu), fun _ h => h, fun _ _ => rfl⟩⟩
    · have := hlt k o blk' base' sz' h1 h2; omega
    · exact .os id 0 nn ee true blk base sz cap (by simp [setLoc]) b2 (fun _ => by omega)

theorem call_sound {op : Op} {type : TypeId} {dst : Option Tmp} {pos : String} {after : Array Edge} {guard : Option (Nat × Bool)} {ρA : Operand → AV} {ρ : Operand → Value} {σ : Nat → Loc} {I : Nat → Prop} {hp hp' : H} {m nx n id cx cx' : Nat} {x : AV} {un : Nat → Prop}
    (hΓ : EnvOK P c.GL Γ) (h : callOp Γ op ρA m nx n hp id cx = some (x, hp', cx')) (hρ : ∀ y, Rel σ I w (ρA y) (ρ y)) (hi : Inv c σ I w hp (fun id => cx ≤ id ∨ un id)) (hun : ∀ id, un id → id < cx) (hid : un id) :
    cx ≤ cx' ∧ ∃ f vals, (execOp ρ { dst, op, type, pos, after, guard }).run P w = .ok (.enter f vals) w ∧ Calls P f vals w fun e w' => ∃ v σ' I', e = .returned v ∧ Inv c σ' I' w' hp' (fun k => cx' ≤ k ∨ (un k ∧ k ≠ id)) ∧ Rel σ' I' w' x v ∧ Grow σ I w σ' I' w' := by
  have keepU : ∀ {σ' : Nat → Loc} {I' : Nat → Prop} {w' : World} {hp' : H} {cx' : Nat}, Inv c σ' I' w' hp' (fun k => cx' ≤ k ∨ un k) → Inv c σ' I' w' hp' (fun k => cx' ≤ k ∨ (un k ∧ k ≠ id)) :=
    fun h => h.mono_un fun k hk => hk.imp (fun h => h) (fun h => h.1)
  have hunl : ∀ k, cx ≤ k → k ≠ id := fun k hk e => by have := hun id hid; omega
  unfold callOp at h
  split at h
  rotate_left
  · cases h
  rename_i cl
  obtain ⟨callee, cargs, argTypes⟩ := cl
  simp only at h
  split at h
  rotate_left
  · cases h
  rename_i fo
  split at h
  rotate_left
  · cases h
  rename_i f caps hfo
  have hfv := hρ fo
  rw [hfo] at hfv
  have hfn : ∃ vs, ρ fo = .func (.func f) #[] vs ∧ vs.size = caps.length ∧ ∀ i (_h : i < caps.length), Rel σ I w caps[i] (vs.getD i undef) := by
    generalize ρ fo = u at hfv
    cases hfv with
    | fn _ _ vs h1 h2 => exact ⟨vs, rfl, h1, h2⟩
  obtain ⟨vs, hv, hvs, hvr⟩ := hfn
  have hsize : (cargs.map ρ ++ vs).size = (cargs.toList.map ρA ++ caps).length := by simp [hvs]
  have hargs : ∀ i (_h : i < (cargs.toList.map ρA ++ caps).length), Rel σ I w (cargs.toList.map ρA ++ caps)[i] ((cargs.map ρ ++ vs).getD i undef) := by
    intro i hi'
    rw [List.getElem_append]
    rw [Array.getD_eq_getD_getElem?, Array.getElem?_append]
    split
    · rename_i hlt
      rw [if_pos (by simpa using hlt)]
      have := map_rel (l := cargs.toList) hρ i hlt
      rw [getD_list, List.getD_eq_getElem?_getD] at this
      have e : (Array.map ρ cargs)[i]? = (List.map ρ cargs.toList)[i]? := by rw [← Array.toList_map, Array.getElem?_toList]
      rw [e]; exact this
    · rename_i hge
      rw [if_neg (by simpa using hge)]
      simp only [List.length_map, Array.length_toList, Array.size_map] at hge ⊢
      have := hvr (i - cargs.size) (by simp at hi'; omega)
      rw [Array.getD_eq_getD_getElem?] at this
      exact this
  have hrun : Callable P f → (execOp ρ { dst := dst, op := .call { callee := .value fo, args := cargs, argTypes := argTypes }, type := type, pos := pos, after := after, guard := guard }).run P w = .ok (.enter f (cargs.map ρ ++ vs)) w := by
    rintro ⟨fn, h1, h2, h3⟩
    simp only [execOp, resolve, hv, Deferred.ofValue, Array.empty_append, Sem.run_bind, Sem.run_pure, Result.andThen_ok, invoke, callFunc, run_program, h1, h2, h3, Bool.false_eq_true, if_false]
  generalize hA : cargs.toList.map ρA ++ caps = A at h hsize hargs
  generalize hV : cargs.map ρ ++ vs = V at hrun hsize hargs
  unfold callA at h
  split at h
  · rename_i g hg
    obtain ⟨hcall, hok⟩ := hΓ f _ hg
    replace h := obind_inv h; obtain ⟨as_, has, h⟩ := h
    replace h := obind_inv h; obtain ⟨r, hr, h⟩ := h
    replace h := guardO_inv h; obtain ⟨hnm, h⟩ := h
    simp only [Option.some.injEq, Prod.mk.injEq] at h; obtain ⟨rfl, rfl, rfl⟩ := h
    refine ⟨Nat.le_refl _, f, V, hrun hcall, ?_⟩
    have hIb : ∀ k, I k → (I k ∨ ∃ id o base sz, hp id = some o ∧ σ id = .at_ k base sz) := fun k hk => .inl hk
    obtain ⟨e1, e2⟩ := borrowD_sound (Ib := fun k => I k ∨ ∃ id o base sz, hp id = some o ∧ σ id = .at_ k base sz) (hi.sub (hsel_sub m nx n hp)) hIb (fun id o blk base sz h1 h2 => .inr ⟨id, o, base, sz, hsel_sub m nx n hp id o h1, h2⟩) A (fun i => V.getD i undef) has hargs
    refine (hok σ (fun k => I k ∨ ∃ id o base sz, hp id = some o ∧ σ id = .at_ k base sz) w cx as_ V r (fun id hid => hi.un id (.inl hid)) (fun k hk => ?_) (fun g xs hgl => (hi.glob g xs hgl).mono (fun _ _ => rfl) hIb (fun _ _ => rfl)) (by rw [hsize, e1]) e2 hr).mono ?_
    · rcases hk with hk | ⟨id, o, base, sz, h1, h2⟩
      · exact hi.ilt k hk
      · exact (hi.own id o h1).lt h2
    · rintro e w' ⟨v, σ', I', rfl, a1, a2, a3, a4, a5, _, _, _, a9⟩
      exact ⟨v, σ, I, rfl, keepU (hi.extend a1 a2 a3 a4 a5 I (fun _ h => h) (fun _ h => .inl h)), a9.noMem hnm, ⟨fun _ _ => rfl, fun _ h => h, fun k hk => a5 k (hi.ilt k hk)⟩⟩
  · rename_i g hg
    obtain ⟨hcall, hok⟩ := hΓ f _ hg
    have fin : ∀ (I1 : Nat → Prop) (as_ : List AV) (hp1 : H) (r : AV), (∀ k, I k → I1 k) → Inv c σ I1 w hp1 (fun id => cx ≤ id ∨ un id) → as_.length = A.length → (∀ i (_h : i < as_.length), Rel σ I1 w as_[i] (V.getD i undef)) → g as_ = some r →
        Calls P f V w fun e w' => ∃ v σ' I', e = .returned v ∧ Inv c σ' I' w' hp1 (fun k => cx ≤ k ∨ (un k ∧ k ≠ id)) ∧ Rel σ' I' w' r v ∧ Grow σ I w σ' I' w' := by
      intro I1 as_ hp1 r b1 b2 b3 b4 hr
      refine (hok σ I1 w (max cx r.ids) as_ V r (fun id hid => b2.un id (.inl (by omega))) b2.ilt b2.glob (by rw [hsize, b3]) b4 hr).mono ?_
      rintro e w' ⟨v, σ', I', rfl, a1, a2, a3, a4, a5, a6, a7, a8, a9⟩
      have hg1 : ∀ k, I1 k → (I1 k ∨ (w.heap.size ≤ k ∧ k < w'.heap.size)) := fun k hk => .inl hk
      refine ⟨v, σ, fun k => I1 k ∨ (w.heap.size ≤ k ∧ k < w'.heap.size), rfl, keepU (b2.extend a1 a2 a3 a4 a5 _ hg1 (fun _ h => h)), ?_, ⟨fun _ _ => rfl, fun k hk => .inl (b1 k hk), fun k hk => a5 k (hi.ilt k hk)⟩⟩
      have h9 : Rel σ I' w' r v := a9.congr_ids fun id hid => (a6 id (by omega)).symm
      exact h9.mono (fun _ _ => rfl) (fun k hk => by
        rcases a7 k hk with h | h
        · exact .inl h
        · exact .inr ⟨h, a8 k hk⟩) (fun _ _ => rfl)
    split at h
    · replace h := obind_inv h; obtain ⟨ah, hah, h⟩ := h
      replace h := obind_inv h; obtain ⟨r, hr, h⟩ := h
      obtain ⟨as_, hp1⟩ := ah
      simp only [Option.some.injEq, Prod.mk.injEq] at h; obtain ⟨rfl, rfl, rfl⟩ := h
      refine ⟨Nat.le_refl _, f, V, hrun hcall, ?_⟩
      obtain ⟨I1, b1, b2, b3, b4⟩ := frzArgs_sound A (fun i => V.getD i undef) hah hi hargs
      exact fin I1 as_ hp1 r b1 b2 b3 b4 hr
    · replace h := obind_inv h; obtain ⟨as_, has, h⟩ := h
      replace h := obind_inv h; obtain ⟨r, hr, h⟩ := h
      simp only [Option.some.injEq, Prod.mk.injEq] at h; obtain ⟨rfl, rfl, rfl⟩ := h
      refine ⟨Nat.le_refl _, f, V, hrun hcall, ?_⟩
      obtain ⟨e1, e2⟩ := borrowL_sound (Ib := I) (hp := fun _ => none) (hi.sub (fun id o h => by cases h)) (fun _ h => h) (fun id o blk base sz h1 h2 => by cases h1) A (fun i => V.getD i undef) has hargs
      exact fin I as_ hp r (fun _ h => h) hi e1 e2 hr
  · rename_i g hg
    obtain ⟨hcall, hok⟩ := hΓ f _ hg
    replace h := obind_inv h; obtain ⟨as_, has, h⟩ := h
    replace h := obind_inv h; obtain ⟨r, hr, h⟩ := h
    replace h := guardO_inv h; obtain ⟨hnm, h⟩ := h
    obtain ⟨nn, ee, xs⟩ := r
    simp only [Option.some.injEq, Prod.mk.injEq] at h; obtain ⟨rfl, rfl, rfl⟩ := h
    refine ⟨Nat.le_refl _, f, V, hrun hcall, ?_⟩
    have hIb : ∀ k, I k → (I k ∨ ∃ id o base sz, hp id = some o ∧ σ id = .at_ k base sz) := fun k hk => .inl hk
    obtain ⟨e1, e2⟩ := borrowD_sound (Ib := fun k => I k ∨ ∃ id o base sz, hp id = some o ∧ σ id = .at_ k base sz) (hi.sub (hsel_sub m nx n hp)) hIb (fun id o blk base sz h1 h2 => .inr ⟨id, o, base, sz, hsel_sub m nx n hp id o h1, h2⟩) A (fun i => V.getD i undef) has hargs
    refine (hok σ (fun k => I k ∨ ∃ id o base sz, hp id = some o ∧ σ id = .at_ k base sz) w cx as_ V nn ee xs (fun id hid => hi.un id (.inl hid)) (fun k hk => ?_) (fun g xs hgl => (hi.glob g xs hgl).mono (fun _ _ => rfl) hIb (fun _ _ => rfl)) (by rw [hsize, e1]) e2 hr).mono ?_
    · rcases hk with hk | ⟨id, o, base, sz, h1, h2⟩
      · exact hi.ilt k hk
      · exact (hi.own id o h1).lt h2
    · rintro e w' ⟨v, σ', I', rfl, a1, a2, a3, a4, a5, _, _, _, a9⟩
      have hext := hi.extend a1 a2 a3 a4 a5 I (fun _ h => h) (fun _ h => .inl h)
      have hgr : Grow σ I w σ I w' := ⟨fun _ _ => rfl, fun _ h => h, fun k hk => a5 k (hi.ilt k hk)⟩
      refine freshFin (Iw := I) hext hid hi.size hi.ilt (fun k o blk base sz h1 h2 => (hi.own k o h1).lt h2) hgr ?_ hunl
      rcases a9 with a9 | ⟨blk, base, sz, cap, b1, b2, b3, b4, b5, b6⟩
      · exact .inl a9
      · refine .inr ⟨blk, base, sz, cap, b1, b2, b3, b4, fun hb => by have := hi.ilt blk hb; omega, ?_⟩
        obtain ⟨⟨cs, T, lo, hi', q1, q2, q3, q4, q5⟩, q6⟩ := b6
        exact ⟨⟨cs, T, lo, hi', q1, q2, q3, q4, fun i hi'' => (q5 i hi'').noMem (AV.noMem_get xs hnm i hi'')⟩, q6⟩
  · rename_i g hg
    obtain ⟨hcall, hok⟩ := hΓ f _ hg
    have fin : ∀ (I1 : Nat → Prop) (as_ : List AV) (hp1 : H) (nn ee : Nat) (xs : List AV), (∀ k, I k → I1 k) → Inv c σ I1 w hp1 (fun id => cx ≤ id ∨ un id) → as_.length = A.length → (∀ i (_h : i < as_.length), Rel σ I1 w as_[i] (V.getD i undef)) → g as_ = some (nn, ee, xs) →
        Calls P f V w fun e w' => ∃ v σ' I', e = .returned v ∧ Inv c σ' I' w' (upd hp1 id (.cells xs true)) (fun k => cx ≤ k ∨ (un k ∧ k ≠ id)) ∧ Rel σ' I' w' (.os id 0 nn ee true) v ∧ Grow σ I w σ' I' w' := by
      intro I1 as_ hp1 nn ee xs b1 b2 b3 b4 hr
      refine (hok σ I1 w (max cx (AV.ids.idsL xs)) as_ V nn ee xs (fun id hid => b2.un id (.inl (by omega))) b2.ilt b2.glob (by rw [hsize, b3]) b4 hr).mono ?_
      rintro e w' ⟨v, σ', I', rfl, a1, a2, a3, a4, a5, a6, a7, a8, a9⟩
      have hI2 : ∀ k, I1 k → (I1 k ∨ (w.heap.size ≤ k ∧ k < w'.heap.size ∧ I' k)) := fun k hk => .inl hk
      have hext := b2.extend a1 a2 a3 a4 a5 (fun k => I1 k ∨ (w.heap.size ≤ k ∧ k < w'.heap.size ∧ I' k)) hI2 (fun k hk => hk.imp (fun h => h) (fun h => ⟨h.1, h.2.1⟩))
      have hgr : Grow σ I w σ (fun k => I1 k ∨ (w.heap.size ≤ k ∧ k < w'.heap.size ∧ I' k)) w' := ⟨fun _ _ => rfl, fun k hk => .inl (b1 k hk), fun k hk => a5 k (hi.ilt k hk)⟩
      refine freshFin (Iw := I1) hext hid hi.size b2.ilt (fun k o blk base sz h1 h2 => (b2.own k o h1).lt h2) hgr ?_ hunl
      rcases a9 with a9 | ⟨blk, base, sz, cap, c1, c2, c3, c4, c5, c6⟩
      · exact .inl a9
      · refine .inr ⟨blk, base, sz, cap, c1, c2, c3, c4, fun hb => hb.elim (fun h => by have := b2.ilt blk h; omega) (fun h => c5 h.2.2), ?_⟩
        obtain ⟨⟨cs, T, lo, hi', q1, q2, q3, q4, q5⟩, q6⟩ := c6
        refine ⟨⟨cs, T, lo, hi', q1, q2, q3, q4, fun i hi'' => ?_⟩, q6⟩
        have h9 := (q5 i hi'').congr_ids (σ' := σ) fun id hid => (a6 id (by have := AV.ids_get xs i hi''; omega)).symm
        exact h9.mono (fun _ _ => rfl) (fun k hk => by
          rcases a7 k hk with h | h
          · exact .inl h
          · exact .inr ⟨h, a8 k hk, hk⟩) (fun _ _ => rfl)
    split at h
    · replace h := obind_inv h; obtain ⟨ah, hah, h⟩ := h
      replace h := obind_inv h; obtain ⟨r, hr, h⟩ := h
      obtain ⟨as_, hp1⟩ := ah
      obtain ⟨nn, ee, xs⟩ := r
      simp only [Option.some.injEq, Prod.mk.injEq] at h; obtain ⟨rfl, rfl, rfl⟩ := h
      refine ⟨Nat.le_refl _, f, V, hrun hcall, ?_⟩
      obtain ⟨I1, b1, b2, b3, b4⟩ := frzArgs_sound A (fun i => V.getD i undef) hah hi hargs
      exact fin I1 as_ hp1 nn ee xs b1 b2 b3 b4 hr
    · replace h := obind_inv h; obtain ⟨as_, has, h⟩ := h
      replace h := obind_inv h; obtain ⟨r, hr, h⟩ := h
      obtain ⟨nn, ee, xs⟩ := r
      simp only [Option.some.injEq, Prod.mk.injEq] at h; obtain ⟨rfl, rfl, rfl⟩ := h
      refine ⟨Nat.le_refl _, f, V, hrun hcall, ?_⟩
      obtain ⟨e1, e2⟩ := borrowL_sound (Ib := I) (hp := fun _ => none) (hi.sub (fun id o h => by cases h)) (fun _ h => h) (fun id o blk base sz h1 h2 => by cases h1) A (fun i => V.getD i undef) has hargs
      exact fin I as_ hp nn ee xs (fun _ h => h) hi e1 e2 hr
  · rename_i g hg
    obtain ⟨hcall, hok⟩ := hΓ f _ hg
    replace h := guardO_inv h; obtain ⟨_, h⟩ := h
    obtain ⟨k1, k2⟩ := hok c σ I w hp cx A V x hp' cx' rfl (hi.mono_un fun id hid => .inl hid) hsize hargs h
    refine ⟨k1, f, V, hrun hcall, k2.mono ?_⟩
    rintro e w' ⟨v, σ', I', rfl, a1, a2, a3, a4⟩
    refine ⟨v, σ', I', rfl, keepU ?_, a2, a3⟩
    have hu' : ∀ id, (cx' ≤ id ∨ un id) → σ' id = .unset := by
      intro id hid
      rcases hid with hid | hid
      · exact a1.un id hid
      · exact a4 id (hun id hid) (hi.un id (.inr hid))
    exact { a1 with un := hu' }
  · cases h

theorem step_sound {k : Nat} {md : Nat → Nat} {o : Oper} {s' : S} {K : Act → World → Prop} {Q : Exit → Act → World → Prop} (hΓ : EnvOK P c.GL Γ) (h : stepO P Γ c.GL md ops k o s = some s') (hdst : ∀ d, o.dst = some d → d < c.nt) (hk : rem k)
    (hR : R c σ0 I0 w0 rem s a w) (hK : ∀ a' w', R c σ0 I0 w0 (fun m => rem m ∧ m ≠ k) s' a' w' → K a' w') :
    if Region.wanted o (yielded ops a.tmps) then o.wp P a w K Q else K (a.put o.dst undef) w := by
  obtain ⟨⟨σ, I, hi, hg, hf⟩, hd, hsz, hlt, hlt0⟩ := hR
  have hρ := ev_rel hi hf
  have hun : ∀ id, ((∃ m, rem m ∧ id = s.nx + m) ∨ c.u0 id) → id < s.cx := by
    rintro id (⟨m, hm, rfl⟩ | h)
    · exact hlt m hm
    · exact (hlt0 id h).2
  /- the operation runs -/
  have run : ∀ r, eff P Γ o.op (ev c.GL s.fr) (md k) s.nx ops.size s.hp (s.nx + k) s.cx = some r → s' = { fr := putA o.dst r.1 s.fr, hp := r.2.1, nx := s.nx, cx := r.2.2 } → o.wp P a w K Q := by
    intro r hr hs'
    subst hs'
    obtain ⟨x, hp', cx'⟩ := r
    have fin : ∀ (v : Value) (w' : World) (σ' : Nat → Loc) (I' : Nat → Prop), s.cx ≤ cx' → Inv c σ' I' w' hp' (fun id => cx' ≤ id ∨ (∃ m, (rem m ∧ m ≠ k) ∧ id = s.nx + m) ∨ c.u0 id) → (o.dst.isSome = true → Rel σ' I' w' x v) → Grow σ I w σ' I' w' → K (a.put o.dst v) w' := by
      intro v w' σ' I' hcx hinv hrel hgr
      refine hK _ _ ⟨⟨σ', I', hinv, hg.trans hgr, ?_⟩, by rw [defers_put]; exact hd, by rw [size_put]; exact hsz, fun m hm => ?_, fun id hid => ?_⟩
      · exact put_rel hsz hdst hrel (fun t => (hf t).grow hgr)
      · have := hlt m hm.1; show s.nx + m < cx'; omega
      · have := hlt0 id hid; show id < s.nx ∧ id < cx'; omega
    have keep : ∀ {σ' : Nat → Loc} {I' : Nat → Prop} {w' : World} {hp' : H} {cx' : Nat}, Inv c σ' I' w' hp' (fun id => cx' ≤ id ∨ (∃ m, rem m ∧ id = s.nx + m) ∨ c.u0 id) → Inv c σ' I' w' hp' (fun id => cx' ≤ id ∨ (∃ m, (rem m ∧ m ≠ k) ∧ id = s.nx + m) ∨ c.u0 id) :=
      fun h => h.mono_un fun id hid => hid.imp (fun h => h) (fun h => h.imp (fun ⟨m, hm, e⟩ => ⟨m, hm.1, e⟩) (fun h => h))
    have hu : (fun id => s.cx ≤ id ∨ (∃ k, rem k ∧ id = s.nx + k) ∨ c.u0 id) (s.nx + k) := .inr (.inl ⟨k, hk, rfl⟩)
    unfold Oper.wp
    unfold eff at hr
    split at hr
    · replace hr := obind_inv hr; obtain ⟨y, hy, hr⟩ := hr
      simp only [Option.some.injEq, Prod.mk.injEq] at hr; obtain ⟨rfl, rfl, rfl⟩ := hr
      obtain ⟨v, hrun, hrel⟩ := pure_sound (P := P) hy hρ
      rw [hrun]
      exact fin v w σ I (Nat.le_refl _) (keep hi) (fun _ => hrel) (Grow.refl _ _ _)
    · replace hr := obind_inv hr; obtain ⟨y, hy, hr⟩ := hr
      simp only [Option.some.injEq, Prod.mk.injEq] at hr; obtain ⟨rfl, rfl, rfl⟩ := hr
      obtain ⟨v, hrun, hrel⟩ := read_sound (P := P) hy hρ (fun id o h => hi.own id o (hsel_sub _ _ _ _ id o h))
      rw [hrun]
      exact fin v w σ I (Nat.le_refl _) (keep hi) (fun _ => hrel) (Grow.refl _ _ _)
    · replace hr := obind_inv hr; obtain ⟨y, hy, hr⟩ := hr
      simp only [Option.some.injEq, Prod.mk.injEq] at hr; obtain ⟨rfl, rfl, rfl⟩ := hr
      obtain ⟨y1, y2⟩ := y
      obtain ⟨v, w', σ', hrun, hinv, hrel, hgr⟩ := new_sound (P := P) hy hρ hi hu
      rw [hrun]
      exact fin v w' σ' I (Nat.le_refl _) (un_take hk hlt hlt0 hinv) (fun _ => hrel) hgr
    · replace hr := obind_inv hr; obtain ⟨y, hy, hr⟩ := hr
      simp only [Option.some.injEq, Prod.mk.injEq] at hr; obtain ⟨rfl, rfl, rfl⟩ := hr
      obtain ⟨y1, y2⟩ := y
      obtain ⟨r, w', σ', I', hrun, hres, hinv, hgr⟩ := write_sound (P := P) hy hρ hi hu
      rw [hrun]
      rcases hres with ⟨v, rfl, hrel⟩ | ⟨rfl, rfl⟩
      · exact fin v w' σ' I' (Nat.le_refl _) (un_take hk hlt hlt0 hinv) (fun _ => hrel) hgr
      · exact fin undef w' σ' I' (Nat.le_refl _) (un_take hk hlt hlt0 hinv) (fun _ => .junk _) hgr
    · obtain ⟨dst, op, type, pos, after, guard⟩ := o
      obtain ⟨hle, f, vals, hrun, hcalls⟩ := call_sound (type := type) (dst := dst) (pos := pos) (after := after) (guard := guard) hΓ hr hρ hi hun (.inl ⟨k, hk, rfl⟩)
      rw [hrun]
      refine hcalls.mono ?_
      rintro e w' ⟨v, σ', I', rfl, hinv, hrel, hgr⟩
      exact fin v w' σ' I' hle (hinv.mono_un fun id hid => hid.imp (fun h => h) (fun h => by
        rcases h with ⟨q, hq, e⟩ | h
        · exact ⟨.inl ⟨q, hq.1, e⟩, by have := hq.2; omega⟩
        · have := hlt0 id h; exact ⟨.inr h, by omega⟩)) (fun _ => hrel) hgr
  unfold stepO at h
  replace h := obind_inv h; obtain ⟨b, hb, h⟩ := h
  have hw : Region.wanted o (yielded ops a.tmps) = b := by
    unfold gdO at hb
    cases hgd : o.guard with
    | none => rw [hgd] at hb; obtain rfl := Option.some.inj hb; simp [Region.wanted, hgd]
    | some jw =>
      obtain ⟨j, want⟩ := jw
      rw [hgd] at hb
      simp only at hb
      split at hb
      · rename_i t ht
        simp only [Region.wanted, hgd]
        exact guard_run ht hb hf
      · cases hb
  cases b with
  | true =>
    replace h := obind_inv h; obtain ⟨r, hr, h⟩ := h
    rw [if_pos hw]
    exact run r hr (Option.some.inj h).symm
  | false =>
    obtain rfl := Option.some.inj h
    rw [if_neg (by rw [hw]; simp)]
    refine hK _ _ ⟨⟨σ, I, hi.mono_un fun id hid => hid.imp (fun h => h) (fun h => h.imp (fun ⟨m, hm, e⟩ => ⟨m, hm.1, e⟩) (fun h => h)), hg, put_rel hsz hdst (fun _ => .tup _ _ rfl (fun i h => by simp at h)) hf⟩, by rw [defers_put]; exact hd, by rw [size_put]; exact hsz, fun m hm => hlt m hm.1, hlt0⟩
end
end Go.AX

namespace Go.AX
open Go

def runL (P : Program) (Γ : Env) (GL : Nat → Option (List AV)) (md : Nat → Nat) (ops : Array Oper) : Nat → List Oper → S → Option S
  | _, [], s => some s
  | k, o :: r, s => obind (stepO P Γ GL md ops k o s) fun s' => runL P Γ GL md ops (k + 1) r s'

def enterR (n : Nat) (s : S) : S := { s with nx := s.cx, cx := s.cx + n }

/-- Each operation's slot is one of the frame's. -/
def okDst (nt : Nat) (ops : List Oper) : Bool := ops.all fun o => match o.dst with | some d => d < nt | none => true

section
variable {P : Program} {Γ : Env} {c : Ctx} {σ0 : Nat → Loc} {I0 : Nat → Prop} {w0 : World} {md : Nat → Nat}

theorem R.un {rem rem' : Nat → Prop} {s : S} {a : Act} {w : World} (h : R c σ0 I0 w0 rem s a w) (hr : ∀ k, rem' k → rem k) : R c σ0 I0 w0 rem' s a w := by
  obtain ⟨⟨σ, I, a1, a2, a3⟩, b, d, e, e0⟩ := h
  exact ⟨⟨σ, I, a1.mono_un fun id hid => hid.imp (fun h => h) (fun h => h.imp (fun ⟨k, hk, e⟩ => ⟨k, hr k hk, e⟩) (fun h => h)), a2, a3⟩, b, d, fun k hk => e k (hr k hk), e0⟩

theorem R.enter {s : S} {a : Act} {w : World} (n : Nat) (h : R c σ0 I0 w0 (fun _ => False) s a w) : R c σ0 I0 w0 (fun k => k < n) (enterR n s) a w := by
  obtain ⟨⟨σ, I, a1, a2, a3⟩, b, d, e, e0⟩ := h
  refine ⟨⟨σ, I, a1.mono_un fun id hid => ?_, a2, a3⟩, b, d, fun k hk => by simp only [enterR]; omega, fun id hid => by simp only [enterR]; have := e0 id hid; omega⟩
  simp only [enterR] at hid
  rcases hid with hid | ⟨k, hk, hid⟩ | hid
  · exact .inl (by omega)
  · exact .inl (by omega)
  · exact .inr (.inr hid)

theorem R.world {rem : Nat → Prop} {s : S} {a : Act} {w w' : World} (h : R c σ0 I0 w0 rem s a w) (h1 : w'.heap = w.heap) (h2 : w'.os = w.os) (h3 : w'.tape = w.tape) (h4 : w'.output = w.output) : R c σ0 I0 w0 rem s a w' := by
  obtain ⟨⟨σ, I, a1, a2, a3⟩, b, d, e, e0⟩ := h
  exact ⟨⟨σ, I, a1.world h1 h2 h3 h4, ⟨a2.loc, a2.imm, fun k hk => by rw [h1]; exact a2.heap k hk⟩, fun t => (a3 t).world h1⟩, b, d, e, e0⟩

theorem okDst_mem {nt : Nat} {ops : List Oper} (h : okDst nt ops = true) {o : Oper} (ho : o ∈ ops) : ∀ d, o.dst = some d → d < nt := by
  intro d hd
  have := List.all_eq_true.1 h o ho
  simpa [hd] using this

theorem runL_sound (hΓ : EnvOK P c.GL Γ) {ops : Array Oper} {Q : Exit → Act → World → Prop} (hdst : okDst c.nt ops.toList = true) {s' : S} (hQ : ∀ a' w', R c σ0 I0 w0 (fun _ => False) s' a' w' → Q .normal a' w') :
    ∀ (l : List Oper) (k : Nat) (s : S) (a : Act) (w : World), (∀ o ∈ l, o ∈ ops.toList) → k + l.length = ops.size → runL P Γ c.GL md ops k l s = some s' → R c σ0 I0 w0 (fun m => k ≤ m ∧ m < ops.size) s a w → wpList P ops Q l a w
  | [], k, s, a, w, _, hk, h, hR => by
    obtain rfl := Option.some.inj h
    simp at hk
    exact hQ _ _ (hR.un fun m hm => hm.elim)
  | o :: r, k, s, a, w, hmem, hk, h, hR => by
    simp only [runL] at h
    replace h := obind_inv h; obtain ⟨s1, hs1, h⟩ := h
    simp only [List.length_cons] at hk
    have := step_sound (K := wpList P ops Q r) (Q := Q) hΓ hs1 (okDst_mem hdst (hmem o (by simp))) (rem := fun m => k ≤ m ∧ m < ops.size) ⟨Nat.le_refl _, by omega⟩ hR (fun a' w' hR' =>
      runL_sound hΓ hdst hQ r (k + 1) s1 a' w' (fun o ho => hmem o (by simp [ho])) (by omega) h (hR'.un fun m hm => ⟨⟨by omega, hm.2⟩, by omega⟩))
    unfold wpList
    split
    · rename_i hw; rw [if_pos hw] at this; exact .inl this
    · rename_i hw; rw [if_neg hw] at this; exact this

theorem region_sound (hΓ : EnvOK P c.GL Γ) {id : Nat} {ops : Array Oper} {Q : Exit → Act → World → Prop} (hdst : okDst c.nt ops.toList = true) {s s' : S} {a : Act} {w : World}
    (h : runL P Γ c.GL md ops 0 ops.toList (enterR ops.size s) = some s') (hR : R c σ0 I0 w0 (fun _ => False) s a w) (hQ : ∀ a' w', R c σ0 I0 w0 (fun _ => False) s' a' w' → Q .normal a' w') :
    (Code.region id ops false).wp P Q a w :=
  wp_region_list (runL_sound hΓ hdst hQ ops.toList 0 _ a w (fun _ h => h) (by simp) h ((hR.enter ops.size).un fun _ hm => hm.2))

end

/- ANY ORDER -/

def Seqv (s t : S) : Prop := (∀ k, look s.fr k = look t.fr k) ∧ s.hp = t.hp ∧ s.nx = t.nx ∧ s.cx = t.cx
theorem Seqv.refl (s : S) : Seqv s s := ⟨fun _ => rfl, rfl, rfl, rfl⟩
theorem Seqv.symm {s t : S} (h : Seqv s t) : Seqv t s := ⟨fun k => (h.1 k).symm, h.2.1.symm, h.2.2.1.symm, h.2.2.2.symm⟩
theorem Seqv.trans {s t u : S} (h : Seqv s t) (g : Seqv t u) : Seqv s u := ⟨fun k => (h.1 k).trans (g.1 k), h.2.1.trans g.2.1, h.2.2.1.trans g.2.2.1, h.2.2.2.trans g.2.2.2⟩

theorem ev_eqv {GL : Nat → Option (List AV)} {fr fr' : List (Nat × AV)} (h : ∀ k, look fr k = look fr' k) : ev GL fr = ev GL fr' := by
  funext y; cases y <;> simp [ev, h]
theorem gdO_eqv {ops : Array Oper} {fr fr' : List (Nat × AV)} (h : ∀ k, look fr k = look fr' k) (o : Oper) : gdO ops fr o = gdO ops fr' o := by
  unfold gdO; simp only [h]
theorem look_put (dst : Option Tmp) (x : AV) (fr : List (Nat × AV)) (t : Nat) : look (putA dst x fr) t = if dst = some t then x else look fr t := by
  cases dst with
  | none => simp [putA]
  | some d => simp only [putA, look, Option.some.injEq]

section
variable {P : Program} {Γ : Env} {GL : Nat → Option (List AV)} {md : Nat → Nat} {ops : Array Oper}

theorem stepO_eqv {k : Nat} {o : Oper} {s t s' : S} (h : stepO P Γ GL md ops k o s = some s') (he : Seqv s t) : ∃ t', stepO P Γ GL md ops k o t = some t' ∧ Seqv s' t' := by
  obtain ⟨e1, e2, e3, e4⟩ := he
  unfold stepO at h ⊢
  rw [← gdO_eqv e1 o, ← ev_eqv e1, ← e2, ← e3, ← e4]
  replace h := obind_inv h; obtain ⟨b, hb, h⟩ := h
  rw [hb, obind_some]
  cases b with
  | true =>
    replace h := obind_inv h; obtain ⟨r, hr, h⟩ := h
    obtain rfl := Option.some.inj h
    simp only [hr, obind_some]
    exact ⟨_, rfl, fun k => by simp only [look_put, e1], rfl, rfl, rfl⟩
  | false =>
    obtain rfl := Option.some.inj h
    exact ⟨_, rfl, fun k => by simp only [look_put, e1], rfl, rfl, rfl⟩

/-- How an operation meets the others: it looks at no own object (P); it looks at elder ones, or makes one (M); else. -/
inductive Dc where | P | M (k : Nat) | W
  deriving DecidableEq

def dcOf (P : Program) (Γ : Env) (m : Nat) (op : Op) : Dc :=
  match cls P op with
  | .pure => .P
  | .read => if m = 0 then .W else if m = 1 then .P else .M (m / 2 - 1)
  | .new => .M 0
  | .write => .W
  | .call => match op with
    | .call c => match c.callee with
      | .value (.func f) => match Γ f with
        | some (.pure true _) => if m = 0 then .W else if m = 1 then .P else .M (m / 2 - 1)
        | some (.pure false _) => if m = 0 then .W else .P
        | some (.fresh _ _) => if m = 0 then .W else .M (m / 2 - 1)
        | _ => .W
      | _ => .W
    | _ => .W

def compat (i j : Nat) (a b : Dc) : Bool :=
  match a, b with
  | .P, _ => true
  | _, .P => true
  | .M k, .M l => !k.testBit j && !l.testBit i
  | _, _ => false

def appO (hp : H) (id : Nat) (oo : Option AO) : H := match oo with | some o => upd hp id o | none => hp
def hideH (k nx n : Nat) (hp : H) : H := fun id => if nx ≤ id ∧ id < nx + n ∧ k.testBit (id - nx) = false then none else hp id

theorem hsel_ne {m nx n : Nat} (h0 : ¬ m = 0) (h1 : ¬ m = 1) (hp : H) : hsel m nx n hp = hideH (m / 2 - 1) nx n hp := by
  unfold hsel; split <;> first | omega | rfl
theorem hsel_one (nx n : Nat) (hp : H) : hsel 1 nx n hp = fun _ => none := rfl

theorem eff_P {m nx n : Nat} {op : Op} {ρ : Operand → AV} (hf : ∀ f, ρ (.func f) = .fn f []) (h : dcOf P Γ m op = .P) (hp hp2 : H) (id id2 cx cx2 : Nat) {r : AV × H × Nat} (hr : eff P Γ op ρ m nx n hp id cx = some r) :
    r.2 = (hp, cx) ∧ eff P Γ op ρ m nx n hp2 id2 cx2 = some (r.1, hp2, cx2) := by
  unfold dcOf at h
  unfold eff at hr ⊢
  cases hc : cls P op with
  | pure =>
    simp only [hc] at hr ⊢
    replace hr := obind_inv hr; obtain ⟨x, hx, hr⟩ := hr
    obtain rfl := Option.some.inj hr
    exact ⟨rfl, by rw [hx]; rfl⟩
  | read =>
    simp only [hc] at h hr ⊢
    split at h
    · cases h
    · split at h
      · rename_i h1; subst h1
        simp only [hsel_one] at hr ⊢
        replace hr := obind_inv hr; obtain ⟨x, hx, hr⟩ := hr
        obtain rfl := Option.some.inj hr
        exact ⟨rfl, by rw [hx]; rfl⟩
      · cases h
  | new => simp [hc] at h
  | write => simp [hc] at h
  | call =>
    simp only [hc] at h hr ⊢
    cases op with
    | call c =>
      obtain ⟨callee, args, ats⟩ := c
      simp only at h
      cases callee with
      | value fo =>
        cases fo with
        | func f =>
          simp only at h
          simp only [callOp, hf] at hr ⊢
          unfold callA at hr ⊢
          cases hΓ : Γ f with
          | none => simp [hΓ] at h
          | some sp =>
            cases sp with
            | heap g => simp [hΓ] at h
            | fresh sc g => simp only [hΓ] at h; split at h <;> cases h
            | pure sc g =>
              cases sc with
              | true =>
                simp only [hΓ] at h hr ⊢
                split at h
                · cases h
                · split at h
                  · rename_i h1; subst h1
                    simp only [hsel_one] at hr ⊢
                    replace hr := obind_inv hr; obtain ⟨x, hx, hr⟩ := hr
                    replace hr := obind_inv hr; obtain ⟨y, hy, hr⟩ := hr
                    replace hr := guardO_inv hr; obtain ⟨hn, hr⟩ := hr
                    obtain rfl := Option.some.inj hr
                    exact ⟨rfl, by rw [hx, obind_some, hy, obind_some, guardO_true _ hn]⟩
                  · cases h
              | false =>
                simp only [hΓ] at h hr ⊢
                split at h
                · cases h
                · rename_i h0
                  rw [if_neg h0] at hr ⊢
                  replace hr := obind_inv hr; obtain ⟨x, hx, hr⟩ := hr
                  replace hr := obind_inv hr; obtain ⟨y, hy, hr⟩ := hr
                  obtain rfl := Option.some.inj hr
                  exact ⟨rfl, by rw [hx, obind_some, hy, obind_some]⟩
        | _ => cases h
      | _ => cases h
    | _ => cases h

theorem eff_M {m nx n k : Nat} {op : Op} {ρ : Operand → AV} (hf : ∀ f, ρ (.func f) = .fn f []) (h : dcOf P Γ m op = .M k) (hp hp2 : H) (hh : hideH k nx n hp2 = hideH k nx n hp) (id cx cx2 : Nat) {r : AV × H × Nat} (hr : eff P Γ op ρ m nx n hp id cx = some r) :
    ∃ oo, r.2 = (appO hp id oo, cx) ∧ eff P Γ op ρ m nx n hp2 id cx2 = some (r.1, appO hp2 id oo, cx2) := by
  unfold dcOf at h
  unfold eff at hr ⊢
  cases hc : cls P op with
  | pure => simp [hc] at h
  | read =>
    simp only [hc] at h hr ⊢
    split at h
    · cases h
    · split at h
      · cases h
      · rename_i h0 h1
        obtain rfl := Dc.M.inj h
        rw [hsel_ne h0 h1] at hr ⊢
        replace hr := obind_inv hr; obtain ⟨x, hx, hr⟩ := hr
        obtain rfl := Option.some.inj hr
        exact ⟨none, rfl, by rw [hh, hx]; rfl⟩
  | new =>
    simp only [hc] at hr ⊢
    replace hr := obind_inv hr; obtain ⟨x, hx, hr⟩ := hr
    obtain rfl := Option.some.inj hr
    exact ⟨some _, rfl, by rw [hx]; rfl⟩
  | write => simp [hc] at h
  | call =>
    simp only [hc] at h hr ⊢
    cases op with
    | call c =>
      obtain ⟨callee, args, ats⟩ := c
      simp only at h
      cases callee with
      | value fo =>
        cases fo with
        | func f =>
          simp only at h
          simp only [callOp, hf] at hr ⊢
          unfold callA at hr ⊢
          cases hΓ : Γ f with
          | none => simp [hΓ] at h
          | some sp =>
            cases sp with
            | heap g => simp [hΓ] at h
            | pure sc g =>
              cases sc with
              | true =>
                simp only [hΓ] at h hr ⊢
                split at h
                · cases h
                · split at h
                  · cases h
                  · rename_i h0 h1
                    obtain rfl := Dc.M.inj h
                    rw [hsel_ne h0 h1] at hr ⊢
                    replace hr := obind_inv hr; obtain ⟨x, hx, hr⟩ := hr
                    replace hr := obind_inv hr; obtain ⟨y, hy, hr⟩ := hr
                    replace hr := guardO_inv hr; obtain ⟨hn, hr⟩ := hr
                    obtain rfl := Option.some.inj hr
                    exact ⟨none, rfl, by rw [hh, hx, obind_some, hy, obind_some, guardO_true _ hn]; rfl⟩
              | false => simp only [hΓ] at h; split at h <;> cases h
            | fresh sc g =>
              simp only [hΓ] at h
              split at h
              · cases h
              · rename_i h0
                obtain rfl := Dc.M.inj h
                cases sc with
                | true =>
                  simp only [hΓ] at hr ⊢
                  have hs : hsel m nx n hp2 = hsel m nx n hp := by
                    by_cases h1 : m = 1
                    · subst h1; rfl
                    · rw [hsel_ne h0 h1, hsel_ne h0 h1, hh]
                  rw [hs]
                  replace hr := obind_inv hr; obtain ⟨x, hx, hr⟩ := hr
                  replace hr := obind_inv hr; obtain ⟨y, hy, hr⟩ := hr
                  replace hr := guardO_inv hr; obtain ⟨hn, hr⟩ := hr
                  obtain rfl := Option.some.inj hr
                  exact ⟨some _, rfl, by rw [hx, obind_some, hy, obind_some, guardO_true _ hn]; rfl⟩
                | false =>
                  simp only [hΓ] at hr ⊢
                  rw [if_neg h0] at hr ⊢
                  replace hr := obind_inv hr; obtain ⟨x, hx, hr⟩ := hr
                  replace hr := obind_inv hr; obtain ⟨y, hy, hr⟩ := hr
                  obtain rfl := Option.some.inj hr
                  exact ⟨some _, rfl, by rw [hx, obind_some, hy, obind_some]; rfl⟩
        | _ => cases h
      | _ => cases h
    | _ => cases h

theorem parts_congr {ρ ρ' : Operand → AV} {parts : Array (Nat × Operand)} (h : ∀ y ∈ (parts.toList.map (·.2)).toArray, ρ y = ρ' y) : (parts.toList.map fun p => (p.1, ρ p.2)) = parts.toList.map fun p => (p.1, ρ' p.2) := by
  apply List.map_congr_left
  intro p hp
  rw [h p.2 (by simp only [List.mem_toArray, List.mem_map]; exact ⟨p, hp, rfl⟩)]

theorem omap_congr {ρ ρ' : Operand → AV} {x : Option Operand} (h : ∀ y ∈ x.toArray, ρ y = ρ' y) : x.map ρ = x.map ρ' := by
  cases x with
  | none => rfl
  | some y => simp only [Option.map_some]; rw [h y (by simp)]

theorem args_congr {ρ ρ' : Operand → AV} {args : Array Operand} (h : ∀ y ∈ args, ρ y = ρ' y) : args.toList.map ρ = args.toList.map ρ' :=
  List.map_congr_left fun y hy => h y (Array.mem_toList_iff.1 hy)

theorem pureOp_congr {op : Op} {ρ ρ' : Operand → AV} (h : ∀ y ∈ op.operands, ρ y = ρ' y) : pureOp P op ρ = pureOp P op ρ' := by
  cases op with
  | build t parts => simp only [Op.operands] at h; simp only [pureOp, parts_congr h]
  | makeFunc fn first captured =>
    simp only [Op.operands, Array.mem_append] at h
    cases fn <;> simp only [pureOp, args_congr (fun y hy => h y (.inr hy))]
  | typeAssert x xt t ok =>
    have hx : ρ x = ρ' x := h x (by simp [Op.operands])
    cases ok <;> simp only [pureOp, hx]
  | slice t x lo hi mx =>
    simp only [Op.operands, Array.mem_append] at h
    cases mx with
    | none => simp only [pureOp, h x (.inl (.inl (.inl (by simp)))), omap_congr (fun y hy => h y (.inl (.inl (.inr hy)))), omap_congr (fun y hy => h y (.inl (.inr hy)))]
    | some m => simp only [pureOp, h x (.inl (.inl (.inl (by simp)))), omap_congr (fun y hy => h y (.inl (.inl (.inr hy)))), omap_congr (fun y hy => h y (.inl (.inr hy))), h m (.inr (by simp))]
  | call c =>
    obtain ⟨callee, args, ats⟩ := c
    have hA : ∀ y ∈ args.toList, ρ y = ρ' y := fun y hy => h y (by simp only [Op.operands, Call.operands, Array.mem_append]; exact .inr (Array.mem_toList_iff.1 hy))
    simp only [pureOp, callLen]
    split
    · rename_i x t ts e1 e2; rw [hA x (by rw [e1]; simp)]
    · rename_i x y e1; rw [hA x (by rw [e1]; simp), hA y (by rw [e1]; simp)]
    · rename_i x y e1; rw [hA x (by rw [e1]; simp), hA y (by rw [e1]; simp)]
    · rename_i x t ts e1 e2; rw [hA x (by rw [e1]; simp)]
    · rfl
  | _ => simp_all [Op.operands, pureOp]

theorem readOp_congr {op : Op} {ρ ρ' : Operand → AV} (hp : H) (h : ∀ y ∈ op.operands, ρ y = ρ' y) : readOp P op ρ hp = readOp P op ρ' hp := by
  cases op with
  | call c =>
    obtain ⟨callee, args, ats⟩ := c
    have hA : ∀ y ∈ args.toList, ρ y = ρ' y := fun y hy => h y (by simp only [Op.operands, Call.operands, Array.mem_append]; exact .inr (Array.mem_toList_iff.1 hy))
    simp only [readOp]
    split
    · rename_i x t e1 e2; rw [hA x (by rw [e1]; simp)]
    · rfl
  | _ => first | rfl | simp_all [Op.operands, readOp]

theorem newOp_congr {op : Op} {ρ ρ' : Operand → AV} (id : Nat) (h : ∀ y ∈ op.operands, ρ y = ρ' y) : newOp P op ρ id = newOp P op ρ' id := by
  cases op with
  | buildSlice t len parts => simp only [Op.operands] at h; simp only [newOp, parts_congr h]
  | _ => first | rfl | simp_all [Op.operands, newOp]

theorem writeOp_congr {op : Op} {ρ ρ' : Operand → AV} (hp : H) (id : Nat) (h : ∀ y ∈ op.operands, ρ y = ρ' y) : writeOp P op ρ hp id = writeOp P op ρ' hp id := by
  cases op with
  | call c =>
    obtain ⟨callee, args, ats⟩ := c
    have hA : ∀ y ∈ args.toList, ρ y = ρ' y := fun y hy => h y (by simp only [Op.operands, Call.operands, Array.mem_append]; exact .inr (Array.mem_toList_iff.1 hy))
    simp only [writeOp]
    split
    · rename_i x y t t' e1 e2; rw [hA x (by rw [e1]; simp), hA y (by rw [e1]; simp)]
    · rename_i x y t t' e1 e2; rw [hA x (by rw [e1]; simp), hA y (by rw [e1]; simp)]
    · rename_i x t e1 e2; rw [hA x (by rw [e1]; simp)]
    · rename_i x y t t' e1 e2; rw [hA x (by rw [e1]; simp), hA y (by rw [e1]; simp)]
    · rfl
  | makeMap t r => cases r <;> rfl
  | _ => first | rfl | simp_all [Op.operands, writeOp]

theorem callOp_congr {op : Op} {ρ ρ' : Operand → AV} (m nx n : Nat) (hp : H) (id cx : Nat) (h : ∀ y ∈ op.operands, ρ y = ρ' y) : callOp Γ op ρ m nx n hp id cx = callOp Γ op ρ' m nx n hp id cx := by
  cases op with
  | call c =>
    obtain ⟨callee, args, ats⟩ := c
    have hA : ∀ y ∈ args, ρ y = ρ' y := fun y hy => h y (by simp only [Op.operands, Call.operands, Array.mem_append]; exact .inr hy)
    simp only [callOp, args_congr hA]
    cases callee with
    | value f => simp only [h f (by simp [Op.operands, Call.operands])]
    | _ => rfl
  | _ => rfl

theorem eff_congr {op : Op} {ρ ρ' : Operand → AV} (m nx n : Nat) (hp : H) (id cx : Nat) (h : ∀ y ∈ op.operands, ρ y = ρ' y) : eff P Γ op ρ m nx n hp id cx = eff P Γ op ρ' m nx n hp id cx := by
  unfold eff
  rw [pureOp_congr h, readOp_congr _ h, newOp_congr _ h, writeOp_congr _ _ h, callOp_congr _ _ _ _ _ _ h]

theorem ev_put {d : Option Tmp} {x : AV} {fr : List (Nat × AV)} {o : Oper} (h : ∀ t, d = some t → t ∉ o.looksAt ops) : ∀ y ∈ o.op.operands, ev GL (putA d x fr) y = ev GL fr y := by
  intro y hy
  cases y with
  | tmp t =>
    simp only [ev, look_put]
    rw [if_neg]
    intro e
    refine h t e ?_
    simp only [Oper.looksAt, List.mem_append, List.mem_filterMap]
    exact .inl ⟨.tmp t, by simpa using hy, rfl⟩
  | _ => rfl

theorem gdO_put {d : Option Tmp} {x : AV} {fr : List (Nat × AV)} {o : Oper} (h : ∀ t, d = some t → t ∉ o.looksAt ops) : gdO ops (putA d x fr) o = gdO ops fr o := by
  unfold gdO
  cases hg : o.guard with
  | none => rfl
  | some jw =>
    obtain ⟨j, want⟩ := jw
    simp only
    cases ht : (ops[j]?).bind (·.dst) with
    | none => rfl
    | some t =>
      simp only [look_put]
      rw [if_neg]
      intro e
      refine h t e ?_
      simp only [Oper.looksAt, hg, ht, List.mem_append]
      exact .inr (by simp)

theorem look_put_comm {d e : Option Tmp} (h : ∀ t, d = some t → e ≠ some t) (x y : AV) (fr : List (Nat × AV)) (t : Nat) : look (putA e y (putA d x fr)) t = look (putA d x (putA e y fr)) t := by
  simp only [look_put]
  by_cases h1 : e = some t
  · rw [if_pos h1]
    by_cases h2 : d = some t
    · exact absurd h1 (h t h2)
    · rw [if_neg h2, if_pos h1]
  · rw [if_neg h1]
    by_cases h2 : d = some t
    · simp [h2]
    · simp [h1, h2]

theorem appO_comm {hp : H} {i j : Nat} (h : i ≠ j) (a b : Option AO) : appO (appO hp i a) j b = appO (appO hp j b) i a := by
  cases a with
  | none => rfl
  | some a =>
    cases b with
    | none => rfl
    | some b =>
      funext k
      simp only [appO, upd_apply]
      by_cases h1 : k = j
      · subst h1; rw [if_pos rfl, if_neg (Ne.symm h)]
        try simp
      · rw [if_neg h1]
        by_cases h2 : k = i
        · simp [h2]
        · simp [h1, h2]

theorem hideH_app {m nx n k : Nat} (hp : H) (hk : k < n) (hm : m.testBit k = false) (oo : Option AO) : hideH m nx n (appO hp (nx + k) oo) = hideH m nx n hp := by
  cases oo with
  | none => rfl
  | some o =>
    funext id
    simp only [hideH, appO, upd_apply]
    by_cases h1 : nx ≤ id ∧ id < nx + n ∧ m.testBit (id - nx) = false
    · rw [if_pos h1, if_pos h1]
    · rw [if_neg h1, if_neg h1, if_neg (fun e => h1 (by subst e; exact ⟨by omega, by omega, by rw [Nat.add_sub_cancel_left]; exact hm⟩))]

/-- Two operations that don't meet may change places. -/
theorem step_comm {i j : Nat} {x y : Oper} {s s1 s2 : S} (hap : x.apart ops y = true) (hc : compat i j (dcOf P Γ (md i) x.op) (dcOf P Γ (md j) y.op) = true) (hij : i ≠ j) (hi : i < ops.size) (hj : j < ops.size)
    (h1 : stepO P Γ GL md ops i x s = some s1) (h2 : stepO P Γ GL md ops j y s1 = some s2) :
    ∃ t1 t2, stepO P Γ GL md ops j y s = some t1 ∧ stepO P Γ GL md ops i x t1 = some t2 ∧ Seqv s2 t2 := by
  obtain ⟨a1, a2, a3⟩ := Oper.apart_spec hap
  have hfn : ∀ fr f, ev GL fr (.func f) = .fn f [] := fun _ _ => rfl
  unfold stepO at h1 h2 ⊢
  replace h1 := obind_inv h1; obtain ⟨bx, hbx, h1⟩ := h1
  replace h2 := obind_inv h2; obtain ⟨by', hby, h2⟩ := h2
  have idne : s.nx + i ≠ s.nx + j := by omega
  cases bx with
  | false =>
    obtain rfl := Option.some.inj h1
    simp only at hby h2
    rw [gdO_put a1] at hby
    rw [hby, obind_some]
    cases by' with
    | false =>
      obtain rfl := Option.some.inj h2
      refine ⟨_, { fr := putA x.dst (.tup []) (putA y.dst (.tup []) s.fr), hp := s.hp, nx := s.nx, cx := s.cx }, rfl, ?_, ?_⟩
      · simp only []; rw [gdO_put a3, hbx, obind_some]
      · exact ⟨fun t => look_put_comm a2 _ _ _ t, rfl, rfl, rfl⟩
    | true =>
      replace h2 := obind_inv h2; obtain ⟨r, hr, h2⟩ := h2
      obtain rfl := Option.some.inj h2
      rw [eff_congr _ _ _ _ _ _ (ev_put a1)] at hr
      simp only [hr, obind_some]
      refine ⟨_, { fr := putA x.dst (.tup []) (putA y.dst r.1 s.fr), hp := r.2.1, nx := s.nx, cx := r.2.2 }, rfl, ?_, ?_⟩
      · simp only []; rw [gdO_put a3, hbx, obind_some]
      · exact ⟨fun t => look_put_comm a2 _ _ _ t, rfl, rfl, rfl⟩
  | true =>
    replace h1 := obind_inv h1; obtain ⟨rx, hrx, h1⟩ := h1
    obtain rfl := Option.some.inj h1
    simp only at hby h2
    rw [gdO_put a1] at hby
    rw [hby, obind_some]
    cases by' with
    | false =>
      obtain rfl := Option.some.inj h2
      refine ⟨_, { fr := putA x.dst rx.1 (putA y.dst (.tup []) s.fr), hp := rx.2.1, nx := s.nx, cx := rx.2.2 }, rfl, ?_, ?_⟩
      · simp only []
        rw [gdO_put a3, hbx, obind_some]
        simp only []
        rw [eff_congr _ _ _ _ _ _ (ev_put a3), hrx, obind_some]
      · exact ⟨fun t => look_put_comm a2 _ _ _ t, rfl, rfl, rfl⟩
    | true =>
      replace h2 := obind_inv h2; obtain ⟨ry, hry, h2⟩ := h2
      obtain rfl := Option.some.inj h2
      rw [eff_congr _ _ _ _ _ _ (ev_put a1)] at hry
      have fin : ∀ (hp1 : H) (cx1 : Nat), eff P Γ y.op (ev GL s.fr) (md j) s.nx ops.size s.hp (s.nx + j) s.cx = some (ry.1, hp1, cx1) →
          eff P Γ x.op (ev GL s.fr) (md i) s.nx ops.size hp1 (s.nx + i) cx1 = some (rx.1, ry.2.1, ry.2.2) →
          ∃ t1 t2, (obind (eff P Γ y.op (ev GL s.fr) (md j) s.nx ops.size s.hp (s.nx + j) s.cx) fun r => some ({ fr := putA y.dst r.1 s.fr, hp := r.2.1, nx := s.nx, cx := r.2.2 } : S)) = some t1 ∧
            (obind (gdO ops t1.fr x) fun b => match b with
              | true => obind (eff P Γ x.op (ev GL t1.fr) (md i) t1.nx ops.size t1.hp (t1.nx + i) t1.cx) fun r => some ({ fr := putA x.dst r.1 t1.fr, hp := r.2.1, nx := t1.nx, cx := r.2.2 } : S)
              | false => some { t1 with fr := putA x.dst (.tup []) t1.fr }) = some t2 ∧
            Seqv { fr := putA y.dst ry.1 (putA x.dst rx.1 s.fr), hp := ry.2.1, nx := s.nx, cx := ry.2.2 } t2 := by
        intro hp1 cx1 e1 e2
        rw [e1, obind_some]
        refine ⟨_, { fr := putA x.dst rx.1 (putA y.dst ry.1 s.fr), hp := ry.2.1, nx := s.nx, cx := ry.2.2 }, rfl, ?_, ?_⟩
        · simp only []
          rw [gdO_put a3, hbx, obind_some]
          simp only []
          rw [eff_congr _ _ _ _ _ _ (ev_put a3), e2, obind_some]
        · exact ⟨fun t => look_put_comm a2 _ _ _ t, rfl, rfl, rfl⟩
      cases hx : dcOf P Γ (md i) x.op with
      | P =>
        obtain ⟨p1, _⟩ := eff_P (P := P) (Γ := Γ) (hfn s.fr) hx _ s.hp _ 0 _ 0 hrx
        obtain ⟨rx1, rx2⟩ := rx
        simp only at p1
        subst p1
        simp only at hry
        exact fin ry.2.1 ry.2.2 hry (eff_P (P := P) (Γ := Γ) (hfn s.fr) hx _ _ _ _ _ _ hrx).2
      | W =>
        rw [hx] at hc
        cases hy : dcOf P Γ (md j) y.op with
        | P =>
          obtain ⟨ry1, ry2⟩ := ry
          obtain ⟨p1, p2⟩ := eff_P (P := P) (Γ := Γ) (hfn s.fr) hy _ s.hp _ (s.nx + j) _ s.cx hry
          simp only at p1
          subst p1
          exact fin s.hp s.cx p2 hrx
        | M _ => rw [hy] at hc; cases hc
        | W => rw [hy] at hc; cases hc
      | M kx =>
        rw [hx] at hc
        cases hy : dcOf P Γ (md j) y.op with
        | P =>
          obtain ⟨ry1, ry2⟩ := ry
          obtain ⟨p1, p2⟩ := eff_P (P := P) (Γ := Γ) (hfn s.fr) hy _ s.hp _ (s.nx + j) _ s.cx hry
          simp only at p1
          subst p1
          exact fin s.hp s.cx p2 hrx
        | W => rw [hy] at hc; cases hc
        | M ky =>
          rw [hy] at hc
          simp only [compat, Bool.and_eq_true, Bool.not_eq_true'] at hc
          obtain ⟨ox, q1, _⟩ := eff_M (P := P) (Γ := Γ) (hfn s.fr) hx s.hp s.hp rfl _ _ s.cx hrx
          obtain ⟨rx1, rx2⟩ := rx
          simp only at q1
          subst q1
          simp only at hry
          obtain ⟨oy, q2, q3⟩ := eff_M (P := P) (Γ := Γ) (hfn s.fr) hy (appO s.hp (s.nx + i) ox) s.hp (hideH_app s.hp hi hc.2 ox).symm _ _ s.cx hry
          obtain ⟨ry1, ry2⟩ := ry
          simp only at q2
          subst q2
          obtain ⟨ox', q4, q5⟩ := eff_M (P := P) (Γ := Γ) (hfn s.fr) hx s.hp (appO s.hp (s.nx + j) oy) (hideH_app s.hp hj hc.1 oy) _ _ s.cx hrx
          refine fin _ _ q3 ?_
          rw [q5]
          have : appO (appO s.hp (s.nx + j) oy) (s.nx + i) ox' = appO (appO s.hp (s.nx + i) ox) (s.nx + j) oy := by
            have e : appO s.hp (s.nx + i) ox = appO s.hp (s.nx + i) ox' := by simpa using q4
            rw [e, appO_comm (Ne.symm idne)]
          simp only [this]

end
end Go.AX

namespace Go.AX
open Go

inductive Anc (ops : Array Oper) : Nat → Nat → Prop
  | edge {m : Nat} {o : Oper} {e : Edge} : ops[m]? = some o → e ∈ o.after → Region.binds .any e = true → Anc ops m e.on
  | step {m j : Nat} {o : Oper} {e : Edge} : ops[m]? = some o → e ∈ o.after → Region.binds .any e = true → Anc ops e.on j → Anc ops m j

theorem edges_fold (acc : Array Nat) (j : Nat) : ∀ (l : List Edge) (s : Nat), (l.foldl (fun s e => if Region.binds .any e then s ||| 2 ^ e.on ||| acc.getD e.on 0 else s) s).testBit j = true →
    s.testBit j = true ∨ ∃ e ∈ l, Region.binds .any e = true ∧ (j = e.on ∨ (acc.getD e.on 0).testBit j = true)
  | [], s, h => .inl h
  | e :: r, s, h => by
    simp only [List.foldl_cons] at h
    rcases edges_fold acc j r _ h with h | ⟨e', h1, h2, h3⟩
    · split at h
      · rename_i hb
        rw [Nat.testBit_or, Nat.testBit_or, Bool.or_eq_true, Bool.or_eq_true, Nat.testBit_two_pow] at h
        rcases h with (h | h) | h
        · exact .inl h
        · exact .inr ⟨e, by simp, hb, .inl (by simpa [eq_comm] using h)⟩
        · exact .inr ⟨e, by simp, hb, .inr h⟩
      · exact .inl h
    · exact .inr ⟨e', by simp [h1], h2, h3⟩

theorem before_anc_aux (ops : Array Oper) : ∀ (l pre : List Oper) (acc : Array Nat), ops.toList = pre ++ l → acc.size = pre.length → (∀ m j, (acc.getD m 0).testBit j = true → Anc ops m j) →
    ∀ m j, ((l.foldl (fun acc o => acc.push (o.after.foldl (fun s e => if Region.binds .any e then s ||| 2 ^ e.on ||| acc.getD e.on 0 else s) 0)) acc).getD m 0).testBit j = true → Anc ops m j
  | [], _, _, _, _, h => h
  | o :: r, pre, acc, ho, hs, h => by
    simp only [List.foldl_cons]
    refine before_anc_aux ops r (pre ++ [o]) _ (by simp [ho]) (by simp [hs]) ?_
    intro m j hm
    rw [Array.getD_eq_getD_getElem?, Array.getElem?_push] at hm
    split at hm
    · rename_i e
      subst e
      simp only [Option.getD_some] at hm
      rw [← Array.foldl_toList] at hm
      have hget : ops[acc.size]? = some o := by rw [← Array.getElem?_toList, ho, hs]; simp
      rcases edges_fold acc j o.after.toList 0 hm with hm | ⟨e, h1, h2, h3⟩
      · simp at hm
      · rcases h3 with rfl | h3
        · exact .edge hget (Array.mem_toList_iff.1 h1) h2
        · exact .step hget (Array.mem_toList_iff.1 h1) h2 (h _ _ h3)
    · exact h m j (by rw [Array.getD_eq_getD_getElem?]; exact hm)

theorem before_anc (ops : Array Oper) (m j : Nat) (h : ((Region.before ops).getD m 0).testBit j = true) : Anc ops m j := by
  unfold Region.before at h
  rw [← Array.foldl_toList] at h
  exact before_anc_aux ops ops.toList [] #[] (by simp) rfl (fun m j hm => by simp at hm) m j h

def okDraw (P : Program) (Γ : Env) (md : Nat → Nat) (ops : Array Oper) : Bool :=
  let b := Region.before ops
  (List.range ops.size).all fun j => match ops[j]? with
    | none => true
    | some y => y.after.all (fun e => !Region.binds .any e || decide (e.on < j)) &&
      let bj := b.getD j 0
      (List.range j).all fun i => bj.testBit i || match ops[i]? with
        | none => true
        | some x => x.apart ops y && compat i j (dcOf P Γ (md i) x.op) (dcOf P Γ (md j) y.op)

def runIx (P : Program) (Γ : Env) (GL : Nat → Option (List AV)) (md : Nat → Nat) (ops : Array Oper) : List Nat → S → Option S
  | [], s => some s
  | i :: r, s => match ops[i]? with
    | some o => obind (stepO P Γ GL md ops i o s) fun s' => runIx P Γ GL md ops r s'
    | none => none

section
variable {P : Program} {Γ : Env} {c : Ctx} {σ0 : Nat → Loc} {I0 : Nat → Prop} {w0 : World} {GL : Nat → Option (List AV)} {md : Nat → Nat} {ops : Array Oper}

theorem runIx_eqv : ∀ (l : List Nat) {s t s' : S}, runIx P Γ GL md ops l s = some s' → Seqv s t → ∃ t', runIx P Γ GL md ops l t = some t' ∧ Seqv s' t'
  | [], s, t, s', h, he => by obtain rfl := Option.some.inj h; exact ⟨t, rfl, he⟩
  | i :: r, s, t, s', h, he => by
    simp only [runIx] at h ⊢
    cases ho : ops[i]? with
    | none => simp [ho] at h
    | some o =>
      simp only [ho] at h ⊢
      replace h := obind_inv h; obtain ⟨s1, h1, h⟩ := h
      obtain ⟨t1, e1, e2⟩ := stepO_eqv h1 he
      obtain ⟨t', e3, e4⟩ := runIx_eqv r h e2
      exact ⟨t', by rw [e1, obind_some]; exact e3, e4⟩

theorem runL_runIx : ∀ (l : List Oper) (k : Nat) (s : S), (∀ m, l[m]? = ops[k + m]?) → runL P Γ GL md ops k l s = runIx P Γ GL md ops (List.range' k l.length) s
  | [], k, s, _ => rfl
  | o :: r, k, s, h => by
    have h0 : ops[k]? = some o := by have := (h 0).symm; simpa using this
    simp only [runL, List.length_cons, List.range'_succ, runIx, h0]
    congr 1
    funext s'
    exact runL_runIx r (k + 1) s' (fun m => by have := h (m + 1); simpa [Nat.add_assoc, Nat.add_comm 1 m] using this)

theorem forward {i : Nat} {x : Oper} (hx : ops[i]? = some x) : ∀ (l1 l2 : List Nat) {s sf : S},
    (∀ j ∈ l1, j ≠ i ∧ ∃ y, ops[j]? = some y ∧ y.apart ops x = true ∧ compat j i (dcOf P Γ (md j) y.op) (dcOf P Γ (md i) x.op) = true) →
    runIx P Γ GL md ops (l1 ++ i :: l2) s = some sf → ∃ s1 sf', stepO P Γ GL md ops i x s = some s1 ∧ runIx P Γ GL md ops (l1 ++ l2) s1 = some sf' ∧ Seqv sf sf'
  | [], l2, s, sf, _, h => by
    simp only [List.nil_append, runIx, hx] at h
    replace h := obind_inv h; obtain ⟨s1, h1, h⟩ := h
    exact ⟨s1, sf, h1, h, Seqv.refl _⟩
  | j :: r, l2, s, sf, hl, h => by
    obtain ⟨hji, y, hy, hap, hc⟩ := hl j (by simp)
    simp only [List.cons_append, runIx, hy] at h
    replace h := obind_inv h; obtain ⟨sj, hj, h⟩ := h
    obtain ⟨s2, sf2, e1, e2, e3⟩ := forward hx r l2 (fun k hk => hl k (by simp [hk])) h
    obtain ⟨t1, t2, c1, c2, c3⟩ := step_comm hap hc hji (Array.getElem?_eq_some_iff.1 hy).1 (Array.getElem?_eq_some_iff.1 hx).1 hj e1
    obtain ⟨sf3, g1, g2⟩ := runIx_eqv (r ++ l2) e2 c3
    refine ⟨t1, sf3, c1, ?_, e3.trans g2⟩
    simp only [List.cons_append, runIx, hy]
    rw [c2, obind_some]; exact g1

def unl (n : Nat) (listed : Array Bool) : List Nat := (List.range n).filter fun i => !listed.getD i true

theorem R.eqv {rem : Nat → Prop} {s t : S} {a : Act} {w : World} (h : R c σ0 I0 w0 rem s a w) (he : Seqv s t) : R c σ0 I0 w0 rem t a w := by
  obtain ⟨e1, e2, e3, e4⟩ := he
  obtain ⟨⟨σ, I, a1, a2, a3⟩, b, d, e, e0⟩ := h
  refine ⟨⟨σ, I, ?_, a2, fun k => by rw [← e1 k]; exact a3 k⟩, b, d, ?_, ?_⟩
  · rw [← e2, ← e3, ← e4]; exact a1
  · rw [← e3, ← e4]; exact e
  · rw [← e3, ← e4]; exact e0

theorem drawn_sound (hΓ : EnvOK P c.GL Γ) {Q : Exit → Act → World → Prop} (hdst : okDst c.nt ops.toList = true) (hok : okDraw P Γ md ops = true) {s' : S}
    (hQ : ∀ a' w', R c σ0 I0 w0 (fun _ => False) s' a' w' → Q .normal a' w') :
    ∀ (fuel : Nat) (listed : Array Bool) (s sf : S) (a : Act) (w : World), listed.size = ops.size → (unl ops.size listed).length ≤ fuel →
      (∀ m o, listed.getD m false = true → ops[m]? = some o → ∀ e ∈ o.after, Region.binds .any e = true → listed.getD e.on false = true) →
      runIx P Γ c.GL md ops (unl ops.size listed) s = some sf → Seqv s' sf → R c σ0 I0 w0 (fun k => k ∈ unl ops.size listed) s a w → wpAny P .any ops Q fuel listed a w := by
  have hchk : ∀ j y, ops[j]? = some y → (∀ e ∈ y.after, Region.binds .any e = true → e.on < j) ∧ ∀ i x, i < j → ops[i]? = some x → ((Region.before ops).getD j 0).testBit i = true ∨ (x.apart ops y = true ∧ compat i j (dcOf P Γ (md i) x.op) (dcOf P Γ (md j) y.op) = true) := by
    intro j y hy
    have hlt := (Array.getElem?_eq_some_iff.1 hy).1
    have h := List.all_eq_true.1 hok j (List.mem_range.2 hlt)
    simp only [hy, Bool.and_eq_true] at h
    refine ⟨fun e he hb => ?_, fun i x hi hx => ?_⟩
    · have := Array.all_eq_true_iff_forall_mem.1 h.1 e he
      simpa [hb] using this
    · have := List.all_eq_true.1 h.2 i (List.mem_range.2 hi)
      simp only [hx, Bool.or_eq_true, Bool.and_eq_true] at this
      exact this
  have mem_unl : ∀ (listed : Array Bool) i, i ∈ unl ops.size listed ↔ i < ops.size ∧ listed.getD i true = false := by
    intro listed i; simp [unl]
  have done : ∀ (listed : Array Bool) (s sf : S) (a : Act) (w : World), unl ops.size listed = [] → runIx P Γ c.GL md ops (unl ops.size listed) s = some sf → Seqv s' sf → R c σ0 I0 w0 (fun k => k ∈ unl ops.size listed) s a w → Q .normal a w := by
    intro listed s sf a w h0 hrun heq hR
    rw [h0] at hrun
    obtain rfl := Option.some.inj hrun
    exact hQ _ _ ((hR.un fun k hk => hk.elim).eqv heq.symm)
  have noready : ∀ (listed : Array Bool), listed.size = ops.size → (Region.ready .any ops listed = [] ↔ unl ops.size listed = []) := by
    intro listed hsz
    constructor
    · intro hr
      refine List.eq_nil_iff_forall_not_mem.2 fun i => ?_
      induction i using Nat.strongRecOn with
      | _ i ih =>
        intro hi
        obtain ⟨hlt, hun⟩ := (mem_unl listed i).1 hi
        have : i ∈ Region.ready .any ops listed := by
          rw [mem_ready]
          refine ⟨hun, ops[i], Array.getElem?_eq_getElem hlt, fun e he hb => ?_⟩
          have hlt' := (hchk i _ (Array.getElem?_eq_getElem hlt)).1 e he hb
          have hn := ih e.on hlt'
          rw [mem_unl] at hn
          have hs2 : e.on < listed.size := by omega
          rw [Array.getD_eq_getD_getElem?, Array.getElem?_eq_getElem hs2] at hn ⊢
          simp only [Option.getD_some] at hn ⊢
          cases hv : listed[e.on] with
          | true => rfl
          | false => exact absurd ⟨by omega, hv⟩ hn
        rw [hr] at this; cases this
    · intro h0
      refine List.eq_nil_iff_forall_not_mem.2 fun i hi => ?_
      rw [mem_ready] at hi
      obtain ⟨h1, o, ho, _⟩ := hi
      have : i ∈ unl ops.size listed := (mem_unl listed i).2 ⟨(Array.getElem?_eq_some_iff.1 ho).1, h1⟩
      rw [h0] at this; cases this
  intro fuel
  induction fuel with
  | zero =>
    intro listed s sf a w hsz hlen hdc hrun heq hR
    have h0 : unl ops.size listed = [] := List.eq_nil_of_length_eq_zero (by omega)
    exact ⟨(noready listed hsz).2 h0, done listed s sf a w h0 hrun heq hR⟩
  | succ fuel ih =>
    intro listed s sf a w hsz hlen hdc hrun heq hR
    refine ⟨fun hr => done listed s sf a w ((noready listed hsz).1 hr) hrun heq hR, fun i hi => ?_⟩
    obtain ⟨hun, x, hx, hall⟩ := mem_ready.1 hi
    have hlt := (Array.getElem?_eq_some_iff.1 hx).1
    have hmem : i ∈ unl ops.size listed := (mem_unl listed i).2 ⟨hlt, hun⟩
    have hanc : ∀ m j, Anc ops m j → (∀ o, ops[m]? = some o → ∀ e ∈ o.after, Region.binds .any e = true → listed.getD e.on false = true) → listed.getD j false = true := by
      intro m j ha
      induction ha with
      | edge ho he hb => exact fun h => h _ ho _ he hb
      | step ho he hb _ ih2 => exact fun h => ih2 fun o ho' e' he' hb' => hdc _ o (h _ ho _ he hb) ho' e' he' hb'
    obtain ⟨l1, l2, hl⟩ := List.append_of_mem hmem
    have hpw : (unl ops.size listed).Pairwise (· < ·) := List.Pairwise.filter _ List.pairwise_lt_range
    rw [hl] at hpw hrun
    have hlt1 : ∀ j ∈ l1, j < i := fun j hj => (List.pairwise_append.1 hpw).2.2 j hj i (by simp)
    have hlt2 : ∀ j ∈ l2, i < j := fun j hj => (List.pairwise_cons.1 (List.pairwise_append.1 hpw).2.1).1 j hj
    obtain ⟨s1, sf1, f1, f2, f3⟩ := forward hx l1 l2 (fun j hj => by
      have hjm : j ∈ unl ops.size listed := by rw [hl]; simp [hj]
      obtain ⟨hjlt, hjun⟩ := (mem_unl listed j).1 hjm
      refine ⟨by have := hlt1 j hj; omega, ops[j], Array.getElem?_eq_getElem hjlt, ?_⟩
      rcases (hchk i x hx).2 j _ (hlt1 j hj) (Array.getElem?_eq_getElem hjlt) with h | h
      · have := hanc i j (before_anc ops i j h) (fun o ho e he hb => by rw [hx] at ho; obtain rfl := Option.some.inj ho; exact hall e he hb)
        have hs2 : j < listed.size := by omega
        rw [Array.getD_eq_getD_getElem?, Array.getElem?_eq_getElem hs2] at hjun this
        simp only [Option.getD_some] at hjun this
        rw [hjun] at this; cases this
      · exact h) hrun
    have hnew : unl ops.size (listed.setIfInBounds i true) = l1 ++ l2 := by
      have e1 : unl ops.size (listed.setIfInBounds i true) = (unl ops.size listed).filter (fun k => k != i) := by
        unfold unl
        rw [List.filter_filter]
        refine List.filter_congr fun k hk => ?_
        by_cases hki : k = i
        · subst hki
          rw [Array.getD_eq_getD_getElem?, Array.getElem?_setIfInBounds_self_of_lt (by omega)]; simp
        · rw [getD_set_ne true (Ne.symm hki)]
          simp [hki]
      rw [e1, hl, List.filter_append, List.filter_cons]
      simp only [bne_self_eq_false, Bool.false_eq_true, if_false]
      congr 1
      · exact List.filter_eq_self.2 fun k hk => by have := hlt1 k hk; simp; omega
      · exact List.filter_eq_self.2 fun k hk => by have := hlt2 k hk; simp; omega
    have hstep := step_sound (K := wpAny P .any ops Q fuel (listed.setIfInBounds i true)) (Q := Q) (ops := ops) hΓ f1 (okDst_mem hdst (Array.mem_toList_iff.2 (Array.mem_of_getElem? hx))) (rem := fun k => k ∈ unl ops.size listed) hmem hR (fun a' w' hR' =>
      ih (listed.setIfInBounds i true) s1 sf1 a' w' (by simpa using hsz) (by rw [hnew]; rw [hl] at hlen; simp at hlen ⊢; omega) (fun m o hm ho e he hb => by
          by_cases hmi : m = i
          · subst hmi
            rw [hx] at ho; obtain rfl := Option.some.inj ho
            exact getD_set_true (hall e he hb)
          · rw [getD_set_ne false (Ne.symm hmi)] at hm
            exact getD_set_true (hdc m o hm ho e he hb))
        (by rw [hnew]; exact f2) (heq.trans f3) (hR'.un fun k hk => by
          rw [hnew] at hk
          rw [hl]
          simp only [List.mem_append, List.mem_cons] at hk ⊢
          rcases hk with hk | hk
          · exact ⟨.inl hk, by have := hlt1 k hk; omega⟩
          · exact ⟨.inr (.inr hk), by have := hlt2 k hk; omega⟩))
    unfold wpOp
    simp only [hx]
    split
    · rename_i hw; rw [if_pos hw] at hstep; exact .inl hstep
    · rename_i hw; rw [if_neg hw] at hstep; exact hstep

theorem draw_sound (hm : P.follows .mixedOrders = true) (hΓ : EnvOK P c.GL Γ) {id : Nat} {Q : Exit → Act → World → Prop} (hdst : okDst c.nt ops.toList = true) (hok : okDraw P Γ md ops = true) {s s' : S} {a : Act} {w : World}
    (h : runL P Γ c.GL md ops 0 ops.toList (enterR ops.size s) = some s') (hR : R c σ0 I0 w0 (fun _ => False) s a w) (hQ : ∀ a' w', R c σ0 I0 w0 (fun _ => False) s' a' w' → Q .normal a' w') :
    (Code.region id ops true).wp P Q a w := by
  have h0 : unl ops.size (Array.replicate ops.size false) = List.range ops.size := by
    unfold unl
    refine List.filter_eq_self.2 fun k hk => ?_
    rw [List.mem_range] at hk
    rw [Array.getD_eq_getD_getElem?, Array.getElem?_replicate, if_pos hk]; rfl
  refine wp_region_any hm (drawn_sound hΓ hdst hok hQ ops.size _ (enterR ops.size s) s' a _ (by simp) (by rw [h0]; simp) (fun m o hl => ?_) ?_ (Seqv.refl _) ?_)
  · rw [Array.getD_eq_getD_getElem?, Array.getElem?_replicate] at hl; split at hl <;> cases hl
  · rw [h0, List.range_eq_range', ← Array.length_toList, ← runL_runIx ops.toList 0 _ (by simp)]; exact h
  · exact ((hR.enter ops.size).un fun k hk => by rw [h0] at hk; exact List.mem_range.1 hk).world rfl rfl rfl rfl

end
end Go.AX

namespace Go.AX
open Go

/-- From the state s on, the code comes to Q. -/
def Awp (P : Program) (GL : Nat → Option (List AV)) (nt : Nat) (code : Code) (s : S) (Q : Exit → S → Prop) : Prop :=
  ∀ (c : Ctx), c.GL = GL → c.nt = nt → ∀ (σ0 : Nat → Loc) (I0 : Nat → Prop) (w0 : World) (a : Act) (w : World), R c σ0 I0 w0 (fun _ => False) s a w →
    code.wp P (fun e a' w' => ∃ s', Q e s' ∧ R c σ0 I0 w0 (fun _ => False) s' a' w') a w

/-- What a weaker state says, a stronger one says too. -/
structure Sub (s t : S) : Prop where
  fr : ∀ k, look s.fr k = .junk ∨ look s.fr k = look t.fr k
  hp : ∀ id o, s.hp id = some o → t.hp id = some o
  cx : t.cx ≤ s.cx

section
variable {P : Program} {GL : Nat → Option (List AV)} {nt : Nat} {Q : Exit → S → Prop} {s : S}

theorem R.sub {c : Ctx} {σ0 : Nat → Loc} {I0 : Nat → Prop} {w0 : World} {s t : S} {a : Act} {w : World} (h : R c σ0 I0 w0 (fun _ => False) t a w) (hs : Sub s t) (hn : s.nx = t.nx) : R c σ0 I0 w0 (fun _ => False) s a w := by
  obtain ⟨⟨σ, I, a1, a2, a3⟩, b, d, e, e0⟩ := h
  refine ⟨⟨σ, I, (a1.sub hs.hp).mono_un fun id hid => ?_, a2, fun k => ?_⟩, b, d, fun k hk => hk.elim, fun id hid => ?_⟩
  · rcases hid with hid | ⟨k, hk, _⟩ | hid
    · exact .inl (Nat.le_trans hs.cx hid)
    · exact hk.elim
    · exact .inr (.inr hid)
  · rcases hs.fr k with h | h
    · rw [h]; exact .junk _
    · rw [h]; exact a3 k
  · have := e0 id hid; have := hs.cx; rw [hn]; omega

theorem awp_sub {code : Code} {t : S} (h : Awp P GL nt code s Q) (hs : Sub s t) (hn : s.nx = t.nx) : Awp P GL nt code t Q :=
  fun c h1 h2 σ0 I0 w0 a w hR => h c h1 h2 σ0 I0 w0 a w (hR.sub hs hn)

def andThenQ (P : Program) (GL : Nat → Option (List AV)) (nt : Nat) (b : Code) (Q : Exit → S → Prop) : Exit → S → Prop
  | .normal, t => Awp P GL nt b t Q
  | e, t => Q e t

theorem awp_seq {x y : Code} (h : Awp P GL nt x s (andThenQ P GL nt y Q)) : Awp P GL nt (.seq x y) s Q := by
  intro c h1 h2 σ0 I0 w0 a w hR
  refine wp_seq (wp_mono (h c h1 h2 σ0 I0 w0 a w hR) ?_)
  rintro e a' w' ⟨t, hq, hr⟩
  cases e with
  | normal => exact hq c h1 h2 σ0 I0 w0 a' w' hr
  | _ => exact ⟨t, hq, hr⟩

theorem awp_region {Γ : Env} {md : Nat → Nat} {id : Nat} {ops : Array Oper} {t : S} (hΓ : EnvOK P GL Γ) (hd : okDst nt ops.toList = true) (h : runL P Γ GL md ops 0 ops.toList (enterR ops.size s) = some t) (hq : Q .normal t) :
    Awp P GL nt (.region id ops false) s Q := by
  intro c h1 h2 σ0 I0 w0 a w hR
  subst h1; subst h2
  exact region_sound hΓ hd h hR fun a' w' hR' => ⟨t, hq, hR'⟩

theorem awp_draw {Γ : Env} {md : Nat → Nat} {id : Nat} {ops : Array Oper} {t : S} (hm : P.follows .mixedOrders = true) (hΓ : EnvOK P GL Γ) (hd : okDst nt ops.toList = true) (ho : okDraw P Γ md ops = true)
    (h : runL P Γ GL md ops 0 ops.toList (enterR ops.size s) = some t) (hq : Q .normal t) : Awp P GL nt (.region id ops true) s Q := by
  intro c h1 h2 σ0 I0 w0 a w hR
  subst h1; subst h2
  exact draw_sound hm hΓ hd ho h hR fun a' w' hR' => ⟨t, hq, hR'⟩

theorem awp_cond {x y : Code} {cnd : Operand} {b : Bool} (hb : ev GL s.fr cnd = .b b) (ht : b = true → Awp P GL nt x s Q) (hf : b = false → Awp P GL nt y s Q) : Awp P GL nt (.cond cnd x y) s Q := by
  intro c h1 h2 σ0 I0 w0 a w hR
  have hv : a.eval cnd = .bool b := by
    obtain ⟨⟨σ, I, a1, a2, a3⟩, _⟩ := hR
    have := ev_rel a1 a3 cnd
    rw [h1, hb] at this
    exact b_inv this
  refine wp_cond_split hv (fun h => ht h c h1 h2 σ0 I0 w0 a w hR) (fun h => hf h c h1 h2 σ0 I0 w0 a w hR)

theorem awp_skip (h : Q .normal s) : Awp P GL nt .skip s Q := fun _ _ _ _ _ _ _ _ hR => wp_skip ⟨s, h, hR⟩
theorem awp_label {l : Nat} (h : Q .normal s) : Awp P GL nt (.label l) s Q := fun _ _ _ _ _ _ _ _ hR => wp_label ⟨s, h, hR⟩
theorem awp_exit {id : Nat} (h : Q (.exit id) s) : Awp P GL nt (.exit id) s Q := fun _ _ _ _ _ _ _ _ hR => wp_exit ⟨s, h, hR⟩
theorem awp_ret (h : Q .ret s) : Awp P GL nt .ret s Q := fun _ _ _ _ _ _ _ _ hR => wp_ret ⟨s, h, hR⟩

def inBlockQ (id : Nat) (Q : Exit → S → Prop) : Exit → S → Prop
  | .exit id', t => if id' = id then Q .normal t else Q (.exit id') t
  | e, t => Q e t

theorem awp_block {id : Nat} {x : Code} (h : Awp P GL nt x s (inBlockQ id Q)) : Awp P GL nt (.block id x) s Q := by
  intro c h1 h2 σ0 I0 w0 a w hR
  refine wp_block (wp_mono (h c h1 h2 σ0 I0 w0 a w hR) ?_)
  rintro e a' w' ⟨t, hq, hr⟩
  cases e with
  | exit id' =>
    simp only [Exit.inBlock, inBlockQ] at hq ⊢
    split
    · rename_i e; rw [if_pos e] at hq; exact ⟨t, hq, hr⟩
    · rename_i e; rw [if_neg e] at hq; exact ⟨t, hq, hr⟩
  | _ => exact ⟨t, hq, hr⟩

/-- A loop: states of a family, each round goes to a later one. -/
def loopQ {ι : Type} (st : ι → S) (inv : ι → Prop) (μ : ι → Nat) (i : ι) (Q : Exit → S → Prop) : Exit → S → Prop
  | .normal, t => ∃ j, inv j ∧ μ j < μ i ∧ Sub (st j) t
  | e, t => Q e t

theorem awp_loop {ι : Type} (st : ι → S) (inv : ι → Prop) (μ : ι → Nat) {x : Code} (h0 : ∃ i, inv i ∧ Sub (st i) s) (hr : ∀ i, inv i → ∀ n, Awp P GL nt x { st i with nx := n } (loopQ st inv μ i Q)) : Awp P GL nt (.loop x) s Q := by
  intro c h1 h2 σ0 I0 w0 a w hR
  obtain ⟨i0, hi0, hs0⟩ := h0
  intro b kk cs
  have key : ∀ (k : Nat) (i : ι) (n : Nat) (a : Act) (w : World), μ i = k → inv i → R c σ0 I0 w0 (fun _ => False) { st i with nx := n } a w →
      ∃ e a' w', (∃ s', Q e s' ∧ R c σ0 I0 w0 (fun _ => False) s' a' w') ∧ Arrives P (lone (b.at a (.code x :: .inLoop x :: kk)) cs w) b kk cs e a' w' := by
    intro k
    induction k using Nat.strongRecOn with
    | _ k ih =>
      intro i n a w hk hi hR
      obtain ⟨e, a', w', ⟨t, hq, hrt⟩, harr⟩ := hr i hi n c h1 h2 σ0 I0 w0 a w hR b (.inLoop x :: kk) cs
      cases e with
      | normal =>
        obtain ⟨j, hj, hlt, hsub⟩ := hq
        obtain ⟨e2, a2, w2, hq2, harr2⟩ := ih (μ j) (hk ▸ hlt) j t.nx a' w' rfl hj (hrt.sub ⟨hsub.fr, hsub.hp, hsub.cx⟩ rfl)
        exact ⟨e2, a2, w2, hq2, .of_steps (Steps.trans harr (.one step_inLoop)) harr2⟩
      | exit id => exact ⟨_, a', w', ⟨t, hq, hrt⟩, .pass (x := .inLoop x) rfl (fun _ _ => .inl (by simp)) harr⟩
      | goto l => exact ⟨_, a', w', ⟨t, hq, hrt⟩, .pass (x := .inLoop x) rfl (fun _ _ => .inl (by simp)) harr⟩
      | ret => exact ⟨_, a', w', ⟨t, hq, hrt⟩, .pass (x := .inLoop x) rfl (fun _ _ => .inl (by simp)) harr⟩
      | panic ch => exact ⟨_, a', w', ⟨t, hq, hrt⟩, .pass (x := .inLoop x) rfl (fun _ _ => .inl (by simp)) harr⟩
      | outgrown => exact ⟨_, a', w', ⟨t, hq, hrt⟩, .pass (x := .inLoop x) rfl (fun _ _ => .inl (by simp)) harr⟩
  obtain ⟨e, a', w', hq, harr⟩ := key (μ i0) i0 s.nx a w rfl hi0 (hR.sub ⟨hs0.fr, hs0.hp, hs0.cx⟩ rfl)
  exact ⟨e, a', w', hq, .of_steps (.one step_loop) harr⟩

/- FUNCTIONS -/

def frOf : Nat → List AV → List (Nat × AV)
  | _, [] => []
  | k, x :: r => (k, x) :: frOf (k + 1) r

theorem look_frOf : ∀ (l : List AV) (k t : Nat), look (frOf k l) t = if h : k ≤ t ∧ t - k < l.length then l[t - k]'h.2 else .junk
  | [], k, t => by simp [frOf, look]
  | x :: r, k, t => by
    simp only [frOf, look, look_frOf r (k + 1) t, List.length_cons]
    by_cases h : k = t
    · subst h; rw [if_pos rfl, dif_pos ⟨Nat.le_refl _, by omega⟩]; simp
    · rw [if_neg h]
      by_cases h2 : k + 1 ≤ t ∧ t - (k + 1) < r.length
      · rw [dif_pos h2, dif_pos ⟨by omega, by omega⟩]
        have e : t - k = (t - (k + 1)) + 1 := by omega
        simp only [e, List.getElem_cons_succ]
      · rw [dif_neg h2, dif_neg (by omega)]

/-- What a function's results read as. -/
def resA1 (P : Program) (hp : H) (fr : List (Nat × AV)) (r : ResultVar) : Option AV :=
  match r with
  | .tmp t => some (look fr t)
  | .cell a t => match look fr a with
    | .op id off => obind (hp id) fun o => match o with | .cells xs _ => ldV P t (xs.drop off) | _ => none
    | _ => none
def resAL (P : Program) (hp : H) (fr : List (Nat × AV)) : List ResultVar → Option (List AV)
  | [] => some []
  | r :: rs => obind (resA1 P hp fr r) fun x => obind (resAL P hp fr rs) fun l => some (x :: l)
def resA (P : Program) (rs : List ResultVar) (s : S) : Option AV :=
  obind (resAL P s.hp s.fr rs) fun l => some (match l with | [x] => x | l => .tup l)

theorem resAL_sound {c : Ctx} {σ : Nat → Loc} {I : Nat → Prop} {w : World} {hp : H} {fr : List (Nat × AV)} {a : Act} {un : Nat → Prop} (hi : Inv c σ I w hp un) (hf : ∀ t, Rel σ I w (look fr t) (a.tmps.getD t undef)) :
    ∀ (rs : List ResultVar) {l : List AV}, resAL P hp fr rs = some l →
      ∃ vs : List Value, (rs.mapM (fun r => match r with | .tmp t => pure (a.tmps.getD t undef) | .cell p t => do loadVar t (← asAddr (a.tmps.getD p undef)) : ResultVar → Sem Value)).run P w = .ok vs w ∧ vs.length = l.length ∧ ∀ i (_h : i < l.length), Rel σ I w l[i] (vs.getD i undef)
  | [], l, h => by obtain rfl := Option.some.inj h; exact ⟨[], rfl, rfl, fun i h => by simp at h⟩
  | r :: rs, l, h => by
    simp only [resAL] at h
    replace h := obind_inv h; obtain ⟨x, hx, h⟩ := h
    replace h := obind_inv h; obtain ⟨l', hl', h⟩ := h
    obtain rfl := Option.some.inj h
    obtain ⟨vs, e1, e2, e3⟩ := resAL_sound hi hf rs hl'
    have one : ∃ v, (match r with | .tmp t => pure (a.tmps.getD t undef) | .cell p t => do loadVar t (← asAddr (a.tmps.getD p undef)) : Sem Value).run P w = .ok v w ∧ Rel σ I w x v := by
      cases r with
      | tmp t =>
        obtain rfl := Option.some.inj hx
        exact ⟨_, rfl, hf t⟩
      | cell p t =>
        simp only [resA1] at hx
        split at hx
        · rename_i id off e
          replace hx := obind_inv hx; obtain ⟨o, ho, hx⟩ := hx
          obtain ⟨xs, mt, rfl⟩ : ∃ a b, o = AO.cells a b := by cases o <;> first | exact ⟨_, _, rfl⟩ | (simp at hx)
          simp only at hx
          have hp' := hf p
          rw [e] at hp'
          obtain ⟨blk, base, sz, g1, hv⟩ := op_inv hp'
          have hrow := own_row (hi.own id _ ho) g1
          obtain ⟨v, hrun, hr⟩ := ldV_load (P := P) (blk := blk) (o := base + off) hx (fun i hi => by
            rw [getElem_drop']
            simp at hi
            have := hrow.get (off + i) (by omega)
            rwa [← Nat.add_assoc] at this)
          exact ⟨v, by simp only [hv, asAddr, Sem.run_bind, Sem.run_pure, Result.andThen_ok, hrun], hr⟩
        · cases hx
    obtain ⟨v, o1, o2⟩ := one
    refine ⟨v :: vs, ?_, by simp [e2], fun i hi' => ?_⟩
    · rw [List.mapM_cons]
      simp only [Sem.run_bind]
      rw [o1]
      simp only [Result.andThen_ok]
      rw [e1]; rfl
    · cases i with
      | zero => exact o2
      | succ k => exact e3 k (by simpa using hi')

theorem resA_sound {c : Ctx} {σ : Nat → Loc} {I : Nat → Prop} {w : World} {t : S} {a : Act} {un : Nat → Prop} {fn : Func} {x : AV} (hi : Inv c σ I w t.hp un) (hf : ∀ k, Rel σ I w (look t.fr k) (a.tmps.getD k undef))
    (h : resA P fn.results.toList t = some x) : ∃ v, (results fn a.tmps).run P w = .ok v w ∧ Rel σ I w x v := by
  unfold resA at h
  replace h := obind_inv h; obtain ⟨l, hl, h⟩ := h
  obtain rfl := Option.some.inj h
  obtain ⟨vs, e1, e2, e3⟩ := resAL_sound hi hf _ hl
  have hm : (fn.results.mapM (fun r => match r with | .tmp t => pure (a.tmps.getD t undef) | .cell p t => do loadVar t (← asAddr (a.tmps.getD p undef)) : ResultVar → Sem Value)).run P w = .ok vs.toArray w := by
    rw [Array.mapM_eq_mapM_toList, Sem.run_map, e1]; rfl
  refine ⟨if h : vs.toArray.size = 1 then vs.toArray[0] else .tuple vs.toArray, ?_, ?_⟩
  · unfold results
    rw [Sem.run_bind]
    exact (congrArg (fun r => Result.andThen r (fun (vs : Array Value) w' => (pure (if h : vs.size = 1 then vs[0] else Value.tuple vs) : Sem Value).run P w')) hm).trans rfl
  · have big : l.length ≠ 1 → Rel σ I w (.tup l) (if h : vs.toArray.size = 1 then vs.toArray[0] else .tuple vs.toArray) := by
      intro hne
      rw [dif_neg (by simp; omega)]
      exact .tup _ _ (by simpa using e2) fun i hi' => by rw [getD_list]; exact e3 i hi'
    cases l with
    | nil => exact big (by simp)
    | cons x r =>
      cases r with
      | cons y r => exact big (by simp)
      | nil =>
        cases vs with
        | nil => simp at e2
        | cons v q =>
          cases q with
          | nil => exact e3 0 (by simp)
          | cons _ _ => simp at e2

end
end Go.AX

namespace Go.AX
open Go

def initS (args : List AV) (hp : H) (nx : Nat) : S := { fr := frOf 0 args, hp := hp, nx := nx, cx := nx }

def pureQ (P : Program) (rs : List ResultVar) (r : AV) : Exit → S → Prop
  | .ret, t => obind (resA P rs t) (immF 4 t.hp) = some r
  | .normal, t => obind (resA P rs t) (immF 4 t.hp) = some r
  | _, _ => False

def freshR (P : Program) (rs : List ResultVar) (e : Nat) (t : S) : Option (Nat × Nat × List AV) :=
  obind (resA P rs t) fun x => match x with
    | .os id off m e' g => obind (t.hp id) fun o => match o with
      | .cells ys mt => guardO (mt = true ∧ g = true ∧ off + m * e' = ys.length) (obind (immL (immF 3 (del t.hp id)) (ys.drop off)) fun zs => some (m, e', zs))
      | _ => none
    | .v (.slice none 0 0) => some (0, e, [])
    | _ => none

def freshQ (P : Program) (rs : List ResultVar) (r : Nat × Nat × List AV) : Exit → S → Prop
  | .ret, t => freshR P rs r.2.1 t = some r
  | .normal, t => freshR P rs r.2.1 t = some r
  | _, _ => False

structure HeapEnd (P : Program) (rs : List ResultVar) (r : AV) (hp' : H) (nx' : Nat) (t : S) : Prop where
  res : resA P rs t = some r
  hp : ∀ id o, hp' id = some o → t.hp id = some o
  cx : t.cx ≤ nx'

def heapQ (P : Program) (rs : List ResultVar) (r : AV) (hp' : H) (nx' : Nat) : Exit → S → Prop
  | .ret, t => HeapEnd P rs r hp' nx' t
  | .normal, t => HeapEnd P rs r hp' nx' t
  | _, _ => False

section
variable {P : Program} {GL : Nat → Option (List AV)}

theorem look_init {args : List AV} {vals : Array Value} {σ : Nat → Loc} {I : Nat → Prop} {w : World} {n : Nat} (hs : vals.size = args.length) (hr : ∀ i (_h : i < args.length), Rel σ I w args[i] (vals.getD i undef)) (t : Nat) :
    Rel σ I w (look (frOf 0 args) t) ((vals ++ Array.replicate n undef).getD t undef) := by
  rw [look_frOf]
  split
  · rename_i h
    simp only [Nat.sub_zero, Nat.zero_le, true_and] at h ⊢
    have := hr t h
    rw [Array.getD_eq_getD_getElem?] at this ⊢
    rw [Array.getElem?_append_left (by omega)]; exact this
  · exact .junk _

theorem run_fn {f : FuncId} {fn : Func} {code : Code} (hf : P.funcs[f]? = some fn) (hb : fn.body = some code) (c : Ctx) (hGL : c.GL = GL) (hnt : c.nt = fn.ntmps) (hdf : c.df = []) {args : List AV} {vals : Array Value} {σ : Nat → Loc} {I : Nat → Prop} {w : World} {hp : H} {nx : Nat}
    {Q : Exit → S → Prop} (hlen : args.length ≤ fn.ntmps) (hQ : ∀ e t, Q e t → e = .ret ∨ e = .normal) (h : Awp P GL fn.ntmps code (initS args hp nx) Q) (hi : Inv c σ I w hp (fun id => nx ≤ id ∨ c.u0 id)) (hu0 : ∀ id, c.u0 id → id < nx)
    (hs : vals.size = args.length) (hr : ∀ i (_h : i < args.length), Rel σ I w args[i] (vals.getD i undef)) {Rr : Ending → World → Prop}
    (hfin : ∀ e t a w', Q e t → R c σ I w (fun _ => False) t a w' → ∃ v, (results fn a.tmps).run P w' = .ok v w' ∧ Rr (.returned v) w') : Calls P f vals w Rr := by
  refine calls_of_wp hf hb (wp_mono (h c hGL hnt σ I w { tmps := vals ++ Array.replicate (fn.ntmps - vals.size) undef, defers := [] } w ?_) ?_)
  · refine ⟨⟨σ, I, ?_, Grow.refl _ _ _, fun t => look_init hs hr t⟩, hdf.symm, by simp [hs]; omega, fun k hk => hk.elim, fun id hid => ⟨hu0 id hid, hu0 id hid⟩⟩
    refine hi.mono_un fun id hid => ?_
    rcases hid with hid | ⟨k, hk, _⟩ | hid
    · exact .inl hid
    · exact hk.elim
    · exact .inr hid
  · rintro e a' w' ⟨t, hq, hR⟩
    obtain ⟨v, hv, hr⟩ := hfin e t a' w' hq hR
    have hd := hR.defers.trans hdf
    rcases hQ e t hq with rfl | rfl
    · exact ⟨hd, v, hv, hr⟩
    · exact ⟨hd, v, hv, hr⟩

/-- The context of a function that has no own objects at first. -/
def ctx0 (σ : Nat → Loc) (I : Nat → Prop) (w : World) (GL : Nat → Option (List AV)) (nt nx : Nat) : Ctx := { w0 := w, σ0 := σ, I0 := I, O := fun _ => False, GL := GL, nt := nt, u0 := fun id => id < nx ∧ σ id = .unset, df := [] }

theorem inv0 {σ : Nat → Loc} {I : Nat → Prop} {w : World} {nt nx : Nat} (h1 : ∀ id, nx ≤ id → σ id = .unset) (h2 : ∀ k, I k → k < w.heap.size) (h3 : ∀ g xs, GL g = some xs → Rel σ I w (.rp xs) (.pointer (some ⟨g, 0, none⟩))) :
    Inv (ctx0 σ I w GL nt nx) σ I w (fun _ => none) (fun id => nx ≤ id ∨ (ctx0 σ I w GL nt nx).u0 id) :=
  ⟨fun _ _ => rfl, fun _ h => h, fun _ _ => rfl, rfl, rfl, rfl, Nat.le_refl _, fun _ _ _ => rfl, h2, fun _ _ h => by simp at h, fun _ _ _ _ _ _ _ _ _ h => by simp at h, fun _ _ _ _ _ h => by simp at h, fun id h => h.elim (h1 id) (fun h => h.2), h3, fun _ h => .inl h⟩

theorem keep_loc {σ σ' : Nat → Loc} {I I' : Nat → Prop} {w w' : World} {nt nx cx : Nat} {hp : H} {rem : Nat → Prop} (h : Inv (ctx0 σ I w GL nt nx) σ' I' w' hp (fun id => cx ≤ id ∨ rem id ∨ (ctx0 σ I w GL nt nx).u0 id)) : ∀ id, id < nx → σ' id = σ id := by
  intro id hid
  by_cases e : σ id = .unset
  · rw [e]; exact h.un id (.inr (.inr ⟨hid, e⟩))
  · exact h.ext id e

theorem pure_of_awp {f : FuncId} {fn : Func} {code : Code} {g : List AV → Option AV} (hf : P.funcs[f]? = some fn) (hb : fn.body = some code)
    (h : ∀ args r, g args = some r → args.length ≤ fn.ntmps ∧ ∀ nx, Awp P GL fn.ntmps code (initS args (fun _ => none) nx) (pureQ P fn.results.toList r)) : PureOK P GL f g := by
  intro σ I w nx args vals r h1 h2 h3 hs hr hg
  obtain ⟨hlen, haw⟩ := h args r hg
  have hQ : ∀ e t, pureQ P fn.results.toList r e t → (e = .ret ∨ e = .normal) ∧ obind (resA P fn.results.toList t) (immF 4 t.hp) = some r := by
    intro e t hq; cases e <;> first | exact ⟨.inl rfl, hq⟩ | exact ⟨.inr rfl, hq⟩ | exact hq.elim
  refine run_fn hf hb (ctx0 σ I w GL fn.ntmps nx) rfl rfl rfl hlen (fun e t hq => (hQ e t hq).1) (haw nx) (inv0 h1 h2 h3) (fun _ h => h.1) hs hr ?_
  intro e t a w' hq hR
  obtain ⟨⟨σ', I', a1, a2, a3⟩, _⟩ := hR
  have := (hQ e t hq).2
  replace this := obind_inv this; obtain ⟨x, hx, him⟩ := this
  obtain ⟨v, hv, hrel⟩ := resA_sound (P := P) a1 a3 hx
  have hI : ∀ k, I' k → (I' k ∨ ∃ id o base sz, t.hp id = some o ∧ σ' id = .at_ k base sz) := fun k hk => .inl hk
  obtain ⟨him', _⟩ := imm_sound a1 hI (fun id o blk base sz e1 e2 => .inr ⟨id, o, base, sz, e1, e2⟩) 4 him hrel
  refine ⟨v, hv, v, σ', fun k => I' k ∨ ∃ id o base sz, t.hp id = some o ∧ σ' id = .at_ k base sz, rfl, a1.os, a1.tape, a1.output, a1.size, fun k hk => a1.old k hk (fun h => h), keep_loc a1, fun k hk => ?_, fun k hk => ?_, him'⟩
  · rcases hk with hk | ⟨id, o, base, sz, e1, e2⟩
    · rcases a1.inew k hk with h | h | h
      · exact .inl h
      · exact .inr h
      · exact h.elim
    · rcases a1.blkNew e1 e2 with h | h | h
      · exact .inl h
      · exact .inr h
      · exact h.elim
  · rcases hk with hk | ⟨id, o, base, sz, e1, e2⟩
    · exact a1.ilt k hk
    · exact (a1.own id o e1).lt e2

theorem fresh_of_awp {f : FuncId} {fn : Func} {code : Code} {g : List AV → Option (Nat × Nat × List AV)} (hf : P.funcs[f]? = some fn) (hb : fn.body = some code)
    (h : ∀ args r, g args = some r → args.length ≤ fn.ntmps ∧ ∀ nx, Awp P GL fn.ntmps code (initS args (fun _ => none) nx) (freshQ P fn.results.toList r)) : FreshOK P GL f g := by
  intro σ I w nx args vals n e xs h1 h2 h3 hs hr hg
  obtain ⟨hlen, haw⟩ := h args _ hg
  have hQ : ∀ e' t, freshQ P fn.results.toList (n, e, xs) e' t → (e' = .ret ∨ e' = .normal) ∧ freshR P fn.results.toList e t = some (n, e, xs) := by
    intro e' t hq; cases e' <;> first | exact ⟨.inl rfl, hq⟩ | exact ⟨.inr rfl, hq⟩ | exact hq.elim
  refine run_fn hf hb (ctx0 σ I w GL fn.ntmps nx) rfl rfl rfl hlen (fun e t hq => (hQ e t hq).1) (haw nx) (inv0 h1 h2 h3) (fun _ h => h.1) hs hr ?_
  intro e' t a w' hq hR
  obtain ⟨⟨σ', I', a1, a2, a3⟩, _⟩ := hR
  have := (hQ e' t hq).2
  unfold freshR at this
  replace this := obind_inv this; obtain ⟨x, hx, this⟩ := this
  obtain ⟨v, hv, hrel⟩ := resA_sound (P := P) a1 a3 hx
  split at this
  · rename_i id off m e0 g0
    replace this := obind_inv this; obtain ⟨o, ho, this⟩ := this
    obtain ⟨ys, mt, rfl⟩ : ∃ a b, o = AO.cells a b := by cases o <;> first | exact ⟨_, _, rfl⟩ | (simp at this)
    simp only at this
    replace this := guardO_inv this; obtain ⟨⟨hmt, hgt, hend⟩, this⟩ := this
    replace this := obind_inv this; obtain ⟨zs, hzs, this⟩ := this
    simp only [Option.some.injEq, Prod.mk.injEq] at this; obtain ⟨rfl, rfl, rfl⟩ := this
    subst hmt; subst hgt
    have a1d := a1.sub (del_sub t.hp id)
    have hdel : ∀ id' o', del t.hp id id' = some o' → id' ≠ id := fun id' o' hd e => by subst e; rw [del_apply, if_pos rfl] at hd; cases hd
    have hI : ∀ k, I' k → (I' k ∨ ∃ id' o base sz, del t.hp id id' = some o ∧ σ' id' = .at_ k base sz) := fun k hk => .inl hk
    have hnew : ∀ k, (I' k ∨ ∃ id' o base sz, del t.hp id id' = some o ∧ σ' id' = .at_ k base sz) → I k ∨ w.heap.size ≤ k := by
      intro k hk
      rcases hk with hk | ⟨id', o, base, sz, e1, e2⟩
      · rcases a1.inew k hk with h | h | h
        · exact .inl h
        · exact .inr h
        · exact h.elim
      · rcases a1d.blkNew e1 e2 with h | h | h
        · exact .inl h
        · exact .inr h
        · exact h.elim
    have hlt : ∀ k, (I' k ∨ ∃ id' o base sz, del t.hp id id' = some o ∧ σ' id' = .at_ k base sz) → k < w'.heap.size := by
      intro k hk
      rcases hk with hk | ⟨id', o, base, sz, e1, e2⟩
      · exact a1.ilt k hk
      · exact (a1d.own id' o e1).lt e2
    refine ⟨v, hv, v, σ', fun k => I' k ∨ ∃ id' o base sz, del t.hp id id' = some o ∧ σ' id' = .at_ k base sz, rfl, a1.os, a1.tape, a1.output, a1.size, fun k hk => a1.old k hk (fun h => h), keep_loc a1, hnew, hlt, ?_⟩
    have hzl : zs.length = (ys.drop off).length ∧ ∀ (f : Nat → Value), (∀ i (_h : i < (ys.drop off).length), Rel σ' I' w' (ys.drop off)[i] (f i)) → ∀ i (_h : i < zs.length), Rel σ' (fun k => I' k ∨ ∃ id' o base sz, del t.hp id id' = some o ∧ σ' id' = .at_ k base sz) w' zs[i] (f i) ∧ ∀ h2 : i < (ys.drop off).length, (ys.drop off)[i].isCell = true → zs[i].isCell = true := by
      have one : ∀ (xs ys : List AV), immL (immF 3 (del t.hp id)) xs = some ys → ys.length = xs.length ∧ ∀ (f : Nat → Value), (∀ i (_h : i < xs.length), Rel σ' I' w' xs[i] (f i)) → ∀ i (_h : i < ys.length), Rel σ' (fun k => I' k ∨ ∃ id' o base sz, del t.hp id id' = some o ∧ σ' id' = .at_ k base sz) w' ys[i] (f i) ∧ ∀ h2 : i < xs.length, xs[i].isCell = true → ys[i].isCell = true := by
        intro xs ys hh
        have hM : ∀ (xs ys : List AV), immM (immF 3 (del t.hp id)) xs = some ys → ys.length = xs.length ∧ ∀ (f : Nat → Value), (∀ i (_h : i < xs.length), Rel σ' I' w' xs[i] (f i)) → ∀ i (_h : i < ys.length), Rel σ' (fun k => I' k ∨ ∃ id' o base sz, del t.hp id id' = some o ∧ σ' id' = .at_ k base sz) w' ys[i] (f i) ∧ ∀ h2 : i < xs.length, xs[i].isCell = true → ys[i].isCell = true := by
          intro xs
          induction xs with
          | nil => intro ys h; obtain rfl := Option.some.inj h; exact ⟨rfl, fun f _ i h => by simp at h⟩
          | cons b r ihr =>
            intro ys h
            simp only [immM] at h
            replace h := obind_inv h; obtain ⟨d, hd, h⟩ := h
            replace h := obind_inv h; obtain ⟨l, hl, h⟩ := h
            obtain rfl := Option.some.inj h
            obtain ⟨e1, e2⟩ := ihr l hl
            refine ⟨by simp [e1], fun f hf i hi' => ?_⟩
            cases i with
            | zero =>
              have := imm_sound a1d hI (fun id o blk base sz e1 e2 => .inr ⟨id, o, base, sz, e1, e2⟩) 3 hd (hf 0 (by simp))
              exact ⟨this.1, fun _ hc => this.2 hc⟩
            | succ k =>
              have := e2 (fun i => f (i + 1)) (fun i hi => by have := hf (i + 1) (by simpa using hi); simpa using this) k (by simpa using hi')
              exact ⟨this.1, fun h2 hc => this.2 (by simpa using h2) (by simpa using hc)⟩
        unfold immL at hh
        split at hh
        · obtain rfl := Option.some.inj hh
          exact ⟨rfl, fun f hf i hi => ⟨(hf i hi).mono (fun _ _ => rfl) hI (fun _ _ => rfl), fun _ h => h⟩⟩
        · exact hM xs ys hh
      exact one _ _ hzs
    have hown := a1.own id _ ho
    cases hrel with
    | osnil _ _ _ g1 =>
      have : ys = [] := own_nil hown g1
      subst this
      refine .inl ⟨.inl rfl, rfl, List.eq_nil_of_length_eq_zero (by rw [hzl.1]; simp)⟩
    | oszero _ _ _ _ ad g1 => exact .inl ⟨.inr ⟨ad, rfl⟩, rfl, List.eq_nil_of_length_eq_zero (by rw [hzl.1]; simp; omega)⟩
    | os _ _ _ _ _ blk base sz cap g1 g2 g3 =>
      have hrow := own_row hown g1
      have hlen := own_len hown g1
      simp only [OwnRel, g1] at hown
      refine .inr ⟨blk, base + off, sz, cap, rfl, g2, g3 rfl, ?_, ?_, ?_⟩
      · rcases a1.lim id _ blk base sz ho rfl g1 with h | h
        · exact h
        · exact h.elim
      · rintro (h | ⟨id', o', base', sz', e1, e2⟩)
        · exact hown.2.1 trivial h
        · exact a1.inj id id' _ o' blk base sz base' sz' ho rfl (del_sub _ _ _ _ e1) (Ne.symm (hdel id' o' e1)) g1 e2
      · obtain ⟨⟨cs, T, lo, hi_, q1, q2, q3, q4, q5⟩, q6⟩ := hrow
        have hget : ∀ i (_h : i < (ys.drop off).length), Rel σ' I' w' (ys.drop off)[i] (cs.getD (base + off + i) undef) := by
          intro i hi
          rw [getElem_drop']
          simp at hi
          have := q5 (off + i) (by omega)
          rw [Nat.add_assoc]; exact this
        have hz := hzl.2 _ hget
        have hoff : off ≤ ys.length ∨ ys.length < off := by omega
        refine ⟨⟨cs, T, lo, hi_, q1, q2, ?_, q4, fun i hi => (hz i hi).1⟩, fun i hi => (hz i hi).2 (by rw [← hzl.1]; exact hi) (by rw [getElem_drop']; exact q6 _ _)⟩
        rw [hzl.1]; simp
        have := g3 rfl
        omega
  · simp only [Option.some.injEq, Prod.mk.injEq] at this; obtain ⟨rfl, _, rfl⟩ := this
    cases hrel
    refine ⟨_, hv, _, σ', I', rfl, a1.os, a1.tape, a1.output, a1.size, fun k hk => a1.old k hk (fun h => h), keep_loc a1, fun k hk => ?_, a1.ilt, .inl ⟨.inl rfl, rfl, rfl⟩⟩
    rcases a1.inew k hk with h | h | h
    · exact .inl h
    · exact .inr h
    · exact h.elim
  · cases this

theorem heap_of_awp {f : FuncId} {fn : Func} {code : Code} {g : List AV → H → Nat → Option (AV × H × Nat)} (hf : P.funcs[f]? = some fn) (hb : fn.body = some code)
    (h : ∀ args hp nx r hp' nx', g args hp nx = some (r, hp', nx') → args.length ≤ fn.ntmps ∧ nx ≤ nx' ∧ ((∀ id, nx ≤ id → hp id = none) → Awp P GL fn.ntmps code (initS args hp nx) (heapQ P fn.results.toList r hp' nx'))) : HeapOK P GL f g := by
  intro c σ I w hp nx args vals r hp' nx' hGL hi hs hr hg
  obtain ⟨hlen, hle, haw⟩ := h args hp nx r hp' nx' hg
  refine ⟨hle, ?_⟩
  have hQ : ∀ e t, heapQ P fn.results.toList r hp' nx' e t → (e = .ret ∨ e = .normal) ∧ HeapEnd P fn.results.toList r hp' nx' t := by
    intro e t hq; cases e <;> first | exact ⟨.inl rfl, hq⟩ | exact ⟨.inr rfl, hq⟩ | exact hq.elim
  have hi' : Inv { c with nt := fn.ntmps, u0 := fun id => id < nx ∧ σ id = .unset, df := [] } σ I w hp (fun id => nx ≤ id ∨ (id < nx ∧ σ id = .unset)) :=
    ⟨hi.ext, hi.imm, hi.iw, hi.os, hi.tape, hi.output, hi.size, hi.old, hi.ilt, hi.own, hi.inj, hi.lim, fun id h => h.elim (hi.un id) (fun h => h.2), hi.glob, hi.inew⟩
  refine run_fn hf hb { c with nt := fn.ntmps, u0 := fun id => id < nx ∧ σ id = .unset, df := [] } hGL rfl rfl hlen (fun e t hq => (hQ e t hq).1) (haw fun id hid => hi.none_un hid) hi' (fun _ h => h.1) hs hr ?_
  intro e t a w' hq hR
  obtain ⟨⟨σ', I', a1, a2, a3⟩, _⟩ := hR
  obtain ⟨q1, q2, q3⟩ := (hQ e t hq).2
  obtain ⟨v, hv, hrel⟩ := resA_sound (P := P) a1 a3 q1
  have a1' := a1.sub q2
  refine ⟨v, hv, v, σ', I', rfl, ?_, hrel, a2, fun id hid hun => a1.un id (.inr (.inr ⟨hid, hun⟩))⟩
  exact ⟨a1'.ext, a1'.imm, a1'.iw, a1'.os, a1'.tape, a1'.output, a1'.size, a1'.old, a1'.ilt, a1'.own, a1'.inj, a1'.lim, fun id h => a1'.un id (.inl (Nat.le_trans q3 h)), a1'.glob, a1'.inew⟩

end
end Go.AX

namespace Go.AX
open Go

def cl : Code → Code | .seq a _ => a | .block _ a => a | .loop a => a | .cond _ a _ => a | .scope a => a | c => c
def cr : Code → Code | .seq _ b => b | .cond _ _ b => b | c => c
def bodyOf (f : Func) : Code := f.body.getD .skip
def isSeq : Code → Bool | .seq _ _ => true | _ => false
def isReg : Code → Bool | .region _ _ _ => true | _ => false
def rOps : Code → Array Oper | .region _ ops _ => ops | _ => #[]
def rDraw : Code → Bool | .region _ _ d => d | _ => false
def isCond : Code → Bool | .cond _ _ _ => true | _ => false
def cOp : Code → Operand | .cond c _ _ => c | _ => .const undef
def isBlock : Code → Bool | .block _ _ => true | _ => false
def bId : Code → Nat | .block id _ => id | .exit id => id | _ => 0
def isLoop : Code → Bool | .loop _ => true | _ => false
def isExit : Code → Bool | .exit _ => true | _ => false
def isRet : Code → Bool | .ret => true | _ => false
def isSkip : Code → Bool | .skip => true | _ => false

def keepF (ks : List Nat) (fr : List (Nat × AV)) : List (Nat × AV) := ks.map fun k => (k, look fr k)
theorem keepF_cons (k : Nat) (ks : List Nat) (fr : List (Nat × AV)) : keepF (k :: ks) fr = (k, look fr k) :: keepF ks fr := rfl
theorem look_keepF (ks : List Nat) (fr : List (Nat × AV)) (t : Nat) : look (keepF ks fr) t = .junk ∨ look (keepF ks fr) t = look fr t := by
  induction ks with
  | nil => exact .inl rfl
  | cons k ks ih =>
    rw [keepF_cons]
    simp only [look]
    split
    · rename_i e; subst e; exact .inr rfl
    · exact ih

def someP (o : Option S) (Q : S → Prop) : Prop := match o with | some t => Q t | none => False
theorem someP_inv {o : Option S} {Q : S → Prop} (h : someP o Q) : ∃ t, o = some t ∧ Q t := by
  cases o with
  | none => exact h.elim
  | some t => exact ⟨t, rfl, h⟩

theorem guardO_True {α : Type} (x : Option α) : guardO True x = x := by simp [guardO]

section
variable {P : Program} {GL : Nat → Option (List AV)} {nt : Nat} {Q : Exit → S → Prop} {s : S} {code : Code}

theorem awp_seqP (hc : isSeq code = true) (h : Awp P GL nt (cl code) s (andThenQ P GL nt (cr code) Q)) : Awp P GL nt code s Q := by
  cases code <;> first | (cases hc; done) | exact awp_seq h

theorem Q_keep {code : Code} (h : Awp P GL nt code s fun e t => ∃ u, Q e u ∧ Sub u t ∧ u.nx = t.nx) : Awp P GL nt code s Q := by
  intro c h1 h2 σ0 I0 w0 a w hR
  refine wp_mono (h c h1 h2 σ0 I0 w0 a w hR) ?_
  rintro e a' w' ⟨t, ⟨u, hq, hs, hn⟩, hr⟩
  exact ⟨u, hq, hr.sub hs hn⟩

theorem sub_keep (ks : List Nat) (t : S) : Sub { t with fr := keepF ks t.fr } t := ⟨fun k => look_keepF ks t.fr k, fun _ _ h => h, Nat.le_refl _⟩

theorem awp_reg {Γ : Env} (ks : List Nat) (hc : isReg code = true) (hd : rDraw code = false) (hΓ : EnvOK P GL Γ) (ho : okDst nt (rOps code).toList = true)
    (h : someP (runL P Γ GL (fun _ => 0) (rOps code) 0 (rOps code).toList (enterR (rOps code).size s)) fun t => Q .normal { t with fr := keepF ks t.fr }) : Awp P GL nt code s Q := by
  obtain ⟨t, h1, h2⟩ := someP_inv h
  cases code <;> first | (cases hc; done) | skip
  rename_i id ops d
  simp only [rDraw] at hd
  subst hd
  exact Q_keep (awp_region hΓ ho h1 ⟨_, h2, sub_keep ks t, rfl⟩)

theorem awp_drw {Γ : Env} (md : Nat → Nat) (ks : List Nat) (hm : P.follows .mixedOrders = true) (hc : isReg code = true) (hd : rDraw code = true) (hΓ : EnvOK P GL Γ) (ho : okDst nt (rOps code).toList = true) (hk : okDraw P Γ md (rOps code) = true)
    (h : someP (runL P Γ GL md (rOps code) 0 (rOps code).toList (enterR (rOps code).size s)) fun t => Q .normal { t with fr := keepF ks t.fr }) : Awp P GL nt code s Q := by
  obtain ⟨t, h1, h2⟩ := someP_inv h
  cases code <;> first | (cases hc; done) | skip
  rename_i id ops d
  simp only [rDraw] at hd
  subst hd
  exact Q_keep (awp_draw hm hΓ ho hk h1 ⟨_, h2, sub_keep ks t, rfl⟩)

theorem awp_if {b : Bool} (hc : isCond code = true) (hb : ev GL s.fr (cOp code) = .b b) (ht : b = true → Awp P GL nt (cl code) s Q) (hf : b = false → Awp P GL nt (cr code) s Q) : Awp P GL nt code s Q := by
  cases code <;> first | (cases hc; done) | exact awp_cond hb ht hf

theorem awp_blockP (hc : isBlock code = true) (h : Awp P GL nt (cl code) s (inBlockQ (bId code) Q)) : Awp P GL nt code s Q := by
  cases code <;> first | (cases hc; done) | exact awp_block h

theorem awp_loopP {ι : Type} (st : ι → S) (inv : ι → Prop) (μ : ι → Nat) (hc : isLoop code = true) (h0 : ∃ i, inv i ∧ Sub (st i) s) (hr : ∀ i, inv i → ∀ n, Awp P GL nt (cl code) { st i with nx := n } (loopQ st inv μ i Q)) : Awp P GL nt code s Q := by
  cases code <;> first | (cases hc; done) | exact awp_loop st inv μ h0 hr

theorem awp_exitP (hc : isExit code = true) (h : Q (.exit (bId code)) s) : Awp P GL nt code s Q := by
  cases code <;> first | (cases hc; done) | exact awp_exit h
theorem awp_retP (hc : isRet code = true) (h : Q .ret s) : Awp P GL nt code s Q := by
  cases code <;> first | (cases hc; done) | exact awp_ret h
theorem awp_skipP (hc : isSkip code = true) (h : Q .normal s) : Awp P GL nt code s Q := by
  cases code <;> first | (cases hc; done) | exact awp_skip h

theorem bodyOf_some {fn : Func} (h : fn.body.isSome = true) : fn.body = some (bodyOf fn) := by
  unfold bodyOf; cases hb : fn.body with
  | none => simp [hb] at h
  | some c => rfl

end

def noEnv : Env := fun _ => none
theorem noEnv_ok (P : Program) (GL : Nat → Option (List AV)) : EnvOK P GL noEnv := fun f s h => by cases h

end Go.AX
