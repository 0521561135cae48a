/-
  AX, part N: one step of a region.
-/
import Derived.Test.YtnnkmoaipcdhnaaDoorAxM
namespace Go.AX
open Go
section
variable {P : Program} {Γ : Env} {c : Ctx} {σ0 : Nat → Loc} {I0 : Nat → Prop} {w0 : World} {rem : Nat → Prop} {s : S} {a : Act} {w : World} {ops : Array Oper}

theorem guard_run {j : Nat} {g : Bool} (h : guardVal ops s.fr j = some g) {σ : Nat → Loc} {I : Nat → Prop} (hf : ∀ t, Rel σ I w (look s.fr t) (a.tmps.getD t undef)) : yielded ops a.tmps j = some g := by
  unfold guardVal at h
  split at h
  · rename_i t ht
    split at h
    · rename_i x hx
      obtain rfl := Option.some.inj h
      have := hf t
      rw [hx] at this
      have hv := b_inv this
      have hlt : t < a.tmps.size := by
        rcases Nat.lt_or_ge t a.tmps.size with h | h
        · exact h
        · rw [Array.getD_eq_getD_getElem?, Array.getElem?_eq_none h] at hv; cases hv
      rw [Array.getD_eq_getD_getElem?, Array.getElem?_eq_getElem hlt] at hv
      simp only [Option.getD_some] at hv
      simp only [yielded, ht, Option.bind_some, Array.getElem?_eq_getElem hlt, hv]
    · cases h
  · cases h

/-- The reserved names, one of them taken. -/
theorem un_take {k : Nat} (hk : rem k) (hlt : ∀ k, rem k → s.nx + k < s.cx) (hlt0 : ∀ id, c.u0 id → id < s.nx ∧ id < s.cx) {σ : Nat → Loc} {I : Nat → Prop} {hp : H}
    (h : Inv c σ I w hp (fun id => (s.cx ≤ id ∨ (∃ k, rem k ∧ id = s.nx + k) ∨ c.u0 id) ∧ id ≠ s.nx + k)) : Inv c σ I w hp (fun id => s.cx ≤ id ∨ (∃ m, (rem m ∧ m ≠ k) ∧ id = s.nx + m) ∨ c.u0 id) :=
  h.mono_un fun id hid => by
    rcases hid with hid | ⟨m, ⟨hm, hne⟩, rfl⟩ | hid
    · have := hlt k hk; exact ⟨.inl hid, by omega⟩
    · exact ⟨.inr (.inl ⟨m, hm, rfl⟩), by omega⟩
    · have := hlt0 id hid; exact ⟨.inr (.inr hid), by omega⟩

/-- A new slice that a call hands back becomes an own object. -/
theorem freshFin {σ : Nat → Loc} {I Iw : Nat → Prop} {w' : World} {hp : H} {un : Nat → Prop} {id cx nn ee : Nat} {xs : List AV} {v : Value} {I1 : Nat → Prop} (hext : Inv c σ I w' hp (fun k => cx ≤ k ∨ un k)) (hid : un id)
    (hsz : c.w0.heap.size ≤ w.heap.size) (_hI1 : ∀ k, Iw k → k < w.heap.size) (hlt : ∀ k o blk base sz, hp k = some o → σ k = .at_ blk base sz → blk < w.heap.size) (hgr : Grow σ I1 w σ I w')
    (hv : ((v = .slice none 0 0 ∨ ∃ a, v = .slice (some a) 0 0) ∧ nn = 0 ∧ xs = []) ∨ ∃ blk base sz cap, v = .slice (some ⟨blk, base, none⟩) nn cap ∧ nn ≤ cap ∧ base + cap * ee ≤ sz ∧ w.heap.size ≤ blk ∧ ¬ I blk ∧ RowAt σ I w' xs blk base sz) (hunl : ∀ k, cx ≤ k → k ≠ id) :
    ∃ v0 σ' I', (Ending.returned v) = .returned v0 ∧ Inv c σ' I' w' (upd hp id (.cells xs true)) (fun k => cx ≤ k ∨ (un k ∧ k ≠ id)) ∧ Rel σ' I' w' (.os id 0 nn ee true) v0 ∧ Grow σ I1 w σ' I' w' := by
  have hu : (fun k => cx ≤ k ∨ un k) id := .inr hid
  have hunm : ∀ k, (cx ≤ k ∨ (un k ∧ k ≠ id)) → ((cx ≤ k ∨ un k) ∧ k ≠ id) := by
    intro k hk
    rcases hk with hk | hk
    · exact ⟨.inl hk, hunl k hk⟩
    · exact ⟨.inr hk.1, hk.2⟩
  rcases hv with ⟨hv, rfl, rfl⟩ | ⟨blk, base, sz, cap, rfl, b2, b3, b4, b5, b6⟩
  · refine ⟨_, _, I, rfl, (hext.newNil hu).mono_un hunm, ?_, hgr.trans ⟨setLoc_ext (hext.un id hu), fun _ h => h, fun _ _ => rfl⟩⟩
    rcases hv with rfl | ⟨a, rfl⟩
    · exact .osnil _ _ _ (by simp [setLoc])
    · exact .oszero _ _ _ _ _ (by simp [setLoc])
  · refine ⟨_, _, I, rfl, (hext.adopt hu b6 b5 (by omega) (fun k o blk' base' sz' h1 h2 e => ?_)).mono_un hunm, ?_, hgr.trans ⟨setLoc_ext (hext.un id hu), fun _ h => h, fun _ _ => rfl⟩⟩
    · have := hlt k o blk' base' sz' h1 h2; omega
    · exact .os id 0 nn ee true blk base sz cap (by simp [setLoc]) b2 (fun _ => by omega)

theorem call_sound {op : Op} {type : TypeId} {dst : Option Tmp} {pos : String} {after : Array Edge} {guard : Option (Nat × Bool)} {ρA : Operand → AV} {ρ : Operand → Value} {σ : Nat → Loc} {I : Nat → Prop} {hp hp' : H} {m nx n id cx cx' : Nat} {x : AV} {un : Nat → Prop}
    (hΓ : EnvOK P c.GL Γ) (h : callOp Γ op ρA m nx n hp id cx = some (x, hp', cx')) (hρ : ∀ y, Rel σ I w (ρA y) (ρ y)) (hi : Inv c σ I w hp (fun id => cx ≤ id ∨ un id)) (hun : ∀ id, un id → id < cx) (hid : un id) :
    cx ≤ cx' ∧ ∃ f vals, (execOp ρ { dst, op, type, pos, after, guard }).run P w = .ok (.enter f vals) w ∧ Calls P f vals w fun e w' => ∃ v σ' I', e = .returned v ∧ Inv c σ' I' w' hp' (fun k => cx' ≤ k ∨ (un k ∧ k ≠ id)) ∧ Rel σ' I' w' x v ∧ Grow σ I w σ' I' w' := by
  have keepU : ∀ {σ' : Nat → Loc} {I' : Nat → Prop} {w' : World} {hp' : H} {cx' : Nat}, Inv c σ' I' w' hp' (fun k => cx' ≤ k ∨ un k) → Inv c σ' I' w' hp' (fun k => cx' ≤ k ∨ (un k ∧ k ≠ id)) :=
    fun h => h.mono_un fun k hk => hk.imp (fun h => h) (fun h => h.1)
  have hunl : ∀ k, cx ≤ k → k ≠ id := fun k hk e => by have := hun id hid; omega
  unfold callOp at h
  split at h
  rotate_left
  · cases h
  rename_i cl
  obtain ⟨callee, cargs, argTypes⟩ := cl
  simp only at h
  split at h
  rotate_left
  · cases h
  rename_i fo
  split at h
  rotate_left
  · cases h
  rename_i f caps hfo
  have hfv := hρ fo
  rw [hfo] at hfv
  have hfn : ∃ vs, ρ fo = .func (.func f) #[] vs ∧ vs.size = caps.length ∧ ∀ i (_h : i < caps.length), Rel σ I w caps[i] (vs.getD i undef) := by
    generalize ρ fo = u at hfv
    cases hfv with
    | fn _ _ vs h1 h2 => exact ⟨vs, rfl, h1, h2⟩
  obtain ⟨vs, hv, hvs, hvr⟩ := hfn
  have hsize : (cargs.map ρ ++ vs).size = (cargs.toList.map ρA ++ caps).length := by simp [hvs]
  have hargs : ∀ i (_h : i < (cargs.toList.map ρA ++ caps).length), Rel σ I w (cargs.toList.map ρA ++ caps)[i] ((cargs.map ρ ++ vs).getD i undef) := by
    intro i hi'
    rw [List.getElem_append]
    rw [Array.getD_eq_getD_getElem?, Array.getElem?_append]
    split
    · rename_i hlt
      rw [if_pos (by simpa using hlt)]
      have := map_rel (l := cargs.toList) hρ i hlt
      rw [getD_list, List.getD_eq_getElem?_getD] at this
      have e : (Array.map ρ cargs)[i]? = (List.map ρ cargs.toList)[i]? := by rw [← Array.toList_map, Array.getElem?_toList]
      rw [e]; exact this
    · rename_i hge
      rw [if_neg (by simpa using hge)]
      simp only [List.length_map, Array.length_toList, Array.size_map] at hge ⊢
      have := hvr (i - cargs.size) (by simp at hi'; omega)
      rw [Array.getD_eq_getD_getElem?] at this
      exact this
  have hrun : Callable P f → (execOp ρ { dst := dst, op := .call { callee := .value fo, args := cargs, argTypes := argTypes }, type := type, pos := pos, after := after, guard := guard }).run P w = .ok (.enter f (cargs.map ρ ++ vs)) w := by
    rintro ⟨fn, h1, h2, h3⟩
    simp only [execOp, resolve, hv, Deferred.ofValue, Array.empty_append, Sem.run_bind, Sem.run_pure, Result.andThen_ok, invoke, callFunc, run_program, h1, h2, h3, Bool.false_eq_true, if_false]
  generalize hA : cargs.toList.map ρA ++ caps = A at h hsize hargs
  generalize hV : cargs.map ρ ++ vs = V at hrun hsize hargs
  unfold callA at h
  split at h
  · rename_i g hg
    obtain ⟨hcall, hok⟩ := hΓ f _ hg
    replace h := obind_inv h; obtain ⟨as_, has, h⟩ := h
    replace h := obind_inv h; obtain ⟨r, hr, h⟩ := h
    replace h := guardO_inv h; obtain ⟨hnm, h⟩ := h
    simp only [Option.some.injEq, Prod.mk.injEq] at h; obtain ⟨rfl, rfl, rfl⟩ := h
    refine ⟨Nat.le_refl _, f, V, hrun hcall, ?_⟩
    have hIb : ∀ k, I k → (I k ∨ ∃ id o base sz, hp id = some o ∧ σ id = .at_ k base sz) := fun k hk => .inl hk
    obtain ⟨e1, e2⟩ := borrowD_sound (Ib := fun k => I k ∨ ∃ id o base sz, hp id = some o ∧ σ id = .at_ k base sz) (hi.sub (hsel_sub m nx n hp)) hIb (fun id o blk base sz h1 h2 => .inr ⟨id, o, base, sz, hsel_sub m nx n hp id o h1, h2⟩) A (fun i => V.getD i undef) has hargs
    refine (hok σ (fun k => I k ∨ ∃ id o base sz, hp id = some o ∧ σ id = .at_ k base sz) w cx as_ V r (fun id hid => hi.un id (.inl hid)) (fun k hk => ?_) (fun g xs hgl => (hi.glob g xs hgl).mono (fun _ _ => rfl) hIb (fun _ _ => rfl)) (by rw [hsize, e1]) e2 hr).mono ?_
    · rcases hk with hk | ⟨id, o, base, sz, h1, h2⟩
      · exact hi.ilt k hk
      · exact (hi.own id o h1).lt h2
    · rintro e w' ⟨v, σ', I', rfl, a1, a2, a3, a4, a5, _, _, _, a9⟩
      exact ⟨v, σ, I, rfl, keepU (hi.extend a1 a2 a3 a4 a5 I (fun _ h => h) (fun _ h => .inl h)), a9.noMem hnm, ⟨fun _ _ => rfl, fun _ h => h, fun k hk => a5 k (hi.ilt k hk)⟩⟩
  · rename_i g hg
    obtain ⟨hcall, hok⟩ := hΓ f _ hg
    have fin : ∀ (I1 : Nat → Prop) (as_ : List AV) (hp1 : H) (r : AV), (∀ k, I k → I1 k) → Inv c σ I1 w hp1 (fun id => cx ≤ id ∨ un id) → as_.length = A.length → (∀ i (_h : i < as_.length), Rel σ I1 w as_[i] (V.getD i undef)) → g as_ = some r →
        Calls P f V w fun e w' => ∃ v σ' I', e = .returned v ∧ Inv c σ' I' w' hp1 (fun k => cx ≤ k ∨ (un k ∧ k ≠ id)) ∧ Rel σ' I' w' r v ∧ Grow σ I w σ' I' w' := by
      intro I1 as_ hp1 r b1 b2 b3 b4 hr
      refine (hok σ I1 w (max cx r.ids) as_ V r (fun id hid => b2.un id (.inl (by omega))) b2.ilt b2.glob (by rw [hsize, b3]) b4 hr).mono ?_
      rintro e w' ⟨v, σ', I', rfl, a1, a2, a3, a4, a5, a6, a7, a8, a9⟩
      have hg1 : ∀ k, I1 k → (I1 k ∨ (w.heap.size ≤ k ∧ k < w'.heap.size)) := fun k hk => .inl hk
      refine ⟨v, σ, fun k => I1 k ∨ (w.heap.size ≤ k ∧ k < w'.heap.size), rfl, keepU (b2.extend a1 a2 a3 a4 a5 _ hg1 (fun _ h => h)), ?_, ⟨fun _ _ => rfl, fun k hk => .inl (b1 k hk), fun k hk => a5 k (hi.ilt k hk)⟩⟩
      have h9 : Rel σ I' w' r v := a9.congr_ids fun id hid => (a6 id (by omega)).symm
      exact h9.mono (fun _ _ => rfl) (fun k hk => by
        rcases a7 k hk with h | h
        · exact .inl h
        · exact .inr ⟨h, a8 k hk⟩) (fun _ _ => rfl)
    split at h
    · replace h := obind_inv h; obtain ⟨ah, hah, h⟩ := h
      replace h := obind_inv h; obtain ⟨r, hr, h⟩ := h
      obtain ⟨as_, hp1⟩ := ah
      simp only [Option.some.injEq, Prod.mk.injEq] at h; obtain ⟨rfl, rfl, rfl⟩ := h
      refine ⟨Nat.le_refl _, f, V, hrun hcall, ?_⟩
      obtain ⟨I1, b1, b2, b3, b4⟩ := frzArgs_sound A (fun i => V.getD i undef) hah hi hargs
      exact fin I1 as_ hp1 r b1 b2 b3 b4 hr
    · replace h := obind_inv h; obtain ⟨as_, has, h⟩ := h
      replace h := obind_inv h; obtain ⟨r, hr, h⟩ := h
      simp only [Option.some.injEq, Prod.mk.injEq] at h; obtain ⟨rfl, rfl, rfl⟩ := h
      refine ⟨Nat.le_refl _, f, V, hrun hcall, ?_⟩
      obtain ⟨e1, e2⟩ := borrowL_sound (Ib := I) (hp := fun _ => none) (hi.sub (fun id o h => by cases h)) (fun _ h => h) (fun id o blk base sz h1 h2 => by cases h1) A (fun i => V.getD i undef) has hargs
      exact fin I as_ hp r (fun _ h => h) hi e1 e2 hr
  · rename_i g hg
    obtain ⟨hcall, hok⟩ := hΓ f _ hg
    replace h := obind_inv h; obtain ⟨as_, has, h⟩ := h
    replace h := obind_inv h; obtain ⟨r, hr, h⟩ := h
    replace h := guardO_inv h; obtain ⟨hnm, h⟩ := h
    obtain ⟨nn, ee, xs⟩ := r
    simp only [Option.some.injEq, Prod.mk.injEq] at h; obtain ⟨rfl, rfl, rfl⟩ := h
    refine ⟨Nat.le_refl _, f, V, hrun hcall, ?_⟩
    have hIb : ∀ k, I k → (I k ∨ ∃ id o base sz, hp id = some o ∧ σ id = .at_ k base sz) := fun k hk => .inl hk
    obtain ⟨e1, e2⟩ := borrowD_sound (Ib := fun k => I k ∨ ∃ id o base sz, hp id = some o ∧ σ id = .at_ k base sz) (hi.sub (hsel_sub m nx n hp)) hIb (fun id o blk base sz h1 h2 => .inr ⟨id, o, base, sz, hsel_sub m nx n hp id o h1, h2⟩) A (fun i => V.getD i undef) has hargs
    refine (hok σ (fun k => I k ∨ ∃ id o base sz, hp id = some o ∧ σ id = .at_ k base sz) w cx as_ V nn ee xs (fun id hid => hi.un id (.inl hid)) (fun k hk => ?_) (fun g xs hgl => (hi.glob g xs hgl).mono (fun _ _ => rfl) hIb (fun _ _ => rfl)) (by rw [hsize, e1]) e2 hr).mono ?_
    · rcases hk with hk | ⟨id, o, base, sz, h1, h2⟩
      · exact hi.ilt k hk
      · exact (hi.own id o h1).lt h2
    · rintro e w' ⟨v, σ', I', rfl, a1, a2, a3, a4, a5, _, _, _, a9⟩
      have hext := hi.extend a1 a2 a3 a4 a5 I (fun _ h => h) (fun _ h => .inl h)
      have hgr : Grow σ I w σ I w' := ⟨fun _ _ => rfl, fun _ h => h, fun k hk => a5 k (hi.ilt k hk)⟩
      refine freshFin (Iw := I) hext hid hi.size hi.ilt (fun k o blk base sz h1 h2 => (hi.own k o h1).lt h2) hgr ?_ hunl
      rcases a9 with a9 | ⟨blk, base, sz, cap, b1, b2, b3, b4, b5, b6⟩
      · exact .inl a9
      · refine .inr ⟨blk, base, sz, cap, b1, b2, b3, b4, fun hb => by have := hi.ilt blk hb; omega, ?_⟩
        obtain ⟨⟨cs, T, lo, hi', q1, q2, q3, q4, q5⟩, q6⟩ := b6
        exact ⟨⟨cs, T, lo, hi', q1, q2, q3, q4, fun i hi'' => (q5 i hi'').noMem (AV.noMem_get xs hnm i hi'')⟩, q6⟩
  · rename_i g hg
    obtain ⟨hcall, hok⟩ := hΓ f _ hg
    have fin : ∀ (I1 : Nat → Prop) (as_ : List AV) (hp1 : H) (nn ee : Nat) (xs : List AV), (∀ k, I k → I1 k) → Inv c σ I1 w hp1 (fun id => cx ≤ id ∨ un id) → as_.length = A.length → (∀ i (_h : i < as_.length), Rel σ I1 w as_[i] (V.getD i undef)) → g as_ = some (nn, ee, xs) →
        Calls P f V w fun e w' => ∃ v σ' I', e = .returned v ∧ Inv c σ' I' w' (upd hp1 id (.cells xs true)) (fun k => cx ≤ k ∨ (un k ∧ k ≠ id)) ∧ Rel σ' I' w' (.os id 0 nn ee true) v ∧ Grow σ I w σ' I' w' := by
      intro I1 as_ hp1 nn ee xs b1 b2 b3 b4 hr
      refine (hok σ I1 w (max cx (AV.ids.idsL xs)) as_ V nn ee xs (fun id hid => b2.un id (.inl (by omega))) b2.ilt b2.glob (by rw [hsize, b3]) b4 hr).mono ?_
      rintro e w' ⟨v, σ', I', rfl, a1, a2, a3, a4, a5, a6, a7, a8, a9⟩
      have hI2 : ∀ k, I1 k → (I1 k ∨ (w.heap.size ≤ k ∧ k < w'.heap.size ∧ I' k)) := fun k hk => .inl hk
      have hext := b2.extend a1 a2 a3 a4 a5 (fun k => I1 k ∨ (w.heap.size ≤ k ∧ k < w'.heap.size ∧ I' k)) hI2 (fun k hk => hk.imp (fun h => h) (fun h => ⟨h.1, h.2.1⟩))
      have hgr : Grow σ I w σ (fun k => I1 k ∨ (w.heap.size ≤ k ∧ k < w'.heap.size ∧ I' k)) w' := ⟨fun _ _ => rfl, fun k hk => .inl (b1 k hk), fun k hk => a5 k (hi.ilt k hk)⟩
      refine freshFin (Iw := I1) hext hid hi.size b2.ilt (fun k o blk base sz h1 h2 => (b2.own k o h1).lt h2) hgr ?_ hunl
      rcases a9 with a9 | ⟨blk, base, sz, cap, c1, c2, c3, c4, c5, c6⟩
      · exact .inl a9
      · refine .inr ⟨blk, base, sz, cap, c1, c2, c3, c4, fun hb => hb.elim (fun h => by have := b2.ilt blk h; omega) (fun h => c5 h.2.2), ?_⟩
        obtain ⟨⟨cs, T, lo, hi', q1, q2, q3, q4, q5⟩, q6⟩ := c6
        refine ⟨⟨cs, T, lo, hi', q1, q2, q3, q4, fun i hi'' => ?_⟩, q6⟩
        have h9 := (q5 i hi'').congr_ids (σ' := σ) fun id hid => (a6 id (by have := AV.ids_get xs i hi''; omega)).symm
        exact h9.mono (fun _ _ => rfl) (fun k hk => by
          rcases a7 k hk with h | h
          · exact .inl h
          · exact .inr ⟨h, a8 k hk, hk⟩) (fun _ _ => rfl)
    split at h
    · replace h := obind_inv h; obtain ⟨ah, hah, h⟩ := h
      replace h := obind_inv h; obtain ⟨r, hr, h⟩ := h
      obtain ⟨as_, hp1⟩ := ah
      obtain ⟨nn, ee, xs⟩ := r
      simp only [Option.some.injEq, Prod.mk.injEq] at h; obtain ⟨rfl, rfl, rfl⟩ := h
      refine ⟨Nat.le_refl _, f, V, hrun hcall, ?_⟩
      obtain ⟨I1, b1, b2, b3, b4⟩ := frzArgs_sound A (fun i => V.getD i undef) hah hi hargs
      exact fin I1 as_ hp1 nn ee xs b1 b2 b3 b4 hr
    · replace h := obind_inv h; obtain ⟨as_, has, h⟩ := h
      replace h := obind_inv h; obtain ⟨r, hr, h⟩ := h
      obtain ⟨nn, ee, xs⟩ := r
      simp only [Option.some.injEq, Prod.mk.injEq] at h; obtain ⟨rfl, rfl, rfl⟩ := h
      refine ⟨Nat.le_refl _, f, V, hrun hcall, ?_⟩
      obtain ⟨e1, e2⟩ := borrowL_sound (Ib := I) (hp := fun _ => none) (hi.sub (fun id o h => by cases h)) (fun _ h => h) (fun id o blk base sz h1 h2 => by cases h1) A (fun i => V.getD i undef) has hargs
      exact fin I as_ hp nn ee xs (fun _ h => h) hi e1 e2 hr
  · rename_i g hg
    obtain ⟨hcall, hok⟩ := hΓ f _ hg
    replace h := guardO_inv h; obtain ⟨_, h⟩ := h
    obtain ⟨k1, k2⟩ := hok c σ I w hp cx A V x hp' cx' rfl (hi.mono_un fun id hid => .inl hid) hsize hargs h
    refine ⟨k1, f, V, hrun hcall, k2.mono ?_⟩
    rintro e w' ⟨v, σ', I', rfl, a1, a2, a3, a4⟩
    refine ⟨v, σ', I', rfl, keepU ?_, a2, a3⟩
    have hu' : ∀ id, (cx' ≤ id ∨ un id) → σ' id = .unset := by
      intro id hid
      rcases hid with hid | hid
      · exact a1.un id hid
      · exact a4 id (hun id hid) (hi.un id (.inr hid))
    exact { a1 with un := hu' }
  · cases h

theorem step_sound {k : Nat} {md : Nat → Nat} {o : Oper} {s' : S} {K : Act → World → Prop} {Q : Exit → Act → World → Prop} (hΓ : EnvOK P c.GL Γ) (h : stepO P Γ c.GL md ops k o s = some s') (hdst : ∀ d, o.dst = some d → d < c.nt) (hk : rem k)
    (hR : R c σ0 I0 w0 rem s a w) (hK : ∀ a' w', R c σ0 I0 w0 (fun m => rem m ∧ m ≠ k) s' a' w' → K a' w') :
    if Region.wanted o (yielded ops a.tmps) then o.wp P a w K Q else K (a.put o.dst undef) w := by
  obtain ⟨⟨σ, I, hi, hg, hf⟩, hd, hsz, hlt, hlt0⟩ := hR
  have hρ := ev_rel hi hf
  have hun : ∀ id, ((∃ m, rem m ∧ id = s.nx + m) ∨ c.u0 id) → id < s.cx := by
    rintro id (⟨m, hm, rfl⟩ | h)
    · exact hlt m hm
    · exact (hlt0 id h).2
  /- the operation runs -/
  have run : ∀ r, eff P Γ o.op (ev c.GL s.fr) (md k) s.nx ops.size s.hp (s.nx + k) s.cx = some r → s' = { fr := putA o.dst r.1 s.fr, hp := r.2.1, nx := s.nx, cx := r.2.2 } → o.wp P a w K Q := by
    intro r hr hs'
    subst hs'
    obtain ⟨x, hp', cx'⟩ := r
    have fin : ∀ (v : Value) (w' : World) (σ' : Nat → Loc) (I' : Nat → Prop), s.cx ≤ cx' → Inv c σ' I' w' hp' (fun id => cx' ≤ id ∨ (∃ m, (rem m ∧ m ≠ k) ∧ id = s.nx + m) ∨ c.u0 id) → (o.dst.isSome = true → Rel σ' I' w' x v) → Grow σ I w σ' I' w' → K (a.put o.dst v) w' := by
      intro v w' σ' I' hcx hinv hrel hgr
      refine hK _ _ ⟨⟨σ', I', hinv, hg.trans hgr, ?_⟩, by rw [defers_put]; exact hd, by rw [size_put]; exact hsz, fun m hm => ?_, fun id hid => ?_⟩
      · exact put_rel hsz hdst hrel (fun t => (hf t).grow hgr)
      · have := hlt m hm.1; show s.nx + m < cx'; omega
      · have := hlt0 id hid; show id < s.nx ∧ id < cx'; omega
    have keep : ∀ {σ' : Nat → Loc} {I' : Nat → Prop} {w' : World} {hp' : H} {cx' : Nat}, Inv c σ' I' w' hp' (fun id => cx' ≤ id ∨ (∃ m, rem m ∧ id = s.nx + m) ∨ c.u0 id) → Inv c σ' I' w' hp' (fun id => cx' ≤ id ∨ (∃ m, (rem m ∧ m ≠ k) ∧ id = s.nx + m) ∨ c.u0 id) :=
      fun h => h.mono_un fun id hid => hid.imp (fun h => h) (fun h => h.imp (fun ⟨m, hm, e⟩ => ⟨m, hm.1, e⟩) (fun h => h))
    have hu : (fun id => s.cx ≤ id ∨ (∃ k, rem k ∧ id = s.nx + k) ∨ c.u0 id) (s.nx + k) := .inr (.inl ⟨k, hk, rfl⟩)
    unfold Oper.wp
    unfold eff at hr
    split at hr
    · replace hr := obind_inv hr; obtain ⟨y, hy, hr⟩ := hr
      simp only [Option.some.injEq, Prod.mk.injEq] at hr; obtain ⟨rfl, rfl, rfl⟩ := hr
      obtain ⟨v, hrun, hrel⟩ := pure_sound (P := P) hy hρ
      rw [hrun]
      exact fin v w σ I (Nat.le_refl _) (keep hi) (fun _ => hrel) (Grow.refl _ _ _)
    · replace hr := obind_inv hr; obtain ⟨y, hy, hr⟩ := hr
      simp only [Option.some.injEq, Prod.mk.injEq] at hr; obtain ⟨rfl, rfl, rfl⟩ := hr
      obtain ⟨v, hrun, hrel⟩ := read_sound (P := P) hy hρ (fun id o h => hi.own id o (hsel_sub _ _ _ _ id o h))
      rw [hrun]
      exact fin v w σ I (Nat.le_refl _) (keep hi) (fun _ => hrel) (Grow.refl _ _ _)
    · replace hr := obind_inv hr; obtain ⟨y, hy, hr⟩ := hr
      simp only [Option.some.injEq, Prod.mk.injEq] at hr; obtain ⟨rfl, rfl, rfl⟩ := hr
      obtain ⟨y1, y2⟩ := y
      obtain ⟨v, w', σ', hrun, hinv, hrel, hgr⟩ := new_sound (P := P) hy hρ hi hu
      rw [hrun]
      exact fin v w' σ' I (Nat.le_refl _) (un_take hk hlt hlt0 hinv) (fun _ => hrel) hgr
    · replace hr := obind_inv hr; obtain ⟨y, hy, hr⟩ := hr
      simp only [Option.some.injEq, Prod.mk.injEq] at hr; obtain ⟨rfl, rfl, rfl⟩ := hr
      obtain ⟨y1, y2⟩ := y
      obtain ⟨r, w', σ', I', hrun, hres, hinv, hgr⟩ := write_sound (P := P) hy hρ hi hu
      rw [hrun]
      rcases hres with ⟨v, rfl, hrel⟩ | ⟨rfl, rfl⟩
      · exact fin v w' σ' I' (Nat.le_refl _) (un_take hk hlt hlt0 hinv) (fun _ => hrel) hgr
      · exact fin undef w' σ' I' (Nat.le_refl _) (un_take hk hlt hlt0 hinv) (fun _ => .junk _) hgr
    · obtain ⟨dst, op, type, pos, after, guard⟩ := o
      obtain ⟨hle, f, vals, hrun, hcalls⟩ := call_sound (type := type) (dst := dst) (pos := pos) (after := after) (guard := guard) hΓ hr hρ hi hun (.inl ⟨k, hk, rfl⟩)
      rw [hrun]
      refine hcalls.mono ?_
      rintro e w' ⟨v, σ', I', rfl, hinv, hrel, hgr⟩
      exact fin v w' σ' I' hle (hinv.mono_un fun id hid => hid.imp (fun h => h) (fun h => by
        rcases h with ⟨q, hq, e⟩ | h
        · exact ⟨.inl ⟨q, hq.1, e⟩, by have := hq.2; omega⟩
        · have := hlt0 id h; exact ⟨.inr h, by omega⟩)) (fun _ => hrel) hgr
  unfold stepO at h
  replace h := obind_inv h; obtain ⟨b, hb, h⟩ := h
  have hw : Region.wanted o (yielded ops a.tmps) = b := by
    unfold gdO at hb
    cases hgd : o.guard with
    | none => rw [hgd] at hb; obtain rfl := Option.some.inj hb; simp [Region.wanted, hgd]
    | some jw =>
      obtain ⟨j, want⟩ := jw
      rw [hgd] at hb
      replace hb := obind_inv hb; obtain ⟨g, hgv, hb⟩ := hb
      obtain rfl := Option.some.inj hb
      simp [Region.wanted, hgd, guard_run hgv hf]
  cases b with
  | true =>
    replace h := obind_inv h; obtain ⟨r, hr, h⟩ := h
    rw [if_pos hw]
    exact run r hr (Option.some.inj h).symm
  | false =>
    obtain rfl := Option.some.inj h
    rw [if_neg (by rw [hw]; simp)]
    refine hK _ _ ⟨⟨σ, I, hi.mono_un fun id hid => hid.imp (fun h => h) (fun h => h.imp (fun ⟨m, hm, e⟩ => ⟨m, hm.1, e⟩) (fun h => h)), hg, put_rel hsz hdst (fun _ => .junk _) hf⟩, by rw [defers_put]; exact hd, by rw [size_put]; exact hsz, fun m hm => hlt m hm.1, hlt0⟩
end
end Go.AX
