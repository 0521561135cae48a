/-
  Keys, part A: what a ring is in memory. Keys, part B: settings; a DNSKEY's bytes; a new ring. Keys, part C: how many leaves are left; keys made; leaves passed over. Keys, part D: a key's tree.
-/
import Derived.Test.YtkpgebeipmedeaaDoorBJ
namespace Go.AX
open Go Go.Proofs

/-- Eight bytes. -/
structure S8 where
  a : B8
  b : B8
  c : B8
  d : B8
  e : B8
  f : B8
  g : B8
  h : B8
def S8.l (s : S8) : List B8 := [s.a, s.b, s.c, s.d, s.e, s.f, s.g, s.h]
theorem S8.len (s : S8) : s.l.length = 8 := rfl
theorem S8.inj {s t : S8} (h : s.l = t.l) : s = t := by
  obtain ⟨_, _, _, _, _, _, _, _⟩ := s
  obtain ⟨_, _, _, _, _, _, _, _⟩ := t
  simp only [S8.l, List.cons.injEq, and_true] at h
  obtain ⟨rfl, rfl, rfl, rfl, rfl, rfl, rfl, rfl⟩ := h
  rfl
theorem S8.of {l : List B8} (h : l.length = 8) : ∃ s : S8, l = s.l := by
  match l, h with
  | [a, b, c, d, e, f, g, h], _ => exact ⟨⟨a, b, c, d, e, f, g, h⟩, rfl⟩
/-- A key. -/
structure KY where
  id : W32
  role : Int
  st : Int
  seed : S8
  h : Nat
  next : W32
  since : W32
  seen : W32
def kyC (k : KY) : List AV := [.w32 k.id, .i k.role, .i k.st, .w8 k.seed.a, .w8 k.seed.b, .w8 k.seed.c, .w8 k.seed.d, .w8 k.seed.e, .w8 k.seed.f, .w8 k.seed.g, .w8 k.seed.h, .i k.h, .w32 k.next, .w32 k.since, .w32 k.seen]
theorem kyC_inj {a b : KY} (h : kyC a = kyC b) : a = b := by
  obtain ⟨_, _, _, ⟨_, _, _, _, _, _, _, _⟩, _, _, _, _⟩ := a
  obtain ⟨_, _, _, ⟨_, _, _, _, _, _, _, _⟩, _, _, _, _⟩ := b
  simp only [kyC, List.cons.injEq, AV.w32.injEq, AV.i.injEq, AV.w8.injEq, and_true] at h
  obtain ⟨rfl, rfl, rfl, rfl, rfl, rfl, rfl, rfl, rfl, rfl, rfl, h1, rfl, rfl, rfl⟩ := h
  obtain rfl := Int.ofNat.inj h1
  rfl
def encK (k : KY) : AV := .agg (kyC k)
theorem encK_inj {a b : KY} (h : encK a = encK b) : a = b := kyC_inj (AV.agg.inj h)
/-- A tree that was made. -/
structure TK where
  seed : S8
  h : Nat
def encT (t : TK) : AV := .rp (trC t.seed.l t.h)
theorem encT_inj {a b : TK} (h : encT a = encT b) : a = b := by
  obtain ⟨e1, e2⟩ := trC_inj a.seed.len b.seed.len (AV.rp.inj h)
  obtain ⟨s, n⟩ := a
  obtain ⟨t, m⟩ := b
  obtain rfl := S8.inj e1
  cases e2
  rfl
/-- Settings. -/
structure CF where
  apx : List (List B8)
  kt : W32
  pr : W32
  dt : W32
  dp : W32
  va : W32
  le : W32
  ga : W32
  mx : W32
  salt : List B8
  iter : BitVec 16
  h : Nat
  size : BitVec 16
def cfC (c : CF) : List AV := [.sl c.apx.length (cS c.apx), .w32 c.kt, .w32 c.pr, .w32 c.dt, .w32 c.dp, .w32 c.va, .w32 c.le, .w32 c.ga, .w32 c.mx, .sl c.salt.length (c8 c.salt), .w16 c.iter, .i c.h, .w16 c.size]
theorem cfC_eq (c : CF) : cfC c = [.sl c.apx.length (cS c.apx), .w32 c.kt, .w32 c.pr, .w32 c.dt, .w32 c.dp, .w32 c.va, .w32 c.le, .w32 c.ga, .w32 c.mx, .sl c.salt.length (c8 c.salt), .w16 c.iter, .i c.h, .w16 c.size] := rfl
theorem cS_inj {a b : List (List B8)} (h : cS a = cS b) : a = b := by
  have h1 := unS_cS a
  rw [h, unS_cS] at h1
  exact (Option.some.inj h1).symm
theorem cfC_inj {a b : CF} (h : cfC a = cfC b) : a = b := by
  obtain ⟨_, _, _, _, _, _, _, _, _, _, _, _, _⟩ := a
  obtain ⟨_, _, _, _, _, _, _, _, _, _, _, _, _⟩ := b
  simp only [cfC, List.cons.injEq, AV.w32.injEq, AV.i.injEq, AV.w16.injEq, AV.sl.injEq, and_true] at h
  obtain ⟨⟨_, h1⟩, rfl, rfl, rfl, rfl, rfl, rfl, rfl, rfl, ⟨_, h2⟩, rfl, h3, rfl⟩ := h
  obtain rfl := cS_inj h1
  obtain rfl := c8_inj h2
  obtain rfl := Int.ofNat.inj h3
  rfl
open Classical in
noncomputable def cfOf (xs : List AV) : Option CF := if h : ∃ c, xs = cfC c then some (Classical.choose h) else none
theorem cfOf_cfC (c : CF) : cfOf (cfC c) = some c := by
  have hx : ∃ c', cfC c = cfC c' := ⟨c, rfl⟩
  unfold cfOf
  rw [dif_pos hx]
  exact congrArg some (cfC_inj (Classical.choose_spec hx)).symm
theorem cfOf_inv {xs : List AV} {c : CF} (h : cfOf xs = some c) : xs = cfC c := by
  unfold cfOf at h
  split at h
  · rename_i hx
    rw [← Option.some.inj h]
    exact Classical.choose_spec hx
  · cases h
/-- A ring. -/
structure RC where
  c : CF
  by' : List (W32 × KY)
  last : W32
  tr : List (W32 × TK)
def encB (l : List (W32 × KY)) : List (AV × AV) := l.map fun p => (.w32 p.1, encK p.2)
def encR2 (l : List (W32 × TK)) : List (AV × AV) := l.map fun p => (.w32 p.1, encT p.2)
theorem maps_inj {α β : Type} {f : α → β} (hf : ∀ a b, f a = f b → a = b) : ∀ {l l' : List α}, l.map f = l'.map f → l = l'
  | [], [], _ => rfl
  | [], _ :: _, h => by cases h
  | _ :: _, [], h => by cases h
  | a :: r, b :: r', h => by
    simp only [List.map_cons, List.cons.injEq] at h
    rw [hf a b h.1, maps_inj hf h.2]
theorem encB_inj {a b : List (W32 × KY)} (h : encB a = encB b) : a = b := maps_inj (fun p q e => by
  obtain ⟨e1, e2⟩ := Prod.mk.inj e
  exact Prod.ext (AV.w32.inj e1) (encK_inj e2)) h
theorem encR2_inj {a b : List (W32 × TK)} (h : encR2 a = encR2 b) : a = b := maps_inj (fun p q e => by
  obtain ⟨e1, e2⟩ := Prod.mk.inj e
  exact Prod.ext (AV.w32.inj e1) (encT_inj e2)) h
def rgC (s m : Nat) (C : RC) : List AV := [.sl C.c.apx.length (cS C.c.apx), .w32 C.c.kt, .w32 C.c.pr, .w32 C.c.dt, .w32 C.c.dp, .w32 C.c.va, .w32 C.c.le, .w32 C.c.ga, .w32 C.c.mx, .sl C.c.salt.length (c8 C.c.salt), .w16 C.c.iter, .i C.c.h, .w16 C.c.size, .mp s, .w32 C.last, .mp m]
theorem rgC_eq (s m : Nat) (C : RC) : rgC s m C = [.sl C.c.apx.length (cS C.c.apx), .w32 C.c.kt, .w32 C.c.pr, .w32 C.c.dt, .w32 C.c.dp, .w32 C.c.va, .w32 C.c.le, .w32 C.c.ga, .w32 C.c.mx, .sl C.c.salt.length (c8 C.c.salt), .w16 C.c.iter, .i C.c.h, .w16 C.c.size, .mp s, .w32 C.last, .mp m] := rfl
theorem rgC_inj {s m s' m' : Nat} {C C' : RC} (h : rgC s m C = rgC s' m' C') : s = s' ∧ m = m' ∧ C.c = C'.c ∧ C.last = C'.last := by
  have e : rgC s m C = cfC C.c ++ [.mp s, .w32 C.last, .mp m] := rfl
  have e' : rgC s' m' C' = cfC C'.c ++ [.mp s', .w32 C'.last, .mp m'] := rfl
  rw [e, e'] at h
  obtain ⟨h1, h2⟩ := List.append_inj h rfl
  simp only [List.cons.injEq, AV.mp.injEq, AV.w32.injEq, and_true] at h2
  exact ⟨h2.1, h2.2.2, cfC_inj h1, h2.2.1⟩
structure RHas (hp : H) (d s m : Nat) (C : RC) : Prop where
  hd : hp d = some (.cells (rgC s m C) true)
  hs : hp s = some (.mapo (encB C.by') true)
  hm : hp m = some (.mapo (encR2 C.tr) true)
  ne : d ≠ s ∧ d ≠ m ∧ s ≠ m ∧ s ≠ d ∧ m ≠ d ∧ m ≠ s
def setR (d s m : Nat) (C : RC) (hp : H) : H := upd (upd (upd hp s (.mapo (encB C.by') true)) m (.mapo (encR2 C.tr) true)) d (.cells (rgC s m C) true)
theorem RHas.uniq {hp : H} {d s m s' m' : Nat} {C C' : RC} (h : RHas hp d s m C) (h' : RHas hp d s' m' C') : s = s' ∧ m = m' ∧ C = C' := by
  have e := h.hd.symm.trans h'.hd
  obtain ⟨rfl, rfl, ec, el⟩ := rgC_inj (AO.cells.inj (Option.some.inj e)).1
  have eb := encB_inj (AO.mapo.inj (Option.some.inj (h.hs.symm.trans h'.hs))).1
  have et := encR2_inj (AO.mapo.inj (Option.some.inj (h.hm.symm.trans h'.hm))).1
  obtain ⟨c1, b1, l1, t1⟩ := C
  obtain ⟨c2, b2, l2, t2⟩ := C'
  simp only at ec el eb et
  subst ec; subst el; subst eb; subst et
  exact ⟨rfl, rfl, rfl⟩
structure RT where
  s : Nat
  m : Nat
  C : RC
open Classical in
noncomputable def rngOf (hp : H) (d : Nat) : Option RT := if h : ∃ t : RT, RHas hp d t.s t.m t.C then some (Classical.choose h) else none
theorem rngOf_has {hp : H} {d s m : Nat} {C : RC} (h : RHas hp d s m C) : rngOf hp d = some ⟨s, m, C⟩ := by
  have hx : ∃ t : RT, RHas hp d t.s t.m t.C := ⟨⟨s, m, C⟩, h⟩
  unfold rngOf
  rw [dif_pos hx]
  have h2 := Classical.choose_spec hx
  obtain ⟨e1, e2, e3⟩ := h2.uniq h
  congr 1
  generalize Classical.choose hx = t at e1 e2 e3
  cases t; simp only at e1 e2 e3; rw [e1, e2, e3]
theorem rngOf_inv {hp : H} {d : Nat} {t : RT} (h : rngOf hp d = some t) : RHas hp d t.s t.m t.C := by
  unfold rngOf at h
  split at h
  · rename_i hx
    obtain rfl := Option.some.inj h
    exact Classical.choose_spec hx
  · cases h
theorem setR_has {hp : H} {d s m : Nat} {C : RC} (h1 : d ≠ s) (h2 : d ≠ m) (h3 : s ≠ m) : RHas (setR d s m C hp) d s m C :=
  ⟨by simp [setR, upd_apply], by simp [setR, upd_apply, Ne.symm h1, h3], by simp [setR, upd_apply, Ne.symm h2], ⟨h1, h2, h3, Ne.symm h1, Ne.symm h2, Ne.symm h3⟩⟩
theorem rng_set (hp : H) (d s m : Nat) (C : RC) (h1 : d ≠ s) (h2 : d ≠ m) (h3 : s ≠ m) : rngOf (setR d s m C hp) d = some ⟨s, m, C⟩ := rngOf_has (setR_has h1 h2 h3)
theorem setR_set (hp : H) (d s m : Nat) (C C' : RC) : setR d s m C' (setR d s m C hp) = setR d s m C' hp := by
  funext k
  simp only [setR, upd_apply]
  by_cases h1 : k = d
  · simp [h1]
  · by_cases h2 : k = m
    · simp [h2]
    · by_cases h3 : k = s
      · simp [h3]
      · simp [h1, h2, h3]
theorem setR_app (hp : H) (d s m : Nat) (C : RC) (k : Nat) (h1 : k ≠ d) (h2 : k ≠ s) (h3 : k ≠ m) : setR d s m C hp k = hp k := by simp [setR, upd_apply, h1, h2, h3]
theorem setR_upd (hp : H) (d s m : Nat) (C : RC) (k : Nat) (o : AO) (h1 : k ≠ d) (h2 : k ≠ s) (h3 : k ≠ m) : upd (setR d s m C hp) k o = setR d s m C (upd hp k o) := by
  funext j
  simp only [setR, upd_apply]
  by_cases e : j = k
  · subst e; simp [h1, h2, h3]
  · simp [e]
theorem setR_del (hp : H) (d s m : Nat) (C : RC) (k : Nat) (h1 : k ≠ d) (h2 : k ≠ s) (h3 : k ≠ m) : del (setR d s m C hp) k = setR d s m C (del hp k) := by
  funext j
  simp only [setR, upd_apply, del_apply]
  by_cases e : j = k
  · subst e; simp [h1, h2, h3]
  · simp [e]
theorem setR_same {hp : H} {d s m : Nat} {C : RC} (h : RHas hp d s m C) : setR d s m C hp = hp := by
  funext k
  simp only [setR, upd_apply]
  by_cases h1 : k = d
  · subst h1; rw [if_pos rfl, h.hd]
  · rw [if_neg h1]
    by_cases h2 : k = m
    · subst h2; rw [if_pos rfl, h.hm]
    · rw [if_neg h2]
      by_cases h3 : k = s
      · subst h3; rw [if_pos rfl, h.hs]
      · rw [if_neg h3]
theorem setR_sub {hp t : H} {d s m : Nat} {C : RC} (h1 : t d = some (.cells (rgC s m C) true)) (h2 : t s = some (.mapo (encB C.by') true)) (h3 : t m = some (.mapo (encR2 C.tr) true))
    (h : ∀ k o, k ≠ d → k ≠ s → k ≠ m → hp k = some o → t k = some o) (k : Nat) (o : AO) (hk : setR d s m C hp k = some o) : t k = some o := by
  simp only [setR, upd_apply] at hk
  by_cases e1 : k = d
  · subst e1; rw [if_pos rfl] at hk; rw [h1]; exact hk
  · rw [if_neg e1] at hk
    by_cases e2 : k = m
    · subst e2; rw [if_pos rfl] at hk; rw [h3]; exact hk
    · rw [if_neg e2] at hk
      by_cases e3 : k = s
      · subst e3; rw [if_pos rfl] at hk; rw [h2]; exact hk
      · rw [if_neg e3] at hk; exact h k o e1 e3 e2 hk
theorem setR_mono {hp hp2 : H} {d s m : Nat} {C : RC} (h : ∀ j o, hp j = some o → hp2 j = some o) (k : Nat) (o : AO) (hk : setR d s m C hp k = some o) : setR d s m C hp2 k = some o := by
  simp only [setR, upd_apply] at hk ⊢
  by_cases e1 : k = d
  · rw [if_pos e1] at hk ⊢; exact hk
  · rw [if_neg e1] at hk ⊢
    by_cases e2 : k = m
    · rw [if_pos e2] at hk ⊢; exact hk
    · rw [if_neg e2] at hk ⊢
      by_cases e3 : k = s
      · rw [if_pos e3] at hk ⊢; exact hk
      · rw [if_neg e3] at hk ⊢; exact h k o hk
theorem setR_d (hp : H) (d s m : Nat) (C : RC) : setR d s m C hp d = some (.cells (rgC s m C) true) := by simp [setR, upd_apply]
theorem setR_s (hp : H) (d s m : Nat) (C : RC) (h1 : s ≠ d) (h2 : s ≠ m) : setR d s m C hp s = some (.mapo (encB C.by') true) := by simp [setR, upd_apply, h1, h2]
theorem setR_m (hp : H) (d s m : Nat) (C : RC) (h1 : m ≠ d) : setR d s m C hp m = some (.mapo (encR2 C.tr) true) := by simp [setR, upd_apply, h1]
theorem setR_updM (hp : H) (d s m : Nat) (C : RC) (l : List (W32 × TK)) (h1 : m ≠ d) : upd (setR d s m C hp) m (.mapo (encR2 l) true) = setR d s m { C with tr := l } hp := by
  funext k
  simp only [setR, upd_apply]
  by_cases e : k = m
  · subst e; simp [h1]
  · simp [e]; rfl
theorem setR_updS (hp : H) (d s m : Nat) (C : RC) (l : List (W32 × KY)) (h1 : s ≠ d) (h2 : s ≠ m) : upd (setR d s m C hp) s (.mapo (encB l) true) = setR d s m { C with by' := l } hp := by
  funext k
  simp only [setR, upd_apply]
  by_cases e : k = s
  · subst e; simp [h1, h2]
  · simp [e]; rfl
/-- An own object that is there bears an elder name. -/
theorem lt_of_none2 {hp : H} {nx d : Nat} {o : AO} (hn : ∀ id, nx ≤ id → hp id = none) (h : hp d = some o) : d < nx := by
  rcases Nat.lt_or_ge d nx with e | e
  · exact e
  · rw [hn d e] at h; cases h
theorem encB_get (k : W32) (l : List (W32 × KY)) : mget (.w32 k) (encB l) = some ((getK k l).map encK) := mget_map (kc := .w32) kEq_32 encK k l
theorem encB_put (k : W32) (v : KY) (l : List (W32 × KY)) : mput (.w32 k) (encK v) (encB l) = some (encB (putK k v l)) := mput_map (kc := .w32) kEq_32 encK k v l
theorem encB_del (k : W32) (l : List (W32 × KY)) : mdel (.w32 k) (encB l) = some (encB (delK k l)) := mdel_map (kc := .w32) kEq_32 encK k l
theorem encR2_get (k : W32) (l : List (W32 × TK)) : mget (.w32 k) (encR2 l) = some ((getK k l).map encT) := mget_map (kc := .w32) kEq_32 encT k l
theorem encR2_put (k : W32) (v : TK) (l : List (W32 × TK)) : mput (.w32 k) (.rp (trC v.seed.l v.h)) (encR2 l) = some (encR2 (putK k v l)) := mput_map (kc := .w32) kEq_32 encT k v l
theorem encR2_del (k : W32) (l : List (W32 × TK)) : mdel (.w32 k) (encR2 l) = some (encR2 (delK k l)) := mdel_map (kc := .w32) kEq_32 encT k l
theorem encB_len (l : List (W32 × KY)) : (encB l).length = l.length := List.length_map _
attribute [go_sem] setR_m setR_updM setR_updS rng_set setR_set setR_app setR_upd setR_del cfOf_cfC encB_get encB_del encR2_get encR2_put encR2_del encB_len
end Go.AX

namespace Go.AX
open Go Go.Proofs
set_option maxRecDepth 8000

theorem storeL4 (a0 a1 a2 a3 b0 b1 b2 b3 : AV) : storeL [a0, a1, a2, a3] 0 [b0, b1, b2, b3] = [b0, b1, b2, b3] := (rfl)
theorem storeL13 (a0 a1 a2 a3 a4 a5 a6 a7 a8 a9 a10 a11 a12 b0 b1 b2 b3 b4 b5 b6 b7 b8 b9 b10 b11 b12 : AV) : storeL [a0, a1, a2, a3, a4, a5, a6, a7, a8, a9, a10, a11, a12] 0 [b0, b1, b2, b3, b4, b5, b6, b7, b8, b9, b10, b11, b12] = [b0, b1, b2, b3, b4, b5, b6, b7, b8, b9, b10, b11, b12] := (rfl)
theorem storeL15 (a0 a1 a2 a3 a4 a5 a6 a7 a8 a9 a10 a11 a12 a13 a14 b0 b1 b2 b3 b4 b5 b6 b7 b8 b9 b10 b11 b12 b13 b14 : AV) : storeL [a0, a1, a2, a3, a4, a5, a6, a7, a8, a9, a10, a11, a12, a13, a14] 0 [b0, b1, b2, b3, b4, b5, b6, b7, b8, b9, b10, b11, b12, b13, b14] = [b0, b1, b2, b3, b4, b5, b6, b7, b8, b9, b10, b11, b12, b13, b14] := (rfl)
theorem storeL16 (a0 a1 a2 a3 a4 a5 a6 a7 a8 a9 a10 a11 a12 a13 a14 a15 b0 b1 b2 b3 b4 b5 b6 b7 b8 b9 b10 b11 b12 b13 b14 b15 : AV) : storeL [a0, a1, a2, a3, a4, a5, a6, a7, a8, a9, a10, a11, a12, a13, a14, a15] 0 [b0, b1, b2, b3, b4, b5, b6, b7, b8, b9, b10, b11, b12, b13, b14, b15] = [b0, b1, b2, b3, b4, b5, b6, b7, b8, b9, b10, b11, b12, b13, b14, b15] := (rfl)
attribute [go_sem] storeL4 storeL13 storeL15 storeL16
def apN : List B8 := [101#8, 120#8, 97#8, 109#8, 112#8, 108#8, 101#8]
def apexG : List AV → Option (Nat × Nat × List AV)
  | [] => some (1, 1, cS [apN])
  | _ => none
theorem apexG_eq : apexG [] = some (1, 1, cS [apN]) := (rfl)
attribute [go_sem] apexG_eq
theorem apex_ok : FreshOK Tryd.prog GLh 46 apexG := by
  refine fresh_of_awp Tryd.func46 (bodyOf_some rfl) ?_
  intro args r hg
  unfold apexG at hg
  split at hg
  · obtain rfl := Option.some.inj hg
    refine ⟨Nat.le_of_ble_eq_true rfl, fun nx => ?_⟩
    refine awp_seqP rfl ?_
    refine awp_regP (Γ := noEnv) [] (noEnv_ok _ _) rfl rfl rfl (fun K hK => ?_)
    simp (disch := omega) only [Tryd.f46, go_sem]
    refine hK _ ?_
    clear hK K
    refine nx_then ?_
    refine awp_seqP rfl ?_
    refine awp_regP (Γ := noEnv) [0] (noEnv_ok _ _) rfl rfl rfl (fun K hK => ?_)
    simp (disch := omega) only [Tryd.f46, go_sem, Nat.reduceAdd, Nat.reduceLeDiff, Nat.reduceLT]
    refine hK _ ?_
    clear hK K
    refine nx_then ?_
    refine awp_retP rfl ?_
    simp (disch := omega) only [freshQ, freshR, resA, resAL, resA1, Tryd.f46, go_sem, ↓reduceIte]
    rfl
  · cases hg
theorem okd46 : EntOK Tryd.prog GLh 46 (.fresh true apexG) := ⟨⟨_, Tryd.func46, rfl, rfl⟩, apex_ok⟩

def cfg0 : CF := ⟨[apN], 10#32, 0#32, 8#32, 0#32, 300#32, 100#32, 20#32, 60#32, [], 0#16, 6, 1400#16⟩
def cfgG : List AV → Option AV
  | [.w16 k] => guardO (k = 0#16) (some (.agg (cfC cfg0)))
  | _ => none
theorem cfgG_eq (k : BitVec 16) : cfgG [.w16 k] = guardO (k = 0#16) (some (.agg (cfC cfg0))) := (rfl)
attribute [go_sem] cfgG_eq
set_option maxHeartbeats 1000000 in
set_option maxRecDepth 8000 in
theorem cfg_ok : PureOK Tryd.prog GLh 27 cfgG := by
  refine pure_of_awp Tryd.func27 (bodyOf_some rfl) ?_
  intro args r hg
  unfold cfgG at hg
  split at hg
  · rename_i k
    replace hg := guardO_inv hg; obtain ⟨rfl, hg⟩ := hg
    obtain rfl := Option.some.inj hg
    refine ⟨Nat.le_of_ble_eq_true rfl, fun nx => ?_⟩
    refine awp_seqP rfl ?_
    refine awp_regP (Γ := noEnv) [0, 2] (noEnv_ok _ _) rfl rfl rfl (fun K hK => ?_)
    simp (disch := omega) only [Tryd.f27, go_sem, ↓reduceIte]
    refine hK _ ?_
    clear hK K
    refine nx_then ?_
    refine awp_seqP rfl ?_
    refine awp_regP (Γ := envL [(46, .fresh true apexG)]) [0, 2, 3] (envOK_cons okd46 envOK_nil) rfl rfl rfl (fun K hK => ?_)
    simp (disch := omega) only [Tryd.f27, go_sem, Nat.reduceAdd, Nat.reduceLeDiff, Int.reduceLE, Int.reduceLT, BitVec.reduceOfInt, BitVec.reduceToNat, BitVec.reduceAnd, ↓reduceIte, BitVec.reduceHShiftRight, BitVec.reduceAdd, BitVec.reduceMul, BitVec.reduceSetWidth, splice, List.nil_append, List.cons_append, List.take_succ_cons, List.take_zero, List.drop_succ_cons, List.drop_zero, List.all_cons, List.all_nil, Option.isSome_some, Bool.and_self]
    refine hK _ ?_
    clear hK K
    refine nx_then ?_
    refine awp_seqP rfl ?_
    refine awp_regP (Γ := noEnv) [0, 2, 3] (noEnv_ok _ _) rfl rfl rfl (fun K hK => ?_)
    simp (disch := omega) only [Tryd.f27, go_sem, Nat.reduceAdd, Nat.reduceSub, Nat.reduceLeDiff, Nat.reduceLT, Int.reduceLE, Int.reduceLT, Int.reduceToNat, BitVec.reduceOfInt, BitVec.reduceToNat, BitVec.reduceAnd, ↓reduceIte, BitVec.reduceHShiftRight, BitVec.reduceMod, BitVec.reduceEq]
    refine hK _ ?_
    clear hK K
    refine nx_then ?_
    refine awp_seqP rfl ?_
    refine awp_seqP rfl ?_
    refine awp_regP (Γ := noEnv) [38, 2, 3] (noEnv_ok _ _) rfl rfl rfl (fun K hK => ?_)
    simp (disch := omega) only [Tryd.f27, go_sem, Nat.reduceAdd, Int.reduceLE, Int.reduceLT, BitVec.reduceOfInt, BitVec.reduceToNat, BitVec.reduceAnd, ↓reduceIte, BitVec.reduceHShiftRight, decide_true]
    refine hK _ ?_
    clear hK K
    refine nx_then ?_
    refine awp_ifB (.tmp 38) rfl rfl rfl (fun h => ?_) (fun h => ?_)
    · skip
      refine awp_drop rfl ?_
      refine awp_regP (Γ := noEnv) [2, 3] (noEnv_ok _ _) rfl rfl rfl (fun K hK => ?_)
      simp (disch := omega) only [Tryd.f27, go_sem, Nat.reduceAdd, Nat.reduceLeDiff, Nat.reduceLT, Int.reduceLE, Int.reduceLT, BitVec.reduceOfInt, ↓reduceIte]
      refine hK _ ?_
      clear hK K
      refine nx_then ?_
      refine awp_seqP rfl ?_
      refine awp_regP (Γ := noEnv) [2] (noEnv_ok _ _) rfl rfl rfl (fun K hK => ?_)
      simp (disch := omega) only [Tryd.f27, go_sem, Nat.reduceAdd, Nat.reduceLeDiff, ↓reduceIte]
      refine hK _ ?_
      clear hK K
      refine nx_then ?_
      refine awp_retP rfl ?_
      simp (maxSteps := 400000) (disch := omega) only [pureQ, resA, resAL, resA1, Tryd.f27, go_sem, Nat.reduceAdd, Nat.reduceLeDiff, ↓reduceIte, cfC_eq, ldV, List.set_cons_succ, List.set_cons_zero, List.take_succ_cons, List.take_zero, List.drop_zero]
      rfl
    · skip
      refine awp_drop rfl ?_
      cases h
  · cases hg
theorem okd27 : EntOK Tryd.prog GLh 27 (.pure false cfgG) := ⟨⟨_, Tryd.func27, rfl, rfl⟩, cfg_ok⟩
def putF : List AV → Option (Nat × Nat × List AV)
  | [.v (.slice none 0 0), .w32 n, .i k] => guardO (0 ≤ k ∧ k ≤ 8) (some (k.toNat, 1, c8 (beL n k.toNat k.toNat)))
  | _ => none
theorem putF_eq (n : W32) (k : Int) : putF [.v (.slice none 0 0), .w32 n, .i k] = guardO (0 ≤ k ∧ k ≤ 8) (some (k.toNat, 1, c8 (beL n k.toNat k.toNat))) := (rfl)
attribute [go_sem] putF_eq
set_option maxHeartbeats 4000000 in
theorem put_okF : FreshOK Tryd.prog GLh 48 putF := by
  refine fresh_of_awp Tryd.func48 (bodyOf_some rfl) ?_
  intro args r hg
  unfold putF at hg
  split at hg
  · rename_i n k0
    replace hg := guardO_inv hg; obtain ⟨⟨hk1, hk8⟩, hg⟩ := hg
    obtain rfl := Option.some.inj hg
    obtain ⟨k, rfl⟩ := Int.eq_ofNat_of_zero_le (show 0 ≤ k0 by omega)
    simp only [Int.toNat_natCast] at *
    clear hg
    refine ⟨Nat.le_of_ble_eq_true rfl, fun nx => ?_⟩
    refine awp_seqP rfl ?_
    refine awp_regP (Γ := noEnv) [0, 1, 2] (noEnv_ok _ _) rfl rfl rfl (fun K hK => ?_)
    simp (disch := omega) only [Tryd.f48, go_sem, Nat.reduceAdd, ↓reduceIte]
    refine hK _ ?_
    clear hK K
    refine nx_then ?_
    refine awp_seqP rfl ?_
    refine awp_seqP rfl ?_
    refine awp_regP (Γ := noEnv) [0, 1, 7] (noEnv_ok _ _) rfl rfl rfl (fun K hK => ?_)
    simp (disch := omega) only [Tryd.f48, go_sem, Nat.reduceAdd, ↓reduceIte]
    refine hK _ ?_
    clear hK K
    refine nx_then ?_
    refine awp_own 0 1 rfl ?_
    refine awp_keep [0, 1, 7] ?_
    simp only [kf_nil, kf_cons, look_cons, ↓reduceIte, Nat.reduceEqDiff]
    refine awp_blockN 0 rfl rfl ?_
    refine awp_loopP (fun p : KIC => { fr := [(0, .os p.id 0 p.k 1 true), (1, .w32 n), (7, .i ((k : Int) - 1 - (p.k : Int)))], hp := upd (fun _ => none) p.id (.cells (c8 (beL n k p.k)) true), nx := 0, cx := p.c }) (fun p => p.k ≤ k ∧ p.id < p.c) (fun p => k - p.k) rfl ⟨⟨0, _, _⟩, ⟨Nat.zero_le _, by simp only; omega⟩, sub_same (by simp only [Int.natCast_zero, Int.sub_zero]) rfl (Nat.le_refl _)⟩ ?_
    rintro ⟨j, id, c⟩ ⟨hj, hid⟩ n0
    simp only at hj hid ⊢
    refine awp_seqP rfl ?_
    refine awp_seqP rfl ?_
    refine awp_regP (Γ := noEnv) [11, 0, 1, 7] (noEnv_ok _ _) rfl rfl rfl (fun K hK => ?_)
    simp (disch := omega) only [Tryd.f48, go_sem, Nat.reduceAdd, ↓reduceIte]
    refine hK _ ?_
    clear hK K
    refine nx_then ?_
    refine awp_ifD (.tmp 11) rfl rfl rfl (fun h => ?_) (fun h => ?_)
    · skip
      refine awp_drop rfl ?_
      have e1 : (BitVec.ofInt 64 (8 * ((k : Int) - 1 - (j : Int)))).toNat = 8 * (k - 1 - j) := by rw [BitVec.toNat_ofInt]; omega
      have hl := beL_len n k j
      refine awp_skipP rfl ?_
      refine nx_then ?_
      refine awp_seqP rfl ?_
      refine awp_blockN 1 rfl rfl ?_
      refine awp_regP (Γ := noEnv) [0, 1, 7] (noEnv_ok _ _) rfl rfl rfl (fun K hK => ?_)
      simp (disch := omega) only [Tryd.f48, go_sem, Nat.reduceAdd, Nat.reduceLeDiff, Nat.reduceLT, ↓reduceIte, e1, hl]
      refine hK _ ?_
      clear hK K
      refine nx_blk (nx_then ?_)
      refine awp_regP (Γ := noEnv) [0, 1, 7] (noEnv_ok _ _) rfl rfl rfl (fun K hK => ?_)
      simp (disch := omega) only [Tryd.f48, go_sem, Nat.reduceAdd, ↓reduceIte]
      refine hK _ ?_
      clear hK K
      refine nx_loop ?_
      have e2 : (k : Int) - 1 - ((j : Int) + 1) = (k : Int) - 1 - (j : Int) - 1 := by omega
      have e4 : beL n k (j + 1) = beL n k j ++ [(n >>> (8 * (k - 1 - j))).setWidth 8] := rfl
      refine ⟨⟨j + 1, c + 2 + 8, _⟩, ⟨by simp only; omega, by simp only; omega⟩, by simp only; omega, ⟨fun _ => .inr ?_, fun j o h => ?_, Nat.le_refl _⟩⟩
      · simp only [Int.natCast_add, Int.natCast_one, e2]
      · simp only at h
        exact hsub_cons (by simp (disch := omega) only [up_app, ↓reduceIte, eq_self, e4]) (hsub_nil) j o h
    · skip
      refine awp_drop rfl ?_
      refine awp_exitN 0 rfl rfl ?_
      refine nx_ex_then (nx_ex_loop (nx_ex_blk ?_))
      refine nx_then ?_
      refine awp_seqP rfl ?_
      obtain rfl : j = k := by omega
      have hl := beL_len n j j
      refine awp_regP (Γ := noEnv) [6] (noEnv_ok _ _) rfl rfl rfl (fun K hK => ?_)
      simp (disch := omega) only [Tryd.f48, go_sem, Nat.reduceAdd, ↓reduceIte]
      refine hK _ ?_
      clear hK K
      refine nx_then ?_
      refine awp_retP rfl ?_
      simp (disch := omega) only [freshQ, freshR, resA, resAL, resA1, Tryd.f48, go_sem, ↓reduceIte, c8_noOwn, hl]
  · cases hg
theorem okd48 : EntOK Tryd.prog GLh 48 (.fresh false putF) := ⟨⟨_, Tryd.func48, rfl, rfl⟩, put_okF⟩
theorem tag2 (t : BitVec 16) : beL (t.setWidth 32) 2 2 = [(t >>> 8).setWidth 8, t.setWidth 8] := by
  have e : (t.setWidth 32 >>> 8).setWidth 8 = (t >>> 8).setWidth 8 := by
    apply BitVec.eq_of_toNat_eq
    have := t.isLt
    simp only [BitVec.toNat_setWidth, BitVec.toNat_ushiftRight, Nat.shiftRight_eq_div_pow]; omega
  have e2 : (t.setWidth 32 >>> 0).setWidth 8 = t.setWidth 8 := by
    apply BitVec.eq_of_toNat_eq
    have := t.isLt
    simp only [BitVec.toNat_setWidth, BitVec.toNat_ushiftRight, Nat.shiftRight_eq_div_pow]; omega
  simp only [beL, List.nil_append, List.cons_append, Nat.reduceSub, Nat.reduceMul, e, e2]

theorem callS_g2 (f : FuncId) (args : List AV) (nx n : Nat) (hp : H) (id cx : Nat) (g : List AV → Option (Nat × Nat × List AV)) : callS f args 2 nx n hp id cx (some (.fresh false g)) = obind (borrowL (fun _ => none) args) fun as_ => obind (g as_) fun r => some (.os id 0 r.1 r.2.1 true, upd hp id (.cells r.2.2 true), cx) := (rfl)
theorem dr_s (x : AV) (l : List AV) (k : Nat) : List.drop (k + 1) (x :: l) = List.drop k l := (rfl)
attribute [go_sem] callS_g2 dr_s
/-- A DNSKEY's bytes. -/
def keyB (f : BitVec 16) (p a : B8) (k : List B8) : List B8 := [(f >>> 8).setWidth 8, f.setWidth 8] ++ [p, a] ++ k
def keyBG : List AV → Option (Nat × Nat × List AV)
  | [.agg [.w16 f, .w8 p, .w8 a, .sl n xs]] => obind (unW8 xs) fun k => guardO (k.length = n ∧ n ≤ 100000) (some ((keyB f p a k).length, 1, c8 (keyB f p a k)))
  | _ => none
theorem keyBG_eq (f : BitVec 16) (p a : B8) (n : Nat) (xs : List AV) : keyBG [.agg [.w16 f, .w8 p, .w8 a, .sl n xs]] = obind (unW8 xs) fun k => guardO (k.length = n ∧ n ≤ 100000) (some ((keyB f p a k).length, 1, c8 (keyB f p a k))) := (rfl)
attribute [go_sem] keyBG_eq
set_option maxHeartbeats 4000000 in
theorem keyB_ok : FreshOK Tryd.prog GLh 30 keyBG := by
  refine fresh_of_awp Tryd.func30 (bodyOf_some rfl) ?_
  intro args r hg
  unfold keyBG at hg
  split at hg
  · rename_i f p a n xs
    replace hg := obind_inv hg; obtain ⟨k, hk, hg⟩ := hg
    replace hg := guardO_inv hg; obtain ⟨⟨rfl, hn⟩, hg⟩ := hg
    obtain rfl := Option.some.inj hg
    have := unW8_inv hk; subst this
    clear hg hk
    refine ⟨Nat.le_of_ble_eq_true rfl, fun nx => ?_⟩
    have e2 := tag2 f
    have ekb : [(f >>> 8).setWidth 8, f.setWidth 8] ++ [p, a] ++ k = keyB f p a k := rfl
    have ekl : (keyB f p a k).length = 4 + k.length := by rw [← ekb]; simp; omega
    refine awp_seqP rfl ?_
    refine awp_regP (Γ := noEnv) [1] (noEnv_ok _ _) rfl rfl rfl (fun K hK => ?_)
    simp (disch := omega) only [Tryd.f30, go_sem, Nat.reduceAdd, ↓reduceIte]
    refine hK _ ?_
    clear hK K
    refine nx_then ?_
    refine awp_rp 1 nx 0 rfl (by simp only [up_app, if_true]; rfl) ?_
    refine awp_seqP rfl ?_
    refine awp_drwP (Γ := envL [(48, .fresh false putF)]) (fun k => if k = 1 then 1 else if k = 5 then 1 else if k = 7 then 1 else if k = 11 then 1 else 2) [2] mixed (envOK_cons okd48 envOK_nil) rfl rfl rfl (by kernel_rfl) (fun K hK => ?_)
    simp (disch := omega) only [Tryd.f30, go_sem, Nat.reduceAdd, Nat.reduceLeDiff, Nat.reduceLT, Int.reduceLE, Int.reduceToNat, ↓reduceIte, e2, List.head?_cons, List.take_succ_cons, List.take_zero, List.drop_succ_cons, List.drop_zero]
    refine hK _ ?_
    clear hK K
    refine nx_then ?_
    refine awp_retP rfl ?_
    simp (disch := omega) only [freshQ, freshR, resA, resAL, resA1, Tryd.f30, go_sem, ↓reduceIte, ekl]
    rfl
  · cases hg
theorem okd30 : EntOK Tryd.prog GLh 30 (.fresh true keyBG) := ⟨⟨_, Tryd.func30, rfl, rfl⟩, keyB_ok⟩

def setG : List AV → Option AV
  | [] => some (.agg (cfC { cfg0 with h := 2 }))
  | _ => none
theorem setG_eq : setG [] = some (.agg (cfC { cfg0 with h := 2 })) := (rfl)
attribute [go_sem] setG_eq
theorem set_ok : PureOK Tryd.prog GLh 8 setG := by
  refine pure_of_awp Tryd.func8 (bodyOf_some rfl) ?_
  intro args r hg
  unfold setG at hg
  split at hg
  · obtain rfl := Option.some.inj hg
    refine ⟨Nat.le_of_ble_eq_true rfl, fun nx => ?_⟩
    refine awp_seqP rfl ?_
    refine awp_regP (Γ := noEnv) [0] (noEnv_ok _ _) rfl rfl rfl (fun K hK => ?_)
    simp (disch := omega) only [Tryd.f8, go_sem, ↓reduceIte]
    refine hK _ ?_
    clear hK K
    refine nx_then ?_
    refine awp_seqP rfl ?_
    refine awp_regP (Γ := envL [(27, .pure false cfgG)]) [0, 1] (envOK_cons okd27 envOK_nil) rfl rfl rfl (fun K hK => ?_)
    simp (disch := omega) only [Tryd.f8, go_sem, Nat.reduceAdd, Nat.reduceLeDiff, Int.reduceLE, Int.reduceLT, BitVec.reduceOfInt, ↓reduceIte, cfC_eq]
    refine hK _ ?_
    clear hK K
    refine nx_then ?_
    refine awp_seqP rfl ?_
    refine awp_regP (Γ := noEnv) [0, 1] (noEnv_ok _ _) rfl rfl rfl (fun K hK => ?_)
    simp (disch := omega) only [Tryd.f8, go_sem, Nat.reduceAdd, Nat.reduceLeDiff, Nat.reduceLT, ↓reduceIte]
    refine hK _ ?_
    clear hK K
    refine nx_then ?_
    refine awp_seqP rfl ?_
    refine awp_regP (Γ := noEnv) [0] (noEnv_ok _ _) rfl rfl rfl (fun K hK => ?_)
    simp (disch := omega) only [Tryd.f8, go_sem, Nat.reduceAdd, Nat.reduceLeDiff, ↓reduceIte, List.set_cons_succ, List.set_cons_zero, List.take_succ_cons, List.take_zero, List.drop_zero]
    refine hK _ ?_
    clear hK K
    refine nx_then ?_
    refine awp_retP rfl ?_
    simp (maxSteps := 400000) (disch := omega) only [pureQ, resA, resAL, resA1, Tryd.f8, go_sem, Nat.reduceAdd, Nat.reduceLeDiff, ↓reduceIte, cfC_eq, ldV]
    rfl
  · cases hg
theorem okd8 : EntOK Tryd.prog GLh 8 (.pure false setG) := ⟨⟨_, Tryd.func8, rfl, rfl⟩, set_ok⟩

/-- A new ring. -/
noncomputable def rnewG : List AV → H → Nat → Option (AV × H × Nat)
  | [.agg xs], hp, nx => obind (cfOf xs) fun c => some (.op (nx + 6) 0, setR (nx + 6) (nx + 3) (nx + 4) ⟨c, [], 0#32, []⟩ hp, nx + 20)
  | _, _, _ => none
theorem rnewG_eq (xs : List AV) (hp : H) (nx : Nat) : rnewG [.agg xs] hp nx = obind (cfOf xs) fun c => some (.op (nx + 6) 0, setR (nx + 6) (nx + 3) (nx + 4) ⟨c, [], 0#32, []⟩ hp, nx + 20) := (rfl)
attribute [go_sem] rnewG_eq
theorem rnew_ok : HeapOK Tryd.prog GLh 7 rnewG := by
  refine heap_of_awp Tryd.func7 (bodyOf_some rfl) ?_
  intro args hp nx r hp' nx' hg
  unfold rnewG at hg
  split at hg
  · rename_i xs
    replace hg := obind_inv hg; obtain ⟨c, hc, hg⟩ := hg
    have := cfOf_inv hc; subst this
    simp only [Option.some.injEq, Prod.mk.injEq] at hg; obtain ⟨rfl, rfl, rfl⟩ := hg
    refine ⟨Nat.le_of_ble_eq_true rfl, by omega, fun hnone => ?_⟩
    refine awp_seqP rfl ?_
    refine awp_regP (Γ := noEnv) [1] (noEnv_ok _ _) rfl rfl rfl (fun K hK => ?_)
    simp (disch := omega) only [Tryd.f7, go_sem, Nat.reduceAdd, ↓reduceIte, cfC_eq]
    refine hK _ ?_
    clear hK K
    refine nx_then ?_
    refine awp_seqP rfl ?_
    refine awp_regP (Γ := noEnv) [2] (noEnv_ok _ _) rfl rfl rfl (fun K hK => ?_)
    simp (disch := omega) only [Tryd.f7, go_sem, Nat.reduceAdd, Nat.reduceLeDiff, ↓reduceIte, splice, List.nil_append, List.cons_append, List.take_succ_cons, List.take_zero, List.drop_succ_cons, List.drop_zero, List.all_cons, List.all_nil, Option.isSome_some, Bool.and_self]
    refine hK _ ?_
    clear hK K
    refine nx_then ?_
    refine awp_retP rfl ?_
    have hlt : ∀ k o, hp k = some o → k < nx := fun k o hk => lt_of_none2 hnone hk
    refine ⟨rfl, fun j o hj => setR_sub (C := ⟨c, [], 0#32, []⟩) ?_ ?_ ?_ ?_ j o hj, by simp only; omega⟩
    · simp only [upd_apply, rgC, Nat.add_assoc, Nat.reduceAdd, if_true]
    · simp only [upd_apply, Nat.add_assoc, Nat.reduceAdd]
      rw [if_neg (by omega), if_neg (by omega), if_pos trivial]; rfl
    · simp only [upd_apply, Nat.add_assoc, Nat.reduceAdd]
      rw [if_neg (by omega), if_pos trivial]; rfl
    · intro k o k1 k2 k3 hk
      have := hlt k o hk
      simp only [upd_apply]
      rw [if_neg (by omega), if_neg (by omega), if_neg (by omega), if_neg (by omega)]; exact hk
  · cases hg
theorem okd7 : EntOK Tryd.prog GLh 7 (.heap rnewG) := ⟨⟨_, Tryd.func7, rfl, rfl⟩, rnew_ok⟩
end Go.AX

namespace Go.AX
open Go Go.Proofs
set_option maxRecDepth 8000

/-- What is so of every ring: keys bear their own numbers, which aren't above the last; heights and leaves stay within their bounds; trees are those of their keys. -/
structure ROk (C : RC) : Prop where
  key : ∀ id k, getK id C.by' = some k → k.id = id ∧ k.h ≤ 10 ∧ k.next.toNat ≤ 2 ^ k.h ∧ id.toNat ≤ C.last.toNat
  tree : ∀ id t, getK id C.tr = some t → ∃ k, getK id C.by' = some k ∧ t = ⟨k.seed, k.h⟩
  nb : (C.by'.map (·.1)).Nodup
  nt : (C.tr.map (·.1)).Nodup
theorem put_keys {β : Type} (a : W32) (v : β) : ∀ l : List (W32 × β), (putK a v l).map (·.1) = if a ∈ l.map (·.1) then l.map (·.1) else l.map (·.1) ++ [a]
  | [] => by simp [putK]
  | p :: r => by
    simp only [putK]
    by_cases h : a = p.1
    · subst h; simp
    · rw [if_neg h]
      simp only [List.map_cons, put_keys a v r, List.mem_cons]
      by_cases h2 : a ∈ r.map (·.1)
      · rw [if_pos h2, if_pos (.inr h2)]
      · rw [if_neg h2, if_neg (fun e => e.elim h h2), List.cons_append]
theorem put_nodup {β : Type} (a : W32) (v : β) (l : List (W32 × β)) (h : (l.map (·.1)).Nodup) : ((putK a v l).map (·.1)).Nodup := by
  rw [put_keys]
  split
  · exact h
  · rename_i h2
    rw [List.nodup_append]
    exact ⟨h, by simp, fun x hx y hy => by simp at hy; subst hy; exact fun e => h2 (e ▸ hx)⟩
theorem get_none {β : Type} (a : W32) : ∀ l : List (W32 × β), a ∉ l.map (·.1) → getK a l = none
  | [], _ => rfl
  | p :: r, h => by
    simp only [getK]
    rw [if_neg (fun e => h (by simp [e])), get_none a r (fun e => h (by simp only [List.map_cons, List.mem_cons]; exact .inr e))]
theorem del_keys {β : Type} (a : W32) : ∀ l : List (W32 × β), ∀ x, x ∈ (delK a l).map (·.1) → x ∈ l.map (·.1)
  | [], x, h => h
  | p :: r, x, h => by
    simp only [delK] at h
    split at h
    · rw [List.map_cons, List.mem_cons]; exact .inr h
    · rw [List.map_cons, List.mem_cons] at h ⊢
      exact h.imp id (del_keys a r x)
theorem del_nodup {β : Type} (a : W32) : ∀ l : List (W32 × β), (l.map (·.1)).Nodup → ((delK a l).map (·.1)).Nodup
  | [], h => h
  | p :: r, h => by
    rw [List.map_cons, List.nodup_cons] at h
    simp only [delK]
    split
    · exact h.2
    · rw [List.map_cons, List.nodup_cons]
      exact ⟨fun e => h.1 (del_keys a r _ e), del_nodup a r h.2⟩
theorem getK_del {β : Type} (a b : W32) : ∀ l : List (W32 × β), (l.map (·.1)).Nodup → getK a (delK b l) = if a = b then none else getK a l
  | [], _ => by simp [delK, getK]
  | p :: r, h => by
    rw [List.map_cons, List.nodup_cons] at h
    simp only [delK]
    by_cases hb : b = p.1
    · rw [if_pos hb]
      by_cases ha : a = b
      · rw [if_pos ha]
        exact get_none a r (by rw [ha, hb]; exact h.1)
      · rw [if_neg ha]
        simp only [getK]
        rw [if_neg (fun e => ha (e.trans hb.symm))]
    · rw [if_neg hb]
      simp only [getK]
      rw [getK_del a b r h.2]
      by_cases ha : a = p.1
      · rw [if_pos ha, if_pos ha, if_neg (fun e => hb (e.symm.trans ha))]
      · rw [if_neg ha, if_neg ha]
theorem getK_put {β : Type} (a b : W32) (v : β) : ∀ l : List (W32 × β), getK a (putK b v l) = if a = b then some v else getK a l
  | [] => by
    simp only [putK, getK]
  | p :: r => by
    simp only [putK]
    by_cases h : b = p.1
    · rw [if_pos h]
      simp only [getK]
      by_cases h2 : a = b
      · simp [h2]
      · rw [if_neg h2, if_neg h2, if_neg (fun e => h2 (e.trans h.symm))]
    · rw [if_neg h]
      simp only [getK, getK_put a b v r]
      by_cases h2 : a = p.1
      · subst h2
        rw [if_pos rfl, if_neg (Ne.symm h), if_pos rfl]
      · rw [if_neg h2, if_neg h2]
theorem ROk.new (c : CF) : ROk ⟨c, [], 0#32, []⟩ := ⟨fun _ _ h => (nomatch h), fun _ _ h => (nomatch h), List.nodup_nil, List.nodup_nil⟩
noncomputable instance (C : RC) : Decidable (ROk C) := Classical.propDecidable _
theorem pow_le10 {h : Nat} (hh : h ≤ 10) : 2 ^ h ≤ 1024 ∧ 1 ≤ 2 ^ h := by
  have : h = 0 ∨ h = 1 ∨ h = 2 ∨ h = 3 ∨ h = 4 ∨ h = 5 ∨ h = 6 ∨ h = 7 ∨ h = 8 ∨ h = 9 ∨ h = 10 := by omega
  rcases this with rfl | rfl | rfl | rfl | rfl | rfl | rfl | rfl | rfl | rfl | rfl <;> decide
/-- How many leaves a height has. -/
def nlv (h : Nat) : W32 := BitVec.ofNat 32 (2 ^ h)
theorem nlv_nat {h : Nat} (hh : h ≤ 10) : (nlv h).toNat = 2 ^ h := by
  have := (pow_le10 hh).1
  rw [nlv, BitVec.toNat_ofNat, Nat.mod_eq_of_lt (by omega)]
theorem shl_nlv {h : Nat} (hh : h ≤ 10) : 1#32 <<< (BitVec.ofInt 64 (h : Int)).toNat = nlv h := by
  have e : (BitVec.ofInt 64 (h : Int)).toNat = h := by rw [BitVec.toNat_ofInt]; omega
  have := (pow_le10 hh).1
  rw [e]
  apply BitVec.eq_of_toNat_eq
  rw [nlv_nat hh, BitVec.toNat_shiftLeft, Nat.shiftLeft_eq, Nat.mod_eq_of_lt (by show 1 * 2 ^ h < _; omega)]
  show 1 * 2 ^ h = _
  omega
def lfV (C : RC) (id : W32) : W32 := match getK id C.by' with
  | none => 0#32
  | some k => nlv k.h - k.next
theorem lfV_n {C : RC} {id : W32} (h : getK id C.by' = none) : lfV C id = 0#32 := by rw [lfV, h]
theorem lfV_y {C : RC} {id : W32} {k : KY} (h : getK id C.by' = some k) : lfV C id = nlv k.h - k.next := by rw [lfV, h]
noncomputable def leftG : List AV → H → Nat → Option (AV × H × Nat)
  | [.op d 0, .w32 id], hp, nx => obind (rngOf hp d) fun t => guardO (ROk t.C) (some (.w32 (lfV t.C id), hp, nx + 50))
  | _, _, _ => none
theorem leftG_eq (d : Nat) (id : W32) (hp : H) (nx : Nat) : leftG [.op d 0, .w32 id] hp nx = obind (rngOf hp d) fun t => guardO (ROk t.C) (some (.w32 (lfV t.C id), hp, nx + 50)) := (rfl)
attribute [go_sem] leftG_eq
theorem encK_eq (k : KY) : encK k = .agg [.w32 k.id, .i k.role, .i k.st, .w8 k.seed.a, .w8 k.seed.b, .w8 k.seed.c, .w8 k.seed.d, .w8 k.seed.e, .w8 k.seed.f, .w8 k.seed.g, .w8 k.seed.h, .i k.h, .w32 k.next, .w32 k.since, .w32 k.seen] := rfl
theorem zv49 : zvA Tryd.prog 49 = some (.agg [.w32 0#32, .i 0, .i 0, .w8 0#8, .w8 0#8, .w8 0#8, .w8 0#8, .w8 0#8, .w8 0#8, .w8 0#8, .w8 0#8, .i 0, .w32 0#32, .w32 0#32, .w32 0#32]) := by kernel_rfl
theorem zcK : zcells Tryd.prog 49 = some [.w32 0#32, .i 0, .i 0, .w8 0#8, .w8 0#8, .w8 0#8, .w8 0#8, .w8 0#8, .w8 0#8, .w8 0#8, .w8 0#8, .i 0, .w32 0#32, .w32 0#32, .w32 0#32] := by kernel_rfl
attribute [go_sem] zv49 zcK
theorem hsub_new {hp : H} {nx i : Nat} {a : AO} (hn : ∀ id, nx ≤ id → hp id = none) (hi : nx ≤ i) : ∀ j o, hp j = some o → upd hp i a j = some o := by
  intro j o h
  rw [upd_apply]
  split
  · rename_i e; subst e; rw [hn j hi] at h; cases h
  · exact h
theorem left_ok : HeapOK Tryd.prog GLh 14 leftG := by
  refine heap_of_awp Tryd.func14 (bodyOf_some rfl) ?_
  intro args hp nx r hp' nx' hg
  unfold leftG at hg
  split at hg
  · rename_i d id
    replace hg := obind_inv hg; obtain ⟨⟨s, m, C⟩, hD0, hg⟩ := hg
    have hD := rngOf_inv hD0
    replace hg := guardO_inv hg; obtain ⟨hok, hg⟩ := hg
    simp only [Option.some.injEq, Prod.mk.injEq] at hg hD hok; obtain ⟨rfl, rfl, rfl⟩ := hg
    refine ⟨Nat.le_of_ble_eq_true rfl, by omega, fun hnone => ?_⟩
    have h1 := hD.hd; have h2 := hD.hs; have h3 := hD.hm
    have hlt : ∀ k o, hp k = some o → k < nx := fun k o hk => lt_of_none2 hnone hk
    have hd := hlt _ _ h1
    have hs := hlt _ _ h2
    have hm := hlt _ _ h3
    refine awp_seqP rfl ?_
    refine awp_regP (Γ := noEnv) [0, 1] (noEnv_ok _ _) rfl rfl rfl (fun K hK => ?_)
    simp (disch := omega) only [Tryd.f14, go_sem, Int.reduceLE, Int.reduceLT, BitVec.reduceOfInt, ↓reduceIte]
    refine hK _ ?_
    clear hK K
    refine nx_then ?_
    rcases hk : getK id C.by' with _ | k
    · skip
      rw [lfV_n hk]
      refine awp_seqP rfl ?_
      refine awp_regP (Γ := noEnv) [5, 6] (noEnv_ok _ _) rfl rfl rfl (fun K hK => ?_)
      simp (disch := omega) only [Tryd.f14, go_sem, Nat.reduceAdd, Nat.reduceLeDiff, Nat.reduceLT, ↓reduceIte, h1, h2, hk, rgC_eq, List.head?_cons, List.drop_succ_cons, List.drop_zero]
      refine hK _ ?_
      clear hK K
      refine nx_then ?_
      refine awp_seqP rfl ?_
      refine awp_seqP rfl ?_
      refine awp_regP (Γ := noEnv) [17, 5] (noEnv_ok _ _) rfl rfl rfl (fun K hK => ?_)
      simp (disch := omega) only [Tryd.f14, go_sem, Nat.reduceAdd, ↓reduceIte]
      refine hK _ ?_
      clear hK K
      refine nx_then ?_
      refine awp_ifB (.tmp 17) rfl rfl rfl (fun h => ?_) (fun h => ?_)
      · skip
        refine awp_drop rfl ?_
        refine awp_seqP rfl ?_
        refine awp_regP (Γ := noEnv) [4] (noEnv_ok _ _) rfl rfl rfl (fun K hK => ?_)
        simp (disch := omega) only [Tryd.f14, go_sem, Int.reduceLE, Int.reduceLT, BitVec.reduceOfInt, ↓reduceIte]
        refine hK _ ?_
        clear hK K
        refine nx_then ?_
        refine awp_retP rfl ?_
        refine nx_ret_then ?_
        exact ⟨rfl, fun j o h => hsub_new hnone (by omega) j o h, by simp only; omega⟩
      · skip
        refine awp_drop rfl ?_
        cases h
    · skip
      rw [lfV_y hk]
      obtain ⟨k1, k2, k3, k4⟩ := hok.key _ _ hk
      have e1 := shl_nlv k2
      refine awp_seqP rfl ?_
      refine awp_regP (Γ := noEnv) [5, 6] (noEnv_ok _ _) rfl rfl rfl (fun K hK => ?_)
      simp (disch := omega) only [Tryd.f14, go_sem, Nat.reduceAdd, Nat.reduceLeDiff, Nat.reduceLT, ↓reduceIte, h1, h2, hk, rgC_eq, encK_eq, List.head?_cons, List.drop_succ_cons, List.drop_zero]
      refine hK _ ?_
      clear hK K
      refine nx_then ?_
      refine awp_seqP rfl ?_
      refine awp_seqP rfl ?_
      refine awp_regP (Γ := noEnv) [17, 5] (noEnv_ok _ _) rfl rfl rfl (fun K hK => ?_)
      simp (disch := omega) only [Tryd.f14, go_sem, Nat.reduceAdd, ↓reduceIte]
      refine hK _ ?_
      clear hK K
      refine nx_then ?_
      refine awp_ifB (.tmp 17) rfl rfl rfl (fun h => ?_) (fun h => ?_)
      · skip
        refine awp_drop rfl ?_
        cases h
      · skip
        refine awp_drop rfl ?_
        refine awp_skipP rfl ?_
        refine nx_then ?_
        refine awp_seqP rfl ?_
        refine awp_regP (Γ := noEnv) [4] (noEnv_ok _ _) rfl rfl rfl (fun K hK => ?_)
        simp (disch := omega) only [Tryd.f14, go_sem, Nat.reduceAdd, Nat.reduceLT, Int.reduceLE, Int.reduceLT, BitVec.reduceOfInt, ↓reduceIte, e1, List.head?_cons, List.drop_succ_cons, List.drop_zero]
        refine hK _ ?_
        clear hK K
        refine nx_then ?_
        refine awp_retP rfl ?_
        exact ⟨rfl, fun j o h => hsub_new hnone (by omega) j o h, by simp only; omega⟩
  · cases hg
theorem okd14 : EntOK Tryd.prog GLh 14 (.heap leftG) := ⟨⟨_, Tryd.func14, rfl, rfl⟩, left_ok⟩

def nkey (C : RC) (role : Int) (seed : S8) (st : Int) (now : W32) : KY := ⟨C.last + 1#32, role, st, seed, C.c.h, 0#32, now, 0#32⟩
def mkC (C : RC) (k : KY) : RC := { C with last := C.last + 1#32, by' := putK (C.last + 1#32) k C.by' }
def mkV (C : RC) (role : Int) (seed : S8) (st : Int) (now : W32) : W32 × Int × RC :=
  if (role ≠ 0 ∧ role ≠ 1) ∨ st < 0 ∨ 3 < st then (0#32, 131, C)
  else if 16 ≤ C.by'.length then (0#32, 133, C)
  else (C.last + 1#32, 0, mkC C (nkey C role seed st now))
theorem last_suc {C : RC} (h : C.last.toNat < 1000000) : (C.last + 1#32).toNat = C.last.toNat + 1 := by
  rw [BitVec.toNat_add]
  show (C.last.toNat + 1) % 2 ^ 32 = _
  omega
theorem ROk.mk' {C : RC} (h : ROk C) (hl : C.last.toNat < 1000000) (hh : C.c.h ≤ 10) (role : Int) (seed : S8) (st : Int) (now : W32) : ROk (mkC C (nkey C role seed st now)) := by
  have hs := last_suc hl
  have hno : getK (C.last + 1#32) C.by' = none := by
    rcases e : getK (C.last + 1#32) C.by' with _ | k
    · rfl
    · have := (h.key _ _ e).2.2.2
      omega
  refine ⟨fun id k hk => ?_, fun id t ht => ?_, put_nodup _ _ _ h.nb, h.nt⟩
  · simp only [mkC, getK_put] at hk
    split at hk
    · rename_i e
      obtain rfl := Option.some.inj hk
      subst e
      refine ⟨rfl, hh, ?_, ?_⟩
      · show (0#32).toNat ≤ _
        exact Nat.zero_le _
      · exact Nat.le_refl _
    · obtain ⟨a1, a2, a3, a4⟩ := h.key _ _ hk
      refine ⟨a1, a2, a3, ?_⟩
      show id.toNat ≤ (C.last + 1#32).toNat
      omega
  · obtain ⟨k, a1, a2⟩ := h.tree _ _ ht
    refine ⟨k, ?_, a2⟩
    simp only [mkC, getK_put]
    rw [if_neg (fun e => by subst e; rw [hno] at a1; cases a1)]
    exact a1
theorem ROk.mkV {C : RC} (h : ROk C) (hl : C.last.toNat < 1000000) (hh : C.c.h ≤ 10) (role : Int) (seed : S8) (st : Int) (now : W32) : ROk (mkV C role seed st now).2.2 := by
  unfold AX.mkV
  split
  · exact h
  · split
    · exact h
    · exact h.mk' hl hh role seed st now
def s8L : List B8 → Option S8
  | [a, b, c, d, e, f, g, h] => some ⟨a, b, c, d, e, f, g, h⟩
  | _ => none
theorem s8L_inv {l : List B8} {s : S8} (h : s8L l = some s) : l = s.l := by
  unfold s8L at h
  split at h
  · obtain rfl := Option.some.inj h; rfl
  · cases h
noncomputable def makeG : List AV → H → Nat → Option (AV × H × Nat)
  | [.op d 0, .i role, .agg xs, .i st, .w32 now], hp, nx => obind (rngOf hp d) fun t => obind (un8 xs) fun l => obind (s8L l) fun sd => guardO (ROk t.C ∧ t.C.last.toNat < 1000000 ∧ t.C.c.h ≤ 10)
      (some (.tup [.w32 (mkV t.C role sd st now).1, .i (mkV t.C role sd st now).2.1], setR d t.s t.m (mkV t.C role sd st now).2.2 hp, nx + 100))
  | _, _, _ => none
theorem makeG_eq (d : Nat) (role st : Int) (now : W32) (xs : List AV) (hp : H) (nx : Nat) : makeG [.op d 0, .i role, .agg xs, .i st, .w32 now] hp nx = obind (rngOf hp d) fun t => obind (un8 xs) fun l => obind (s8L l) fun sd => guardO (ROk t.C ∧ t.C.last.toNat < 1000000 ∧ t.C.c.h ≤ 10)
      (some (.tup [.w32 (mkV t.C role sd st now).1, .i (mkV t.C role sd st now).2.1], setR d t.s t.m (mkV t.C role sd st now).2.2 hp, nx + 100)) := (rfl)
attribute [go_sem] makeG_eq
theorem encB_putx (k id : W32) (role st : Int) (a b c d e f g h : B8) (hh : Nat) (n s se : W32) (l : List (W32 × KY)) : mput (.w32 k) (.agg [.w32 id, .i role, .i st, .w8 a, .w8 b, .w8 c, .w8 d, .w8 e, .w8 f, .w8 g, .w8 h, .i hh, .w32 n, .w32 s, .w32 se]) (encB l) = some (encB (putK k ⟨id, role, st, ⟨a, b, c, d, e, f, g, h⟩, hh, n, s, se⟩ l)) := encB_put k ⟨id, role, st, ⟨a, b, c, d, e, f, g, h⟩, hh, n, s, se⟩ l
attribute [go_sem] encB_putx
theorem make_r1 {Q : Exit → S → Prop} {fr0 : AV} {role st : Int} {now : W32} {x7 : AV} {hp : H} {nx cx : Nat} (hQ : Q .normal { fr := [(12, .b (decide ((role ≠ 0 ∧ role ≠ 1) ∨ st < 0 ∨ 3 < st))), (0, fr0), (1, .i role), (3, .i st), (4, .w32 now), (7, x7)], hp := hp, nx := cx, cx := cx + 15 }) :
    Awp Tryd.prog GLh Tryd.f9.ntmps (cl (cl (cl (cr (bodyOf Tryd.f9))))) { fr := [(0, fr0), (1, .i role), (3, .i st), (4, .w32 now), (7, x7)], hp := hp, nx := nx, cx := cx } Q := by
  by_cases h0 : role = 0
  · have d0 : decide (role = 0) = true := decide_eq_true h0
    by_cases h2 : st < 0
    · have d2 : decide (st < 0) = true := decide_eq_true h2
      rw [decide_eq_true (by omega)] at hQ
      refine awp_regP (Γ := noEnv) [12, 0, 1, 3, 4, 7] (noEnv_ok _ _) rfl rfl rfl (fun K hK => ?_)
      simp (disch := omega) only [Tryd.f9, go_sem, Nat.reduceAdd, reduceCtorEq, ↓reduceIte, d0, d2, Bool.not_true, beq_self_eq_true]
      refine hK _ ?_
      clear hK K
      exact hQ
    · have d2 : decide (st < 0) = false := decide_eq_false h2
      by_cases h3 : 3 < st
      · have d3 : decide (3 < st) = true := decide_eq_true h3
        rw [decide_eq_true (by omega)] at hQ
        refine awp_regP (Γ := noEnv) [12, 0, 1, 3, 4, 7] (noEnv_ok _ _) rfl rfl rfl (fun K hK => ?_)
        simp (disch := omega) only [Tryd.f9, go_sem, Nat.reduceAdd, reduceCtorEq, ↓reduceIte, d0, d2, d3, Bool.not_true, beq_self_eq_true]
        refine hK _ ?_
        clear hK K
        exact hQ
      · have d3 : decide (3 < st) = false := decide_eq_false h3
        rw [decide_eq_false (by omega)] at hQ
        refine awp_regP (Γ := noEnv) [12, 0, 1, 3, 4, 7] (noEnv_ok _ _) rfl rfl rfl (fun K hK => ?_)
        simp (disch := omega) only [Tryd.f9, go_sem, Nat.reduceAdd, reduceCtorEq, ↓reduceIte, d0, d2, d3, Bool.not_true, beq_self_eq_true]
        refine hK _ ?_
        clear hK K
        exact hQ
  · have d0 : decide (role = 0) = false := decide_eq_false h0
    by_cases h1 : role = 1
    · have d1 : decide (role = 1) = true := decide_eq_true h1
      by_cases h2 : st < 0
      · have d2 : decide (st < 0) = true := decide_eq_true h2
        rw [decide_eq_true (by omega)] at hQ
        refine awp_regP (Γ := noEnv) [12, 0, 1, 3, 4, 7] (noEnv_ok _ _) rfl rfl rfl (fun K hK => ?_)
        simp (disch := omega) only [Tryd.f9, go_sem, Nat.reduceAdd, reduceCtorEq, ↓reduceIte, d0, d1, d2, Bool.not_true, Bool.not_false, beq_self_eq_true]
        refine hK _ ?_
        clear hK K
        exact hQ
      · have d2 : decide (st < 0) = false := decide_eq_false h2
        by_cases h3 : 3 < st
        · have d3 : decide (3 < st) = true := decide_eq_true h3
          rw [decide_eq_true (by omega)] at hQ
          refine awp_regP (Γ := noEnv) [12, 0, 1, 3, 4, 7] (noEnv_ok _ _) rfl rfl rfl (fun K hK => ?_)
          simp (disch := omega) only [Tryd.f9, go_sem, Nat.reduceAdd, reduceCtorEq, ↓reduceIte, d0, d1, d2, d3, Bool.not_true, Bool.not_false, beq_self_eq_true]
          refine hK _ ?_
          clear hK K
          exact hQ
        · have d3 : decide (3 < st) = false := decide_eq_false h3
          rw [decide_eq_false (by omega)] at hQ
          refine awp_regP (Γ := noEnv) [12, 0, 1, 3, 4, 7] (noEnv_ok _ _) rfl rfl rfl (fun K hK => ?_)
          simp (disch := omega) only [Tryd.f9, go_sem, Nat.reduceAdd, reduceCtorEq, ↓reduceIte, d0, d1, d2, d3, Bool.not_true, Bool.not_false, beq_self_eq_true]
          refine hK _ ?_
          clear hK K
          exact hQ
    · have d1 : decide (role = 1) = false := decide_eq_false h1
      rw [decide_eq_true (by omega)] at hQ
      refine awp_regP (Γ := noEnv) [12, 0, 1, 3, 4, 7] (noEnv_ok _ _) rfl rfl rfl (fun K hK => ?_)
      simp (disch := omega) only [Tryd.f9, go_sem, Nat.reduceAdd, ↓reduceIte, d0, d1, Bool.not_false, beq_self_eq_true]
      refine hK _ ?_
      clear hK K
      exact hQ
set_option maxHeartbeats 1000000 in
theorem make_ok : HeapOK Tryd.prog GLh 9 makeG := by
  refine heap_of_awp Tryd.func9 (bodyOf_some rfl) ?_
  intro args hp nx r hp' nx' hg
  unfold makeG at hg
  split at hg
  · rename_i d role xs st now
    replace hg := obind_inv hg; obtain ⟨⟨s, m, C⟩, hD0, hg⟩ := hg
    have hD := rngOf_inv hD0
    replace hg := obind_inv hg; obtain ⟨l, hl8, hg⟩ := hg
    have := un8_inv _ hl8; subst this
    replace hg := obind_inv hg; obtain ⟨S, hS8, hg⟩ := hg
    have := s8L_inv hS8; subst this
    have e0 : c8 S.l = [.w8 S.a, .w8 S.b, .w8 S.c, .w8 S.d, .w8 S.e, .w8 S.f, .w8 S.g, .w8 S.h] := rfl
    rw [e0]
    replace hg := guardO_inv hg; obtain ⟨⟨hok, hl, hc⟩, hg⟩ := hg
    simp only [Option.some.injEq, Prod.mk.injEq] at hg hD hok hl hc; obtain ⟨rfl, rfl, rfl⟩ := hg
    refine ⟨Nat.le_of_ble_eq_true rfl, by omega, fun hnone => ?_⟩
    have h1 := hD.hd; have h2 := hD.hs; have h3 := hD.hm
    obtain ⟨n1, n2, n3, n4, n5, n6⟩ := hD.ne
    have hlt : ∀ k o, hp k = some o → k < nx := fun k o hk => lt_of_none2 hnone hk
    have hd := hlt _ _ h1
    have hs := hlt _ _ h2
    have hm := hlt _ _ h3
    refine awp_seqP rfl ?_
    refine awp_regP (Γ := noEnv) [0, 1, 3, 4, 7] (noEnv_ok _ _) rfl rfl rfl (fun K hK => ?_)
    simp (disch := omega) only [Tryd.f9, go_sem, Nat.reduceAdd, Int.reduceLE, Int.reduceLT, BitVec.reduceOfInt, ↓reduceIte]
    refine hK _ ?_
    clear hK K
    refine nx_then ?_
    refine awp_seqP rfl ?_
    refine awp_blockN 0 rfl rfl ?_
    refine awp_seqP rfl ?_
    refine make_r1 ?_
    refine nx_then ?_
    refine awp_ifD (.tmp 12) rfl rfl rfl (fun h => ?_) (fun h => ?_)
    · skip
      have e : mkV C role S st now = (0#32, 131, C) := if_pos h
      rw [e]
      refine awp_seqP rfl ?_
      refine awp_regP (Γ := noEnv) [10, 11] (noEnv_ok _ _) rfl rfl rfl (fun K hK => ?_)
      simp (disch := omega) only [Tryd.f9, go_sem, Nat.reduceAdd, Int.reduceLE, Int.reduceLT, BitVec.reduceOfInt, ↓reduceIte]
      refine hK _ ?_
      clear hK K
      refine nx_then ?_
      refine awp_retP rfl ?_
      refine nx_ret_blk (nx_ret_then ?_)
      rw [setR_same hD]
      exact ⟨rfl, fun j o h => hsub_new hnone (by omega) j o h, by simp only; omega⟩
    · skip
      have hbad := h
      clear h
      refine awp_seqP rfl ?_
      refine awp_regP (Γ := noEnv) [27, 0, 1, 3, 4, 7] (noEnv_ok _ _) rfl rfl rfl (fun K hK => ?_)
      simp (disch := omega) only [Tryd.f9, go_sem, Nat.reduceAdd, Nat.reduceLT, ↓reduceIte, h1, h2, rgC_eq, List.head?_cons, List.drop_succ_cons, List.drop_zero, encB_len]
      refine hK _ ?_
      clear hK K
      refine nx_then ?_
      refine awp_ifD (.tmp 27) rfl rfl rfl (fun h => ?_) (fun h => ?_)
      · skip
        refine awp_drop rfl ?_
        have e : mkV C role S st now = (0#32, 133, C) := by unfold mkV; rw [if_neg hbad, if_pos (by omega)]
        rw [e]
        refine awp_seqP rfl ?_
        refine awp_regP (Γ := noEnv) [10, 11] (noEnv_ok _ _) rfl rfl rfl (fun K hK => ?_)
        simp (disch := omega) only [Tryd.f9, go_sem, Nat.reduceAdd, Int.reduceLE, Int.reduceLT, BitVec.reduceOfInt, ↓reduceIte]
        refine hK _ ?_
        clear hK K
        refine nx_then ?_
        refine awp_retP rfl ?_
        refine nx_ret_blk (nx_ret_then ?_)
        rw [setR_same hD]
        exact ⟨rfl, fun j o h => hsub_new hnone (by omega) j o h, by simp only; omega⟩
      · skip
        refine awp_drop rfl ?_
        have e : mkV C role S st now = (C.last + 1#32, 0, mkC C (nkey C role S st now)) := by unfold mkV; rw [if_neg hbad, if_neg (by omega)]
        rw [e]
        refine awp_skipP rfl ?_
        refine nx_blk (nx_then ?_)
        refine awp_seqP rfl ?_
        refine awp_regP (Γ := noEnv) [0, 1, 3, 4, 7] (noEnv_ok _ _) rfl rfl rfl (fun K hK => ?_)
        simp (disch := omega) only [Tryd.f9, go_sem, Nat.reduceAdd, Nat.reduceLeDiff, Nat.reduceLT, Int.reduceLE, Int.reduceLT, BitVec.reduceOfInt, ↓reduceIte, h1, rgC_eq, List.head?_cons, List.set_cons_succ, List.set_cons_zero, List.drop_succ_cons, List.drop_zero]
        refine hK _ ?_
        clear hK K
        refine nx_then ?_
        refine awp_seqP rfl ?_
        refine awp_drwP (Γ := noEnv) (fun _ => 2) [0] mixed (noEnv_ok _ _) rfl rfl rfl (by kernel_rfl) (fun K hK => ?_)
        simp (disch := omega) only [Tryd.f9, go_sem, Nat.reduceAdd, Nat.reduceLeDiff, Nat.reduceLT, ↓reduceIte, h2, List.head?_cons, List.take_succ_cons, List.take_zero, List.drop_succ_cons, List.drop_zero, List.all_cons, List.all_nil, Option.isSome_some, Bool.and_self, splice, List.nil_append, List.cons_append, encB_putx]
        refine hK _ ?_
        clear hK K
        refine nx_then ?_
        refine awp_seqP rfl ?_
        refine awp_regP (Γ := noEnv) [10, 11] (noEnv_ok _ _) rfl rfl rfl (fun K hK => ?_)
        simp (disch := omega) only [Tryd.f9, go_sem, Nat.reduceAdd, Nat.reduceLT, ↓reduceIte, List.head?_cons, List.drop_succ_cons, List.drop_zero]
        refine hK _ ?_
        clear hK K
        refine nx_then ?_
        refine awp_retP rfl ?_
        refine ⟨rfl, fun j o hj => setR_sub (C := mkC C (nkey C role S st now)) ?_ ?_ ?_ ?_ j o hj, by simp only; omega⟩
        · simp (disch := omega) only [up_app, nat_ne, ↓reduceIte, eq_self] <;> rfl
        · simp (disch := omega) only [up_app, ↓reduceIte, eq_self] <;> rfl
        · simp (disch := omega) only [up_app, nat_ne, ↓reduceIte] <;> first | exact h3 | rfl
        · intro k o k1 k2 k3 hk
          have := hlt k o hk
          simp (disch := omega) only [up_app, nat_ne, ↓reduceIte]
          exact hk
  · cases hg
theorem okd9 : EntOK Tryd.prog GLh 9 (.heap makeG) := ⟨⟨_, Tryd.func9, rfl, rfl⟩, make_ok⟩

def skC (C : RC) (id : W32) (k : KY) (n : W32) : RC := { C with by' := putK id { k with next := n } C.by' }
def skV (C : RC) (id n : W32) : Int × RC := match getK id C.by' with
  | none => (130, C)
  | some k => if n ≤ k.next ∨ nlv k.h < n then (131, C) else (0, skC C id k n)
theorem skV_n {C : RC} {id n : W32} (h : getK id C.by' = none) : skV C id n = (130, C) := by rw [skV, h]
theorem skV_y {C : RC} {id n : W32} {k : KY} (h : getK id C.by' = some k) : skV C id n = if n ≤ k.next ∨ nlv k.h < n then (131, C) else (0, skC C id k n) := by rw [skV, h]
theorem ROk.skC {C : RC} (h : ROk C) {id n : W32} {k : KY} (hk : getK id C.by' = some k) (hn : n.toNat ≤ 2 ^ k.h) : ROk (skC C id k n) := by
  obtain ⟨b1, b2, b3, b4⟩ := h.key _ _ hk
  refine ⟨fun i k2 hk2 => ?_, fun i t ht => ?_, put_nodup _ _ _ h.nb, h.nt⟩
  · simp only [AX.skC, getK_put] at hk2
    split at hk2
    · rename_i e
      obtain rfl := Option.some.inj hk2
      subst e
      exact ⟨b1, b2, hn, b4⟩
    · exact h.key _ _ hk2
  · obtain ⟨k2, a1, a2⟩ := h.tree _ _ ht
    by_cases e : i = id
    · subst e
      obtain rfl := Option.some.inj (hk.symm.trans a1)
      exact ⟨{ k with next := n }, by simp only [AX.skC, getK_put, if_true], a2⟩
    · exact ⟨k2, by simp only [AX.skC, getK_put]; rw [if_neg e]; exact a1, a2⟩
theorem nlv_le {h : Nat} {n : W32} (hh : h ≤ 10) (hn : ¬ nlv h < n) : n.toNat ≤ 2 ^ h := by
  rw [← nlv_nat hh]
  exact BitVec.le_def.1 (BitVec.not_lt.1 hn)
theorem ROk.skV {C : RC} (h : ROk C) (id n : W32) : ROk (skV C id n).2 := by
  rcases hk : getK id C.by' with _ | k
  · rw [skV_n hk]; exact h
  · rw [skV_y hk]
    split
    · exact h
    · rename_i hn
      exact h.skC hk (nlv_le (h.key _ _ hk).2.1 (fun e => hn (.inr e)))
noncomputable def skipG : List AV → H → Nat → Option (AV × H × Nat)
  | [.op d 0, .w32 id, .w32 n], hp, nx => obind (rngOf hp d) fun t => guardO (ROk t.C) (some (.i (skV t.C id n).1, setR d t.s t.m (skV t.C id n).2 hp, nx + 80))
  | _, _, _ => none
theorem skipG_eq (d : Nat) (id n : W32) (hp : H) (nx : Nat) : skipG [.op d 0, .w32 id, .w32 n] hp nx = obind (rngOf hp d) fun t => guardO (ROk t.C) (some (.i (skV t.C id n).1, setR d t.s t.m (skV t.C id n).2 hp, nx + 80)) := (rfl)
attribute [go_sem] skipG_eq
end Go.AX

namespace Go.AX
open Go Go.Proofs
set_option maxRecDepth 8000

open Classical in
noncomputable def kyOf (xs : List AV) : Option KY := if h : ∃ k, xs = kyC k then some (Classical.choose h) else none
theorem kyOf_kyC (k : KY) : kyOf (kyC k) = some k := by
  have hx : ∃ k', kyC k = kyC k' := ⟨k, rfl⟩
  unfold kyOf
  rw [dif_pos hx]
  exact congrArg some (kyC_inj (Classical.choose_spec hx)).symm
theorem kyOf_inv {xs : List AV} {k : KY} (h : kyOf xs = some k) : xs = kyC k := by
  unfold kyOf at h
  split at h
  · rename_i hx
    rw [← Option.some.inj h]
    exact Classical.choose_spec hx
  · cases h
theorem encR2_putx (k : W32) (s : S8) (h : Nat) (l : List (W32 × TK)) : mput (.w32 k) (.rp (trC s.l h)) (encR2 l) = some (encR2 (putK k ⟨s, h⟩ l)) := encR2_put k ⟨s, h⟩ l
theorem un8_S8 (s : S8) : un8 [.w8 s.a, .w8 s.b, .w8 s.c, .w8 s.d, .w8 s.e, .w8 s.f, .w8 s.g, .w8 s.h] = some s.l := un8_c8 s.l
attribute [go_sem] encR2_putx un8_S8
noncomputable instance : DecidableEq KY := fun _ _ => Classical.propDecidable _
/-- Trees, with a key's. -/
def trP (C : RC) (k : KY) : List (W32 × TK) := match getK k.id C.tr with
  | some _ => C.tr
  | none => putK k.id ⟨k.seed, k.h⟩ C.tr
theorem trP_y {C : RC} {k : KY} {t : TK} (h : getK k.id C.tr = some t) : trP C k = C.tr := by rw [trP, h]
theorem trP_n {C : RC} {k : KY} (h : getK k.id C.tr = none) : trP C k = putK k.id ⟨k.seed, k.h⟩ C.tr := by rw [trP, h]
theorem ROk.trP {C : RC} (h : ROk C) {k : KY} (hk : getK k.id C.by' = some k) : ROk { C with tr := trP C k } := by
  rcases e : getK k.id C.tr with _ | t
  · rw [trP_n e]
    refine ⟨h.key, fun i t ht => ?_, h.nb, put_nodup _ _ _ h.nt⟩
    simp only [getK_put] at ht
    split at ht
    · rename_i e2
      obtain rfl := Option.some.inj ht
      subst e2
      exact ⟨k, hk, rfl⟩
    · exact h.tree _ _ ht
  · rw [trP_y e]; exact h
noncomputable def treeG : List AV → H → Nat → Option (AV × H × Nat)
  | [.op d 0, .agg xs], hp, nx => obind (rngOf hp d) fun t => obind (kyOf xs) fun k => guardO (ROk t.C ∧ getK k.id t.C.by' = some k) (some (.rp (trC k.seed.l k.h), setR d t.s t.m { t.C with tr := trP t.C k } hp, nx + 100))
  | _, _, _ => none
theorem treeG_eq (d : Nat) (xs : List AV) (hp : H) (nx : Nat) : treeG [.op d 0, .agg xs] hp nx = obind (rngOf hp d) fun t => obind (kyOf xs) fun k => guardO (ROk t.C ∧ getK k.id t.C.by' = some k) (some (.rp (trC k.seed.l k.h), setR d t.s t.m { t.C with tr := trP t.C k } hp, nx + 100)) := (rfl)
attribute [go_sem] treeG_eq
set_option maxHeartbeats 1000000 in
theorem tree_ok : HeapOK Tryd.prog GLh 28 treeG := by
  refine heap_of_awp Tryd.func28 (bodyOf_some rfl) ?_
  intro args hp nx r hp' nx' hg
  unfold treeG at hg
  split at hg
  · rename_i d xs
    replace hg := obind_inv hg; obtain ⟨⟨s, m, C⟩, hD0, hg⟩ := hg
    have hD := rngOf_inv hD0
    replace hg := obind_inv hg; obtain ⟨k, hk0, hg⟩ := hg
    have := kyOf_inv hk0; subst this
    replace hg := guardO_inv hg; obtain ⟨⟨hok, hk⟩, hg⟩ := hg
    simp only [Option.some.injEq, Prod.mk.injEq] at hg hD hok hk; obtain ⟨rfl, rfl, rfl⟩ := hg
    refine ⟨Nat.le_of_ble_eq_true rfl, by omega, fun hnone => ?_⟩
    have h1 := hD.hd; have h2 := hD.hs; have h3 := hD.hm
    obtain ⟨n1, n2, n3, n4, n5, n6⟩ := hD.ne
    have hlt : ∀ k o, hp k = some o → k < nx := fun k o hk => lt_of_none2 hnone hk
    have hd := hlt _ _ h1
    have hs := hlt _ _ h2
    have hm := hlt _ _ h3
    obtain ⟨k1, k2, k3, k4⟩ := hok.key _ _ hk
    have ekc : kyC k = [.w32 k.id, .i k.role, .i k.st, .w8 k.seed.a, .w8 k.seed.b, .w8 k.seed.c, .w8 k.seed.d, .w8 k.seed.e, .w8 k.seed.f, .w8 k.seed.g, .w8 k.seed.h, .i k.h, .w32 k.next, .w32 k.since, .w32 k.seen] := rfl
    rw [ekc]
    have hnr : newR [k.seed.a, k.seed.b, k.seed.c, k.seed.d, k.seed.e, k.seed.f, k.seed.g, k.seed.h] (k.h : Int) = .tup [.rp (trC k.seed.l k.h), .i 0] := newR_y k.seed.l k.h k2
    refine awp_seqP rfl ?_
    refine awp_regP (Γ := noEnv) [0, 3] (noEnv_ok _ _) rfl rfl rfl (fun K hK => ?_)
    simp (disch := omega) only [Tryd.f28, go_sem, Nat.reduceAdd, ↓reduceIte]
    refine hK _ ?_
    clear hK K
    refine nx_then ?_
    rcases ht : getK k.id C.tr with _ | t
    · skip
      rw [trP_n ht]
      refine awp_seqP rfl ?_
      refine awp_drwP (Γ := noEnv) (fun k => if k = 6 then 0 else 2) [0, 3, 5] mixed (noEnv_ok _ _) rfl rfl rfl (by kernel_rfl) (fun K hK => ?_)
      simp (disch := omega) only [Tryd.f28, go_sem, Nat.reduceAdd, Nat.reduceLT, ↓reduceIte, h1, h3, ht, rgC_eq, List.head?_cons, List.drop_succ_cons, List.drop_zero]
      refine hK _ ?_
      clear hK K
      refine nx_then ?_
      refine awp_seqP rfl ?_
      refine awp_seqP rfl ?_
      refine awp_regP (Γ := noEnv) [14, 0, 3, 5] (noEnv_ok _ _) rfl rfl rfl (fun K hK => ?_)
      simp (disch := omega) only [Tryd.f28, go_sem, Nat.reduceAdd, ↓reduceIte]
      refine hK _ ?_
      clear hK K
      refine nx_then ?_
      refine awp_ifB (.tmp 14) rfl rfl rfl (fun h => ?_) (fun h => ?_)
      · skip
        refine awp_drop rfl ?_
        refine awp_seqP rfl ?_
        refine awp_regP (Γ := envL [(47, .pure false newG)]) [0, 3, 5] (envOK_cons ok51 envOK_nil) rfl rfl rfl (fun K hK => ?_)
        simp (disch := omega) only [Tryd.f28, go_sem, Nat.reduceAdd, Nat.reduceLeDiff, Nat.reduceLT, ↓reduceIte, hnr, List.head?_cons, List.take_succ_cons, List.take_zero, List.drop_succ_cons, List.drop_zero]
        refine hK _ ?_
        clear hK K
        refine nx_then ?_
        refine awp_drwP (Γ := noEnv) (fun _ => 2) [5] mixed (noEnv_ok _ _) rfl rfl rfl (by kernel_rfl) (fun K hK => ?_)
        simp (disch := omega) only [Tryd.f28, go_sem, Nat.reduceAdd, Nat.reduceLT, ↓reduceIte, h1, h3, rgC_eq, List.head?_cons, List.drop_succ_cons, List.drop_zero]
        refine hK _ ?_
        clear hK K
        refine nx_then ?_
        refine awp_seqP rfl ?_
        refine awp_regP (Γ := noEnv) [4] (noEnv_ok _ _) rfl rfl rfl (fun K hK => ?_)
        simp (disch := omega) only [Tryd.f28, go_sem, Nat.reduceAdd, ↓reduceIte]
        refine hK _ ?_
        clear hK K
        refine nx_then ?_
        refine awp_retP rfl ?_
        refine ⟨rfl, fun j o hj => setR_sub (C := { C with tr := putK k.id ⟨k.seed, k.h⟩ C.tr }) ?_ ?_ ?_ ?_ j o hj, by simp only; omega⟩
        · simp (disch := omega) only [up_app, nat_ne, ↓reduceIte] <;> first | exact h1 | rfl
        · simp (disch := omega) only [up_app, nat_ne, ↓reduceIte] <;> first | exact h2 | rfl
        · simp (disch := omega) only [up_app, ↓reduceIte, eq_self] <;> first | exact h3 | rfl
        · intro k o k1 k2 k3 hk
          have := hlt k o hk
          simp (disch := omega) only [up_app, nat_ne, ↓reduceIte]
          exact hk
      · skip
        refine awp_drop rfl ?_
        cases h
    · skip
      obtain ⟨k5, k6, k7⟩ := hok.tree _ _ ht
      obtain rfl := Option.some.inj (hk.symm.trans k6)
      have et : encT t = .rp (trC k.seed.l k.h) := by rw [k7]; rfl
      rw [trP_y ht]
      refine awp_seqP rfl ?_
      refine awp_drwP (Γ := noEnv) (fun k => if k = 6 then 0 else 2) [0, 3, 5] mixed (noEnv_ok _ _) rfl rfl rfl (by kernel_rfl) (fun K hK => ?_)
      simp (disch := omega) only [Tryd.f28, go_sem, Nat.reduceAdd, Nat.reduceLT, ↓reduceIte, h1, h3, ht, et, rgC_eq, List.head?_cons, List.drop_succ_cons, List.drop_zero]
      refine hK _ ?_
      clear hK K
      refine nx_then ?_
      refine awp_seqP rfl ?_
      refine awp_seqP rfl ?_
      refine awp_regP (Γ := noEnv) [14, 0, 3, 5] (noEnv_ok _ _) rfl rfl rfl (fun K hK => ?_)
      simp (disch := omega) only [Tryd.f28, go_sem, Nat.reduceAdd, ↓reduceIte]
      refine hK _ ?_
      clear hK K
      refine nx_then ?_
      refine awp_ifB (.tmp 14) rfl rfl rfl (fun h => ?_) (fun h => ?_)
      · skip
        refine awp_drop rfl ?_
        cases h
      · skip
        refine awp_drop rfl ?_
        refine awp_skipP rfl ?_
        refine nx_then ?_
        refine awp_seqP rfl ?_
        refine awp_regP (Γ := noEnv) [4] (noEnv_ok _ _) rfl rfl rfl (fun K hK => ?_)
        simp (disch := omega) only [Tryd.f28, go_sem, Nat.reduceAdd, ↓reduceIte]
        refine hK _ ?_
        clear hK K
        refine nx_then ?_
        refine awp_retP rfl ?_
        rw [show ({ c := C.c, by' := C.by', last := C.last, tr := C.tr } : RC) = C from rfl, setR_same hD]
        exact ⟨rfl, fun j o h => hsub_new hnone (by omega) j o h, by simp only; omega⟩
  · cases hg
theorem okd28 : EntOK Tryd.prog GLh 28 (.heap treeG) := ⟨⟨_, Tryd.func28, rfl, rfl⟩, tree_ok⟩
end Go.AX
