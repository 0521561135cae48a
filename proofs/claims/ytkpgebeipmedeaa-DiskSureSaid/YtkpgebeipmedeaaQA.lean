/-
  Disk, part A: small functions; slices cloned; what a disk is in memory. Disk, part B: what a disk is in memory; asked for its sectors, their size, its power; cut. Disk, part C: a disk's sectors' size, its power; what may be asked for; the power cut. Disk, part D: sectors read and written. Disk, part E: sectors written. Disk, part F: a new one.
-/
import Derived.Test.YtkpgebeipmedeaaBE
namespace Go.AX
open Go Go.Proofs

def GLh : Nat → Option (List AV) := fun _ => none
def wit (x lo hi : Int) : Int := if hi < (if x < lo then lo else x) then hi else if x < lo then lo else x
def witG : List AV → Option AV
  | [.i x, .i lo, .i hi] => some (.i (wit x lo hi))
  | _ => none
theorem witG_eq (x lo hi : Int) : witG [.i x, .i lo, .i hi] = some (.i (wit x lo hi)) := (rfl)
attribute [go_sem] witG_eq
theorem wit_ok : PureOK Try.prog GLh 20 witG := by
  refine pure_of_awp Try.func20 (bodyOf_some rfl) ?_
  intro args r hg
  unfold witG at hg
  split at hg
  · rename_i x lo hi
    obtain rfl := Option.some.inj hg
    refine ⟨Nat.le_of_ble_eq_true rfl, fun nx => ?_⟩
    refine awp_seqP rfl ?_
    refine awp_regP (Γ := noEnv) [0, 1, 2] (noEnv_ok _ _) rfl rfl rfl (fun K hK => ?_)
    simp (disch := omega) only [Try.f20, go_sem, Nat.reduceAdd, ↓reduceIte]
    refine hK _ ?_
    clear hK K
    refine nx_then ?_
    refine awp_seqP rfl ?_
    refine awp_regP (Γ := noEnv) [6] (noEnv_ok _ _) rfl rfl rfl (fun K hK => ?_)
    simp (disch := omega) only [Try.f20, go_sem, Nat.reduceAdd, ↓reduceIte]
    refine hK _ ?_
    clear hK K
    refine nx_then ?_
    refine awp_retP rfl ?_
    simp (disch := omega) only [pureQ, resA, resAL, resA1, Try.f20, go_sem, ↓reduceIte]
    rfl
  · cases hg
theorem ok20 : EntOK Try.prog GLh 20 (.pure true witG) := ⟨⟨_, Try.func20, rfl, rfl⟩, wit_ok⟩

/-- One byte string's copy. -/
def cloneG : List AV → Option (Nat × Nat × List AV)
  | [.sl n xs] => obind (unW8 xs) fun l => guardO (l.length = n ∧ 0 < n ∧ n ≤ 1000000) (some (n, 1, c8 l))
  | _ => none
theorem cloneG_c8 (l : List B8) (n : Nat) (hn : l.length = n) (h : 0 < n ∧ n ≤ 1000000) : cloneG [.sl n (c8 l)] = some (n, 1, c8 l) := by
  simp only [cloneG, unW8_c8, obind_some]; exact guardO_true _ ⟨hn, h⟩
theorem rep_0 (zs : List AV) : rep 0 zs = [] := (rfl)
theorem is27 : isSlT Try.prog 27 = true := by kernel_rfl
theorem clone_ok : FreshOK Try.prog GLh 23 cloneG := by
  refine fresh_of_awp Try.func23 (bodyOf_some rfl) ?_
  intro args r hg
  unfold cloneG at hg
  split at hg
  · rename_i n xs
    replace hg := obind_inv hg; obtain ⟨l, hl, hg⟩ := hg
    replace hg := guardO_inv hg; obtain ⟨⟨hn, h0, h1⟩, hg⟩ := hg
    obtain rfl := Option.some.inj hg
    have := unW8_inv hl
    change xs = c8 l at this
    subst this
    subst hn
    refine ⟨Nat.le_of_ble_eq_true rfl, fun nx => ?_⟩
    refine awp_seqP rfl ?_
    refine awp_regP (Γ := noEnv) [0] (noEnv_ok _ _) rfl rfl rfl (fun K hK => ?_)
    simp (disch := omega) only [Try.f23, go_sem, ↓reduceIte]
    refine hK _ ?_
    clear hK K
    refine nx_then ?_
    refine awp_seqP rfl ?_
    refine awp_seqP rfl ?_
    refine awp_regP (Γ := noEnv) [4, 0] (noEnv_ok _ _) rfl rfl rfl (fun K hK => ?_)
    simp (disch := omega) only [Try.f23, go_sem, Nat.reduceAdd, ↓reduceIte, is27, h0, true_and]
    refine hK _ ?_
    clear hK K
    refine nx_then ?_
    refine awp_ifB (.tmp 4) rfl rfl rfl (fun h => ?_) (fun h => ?_)
    · skip
      refine awp_drop rfl ?_
      cases h
    · skip
      refine awp_drop rfl ?_
      refine awp_skipP rfl ?_
      refine nx_then ?_
      refine awp_seqP rfl ?_
      refine awp_regP (Γ := noEnv) [2] (noEnv_ok _ _) rfl rfl rfl (fun K hK => ?_)
      simp (disch := omega) only [Try.f23, go_sem, Nat.reduceAdd, Nat.reduceLeDiff, Nat.reduceLT, ↓reduceIte, rep_0, List.length_nil, List.nil_append, c8_len]
      refine hK _ ?_
      clear hK K
      refine nx_then ?_
      refine awp_retP rfl ?_
      simp (disch := omega) only [freshQ, freshR, resA, resAL, resA1, Try.f23, go_sem, ↓reduceIte, c8_noOwn, c8_len]
  · cases hg
theorem ok23 : EntOK Try.prog GLh 23 (.fresh true cloneG) := ⟨⟨_, Try.func23, rfl, rfl⟩, clone_ok⟩
end Go.AX

namespace Go.AX
open Go Go.Proofs

structure DC where
  rows : List (List B8)
  g : Bool
  dirty : List (Int × List B8)
  cut : Int
  dead : Bool
def encR (b : List B8) : AV := .sl b.length (c8 b)
def encD (l : List (Int × List B8)) : List (AV × AV) := l.map fun p => (.i p.1, encR p.2)
def dCells (s m : Nat) (C : DC) : List AV := [.os s 0 C.rows.length 1 C.g, .mp m, .i C.cut, .b C.dead]
structure DHas (hp : H) (d s m : Nat) (C : DC) : Prop where
  hd : hp d = some (.cells [.os s 0 C.rows.length 1 C.g, .mp m, .i C.cut, .b C.dead] true)
  hs : hp s = some (.cells (C.rows.map encR) true)
  hm : hp m = some (.mapo (encD C.dirty) true)
  ne : d ≠ s ∧ d ≠ m ∧ s ≠ m ∧ s ≠ d ∧ m ≠ d ∧ m ≠ s
def setD (d s m : Nat) (C : DC) (hp : H) : H := upd (upd (upd hp s (.cells (C.rows.map encR) true)) m (.mapo (encD C.dirty) true)) d (.cells [.os s 0 C.rows.length 1 C.g, .mp m, .i C.cut, .b C.dead] true)

theorem map_c8_inj {a b : List B8} (h : c8 a = c8 b) : a = b := by
  have h1 := unW8_c8 a; rw [h, unW8_c8] at h1; exact (Option.some.inj h1).symm
theorem encR_inj {a b : List B8} (h : encR a = encR b) : a = b := map_c8_inj (AV.sl.inj h).2
theorem list_map_inj {α β : Type} {f : α → β} (hf : ∀ a b, f a = f b → a = b) : ∀ {l l' : List α}, l.map f = l'.map f → l = l'
  | [], [], _ => rfl
  | [], _ :: _, h => by cases h
  | _ :: _, [], h => by cases h
  | a :: r, b :: r', h => by
    simp only [List.map_cons, List.cons.injEq] at h
    rw [hf a b h.1, list_map_inj hf h.2]
theorem encD_inj {a b : List (Int × List B8)} (h : encD a = encD b) : a = b := list_map_inj (fun p q e => by
  obtain ⟨e1, e2⟩ := Prod.mk.inj e
  exact Prod.ext (AV.i.inj e1) (encR_inj e2)) h
theorem DHas.uniq {hp : H} {d s m s' m' : Nat} {C C' : DC} (h : DHas hp d s m C) (h' : DHas hp d s' m' C') : s = s' ∧ m = m' ∧ C = C' := by
  have e := h.hd.symm.trans h'.hd
  simp only [Option.some.injEq, AO.cells.injEq, List.cons.injEq, AV.os.injEq, AV.mp.injEq, AV.i.injEq, AV.b.injEq] at e
  obtain ⟨⟨⟨rfl, _, _, _, eg⟩, rfl, ec, ed, _⟩, _⟩ := e
  have er0 := h.hs.symm.trans h'.hs
  have em0 := h.hm.symm.trans h'.hm
  have er := list_map_inj (fun _ _ => encR_inj) (AO.cells.inj (Option.some.inj er0)).1
  have em := encD_inj (AO.mapo.inj (Option.some.inj em0)).1
  obtain ⟨r1, g1, d1, c1, x1⟩ := C
  obtain ⟨r2, g2, d2, c2, x2⟩ := C'
  simp only at er em eg ec ed
  subst er; subst em; subst eg; subst ec; subst ed
  exact ⟨rfl, rfl, rfl⟩
structure DT where
  s : Nat
  m : Nat
  C : DC
open Classical in
noncomputable def dskOf (hp : H) (d : Nat) : Option DT := if h : ∃ t : DT, DHas hp d t.s t.m t.C then some (Classical.choose h) else none
theorem dskOf_has {hp : H} {d s m : Nat} {C : DC} (h : DHas hp d s m C) : dskOf hp d = some ⟨s, m, C⟩ := by
  have hx : ∃ t : DT, DHas hp d t.s t.m t.C := ⟨⟨s, m, C⟩, h⟩
  unfold dskOf
  rw [dif_pos hx]
  have h2 := Classical.choose_spec hx
  obtain ⟨e1, e2, e3⟩ := h2.uniq h
  congr 1
  generalize Classical.choose hx = t at e1 e2 e3
  cases t; simp only at e1 e2 e3; rw [e1, e2, e3]
theorem dskOf_inv {hp : H} {d : Nat} {t : DT} (h : dskOf hp d = some t) : DHas hp d t.s t.m t.C := by
  unfold dskOf at h
  split at h
  · rename_i hx
    obtain rfl := Option.some.inj h
    exact Classical.choose_spec hx
  · cases h
theorem setD_has {hp : H} {d s m : Nat} {C : DC} (h1 : d ≠ s) (h2 : d ≠ m) (h3 : s ≠ m) : DHas (setD d s m C hp) d s m C :=
  ⟨by simp [setD, upd_apply], by simp [setD, upd_apply, Ne.symm h1, h3], by simp [setD, upd_apply, Ne.symm h2], ⟨h1, h2, h3, Ne.symm h1, Ne.symm h2, Ne.symm h3⟩⟩
theorem dsk_set (hp : H) (d s m : Nat) (C : DC) (h1 : d ≠ s) (h2 : d ≠ m) (h3 : s ≠ m) : dskOf (setD d s m C hp) d = some ⟨s, m, C⟩ := dskOf_has (setD_has h1 h2 h3)
theorem setD_set (hp : H) (d s m : Nat) (C C' : DC) : setD d s m C' (setD d s m C hp) = setD d s m C' hp := by
  funext k
  simp only [setD, upd_apply]
  by_cases h1 : k = d
  · simp [h1]
  · by_cases h2 : k = m
    · simp [h2]
    · by_cases h3 : k = s
      · simp [h3]
      · simp [h1, h2, h3]
theorem setD_app (hp : H) (d s m : Nat) (C : DC) (k : Nat) (h1 : k ≠ d) (h2 : k ≠ s) (h3 : k ≠ m) : setD d s m C hp k = hp k := by simp [setD, upd_apply, h1, h2, h3]
theorem setD_upd (hp : H) (d s m : Nat) (C : DC) (k : Nat) (o : AO) (h1 : k ≠ d) (h2 : k ≠ s) (h3 : k ≠ m) : upd (setD d s m C hp) k o = setD d s m C (upd hp k o) := by
  funext j
  simp only [setD, upd_apply]
  by_cases e : j = k
  · subst e; simp [h1, h2, h3]
  · simp [e]
theorem setD_del (hp : H) (d s m : Nat) (C : DC) (k : Nat) (h1 : k ≠ d) (h2 : k ≠ s) (h3 : k ≠ m) : del (setD d s m C hp) k = setD d s m C (del hp k) := by
  funext j
  simp only [setD, upd_apply, del_apply]
  by_cases e : j = k
  · subst e; simp [h1, h2, h3]
  · simp [e]
theorem setD_same {hp : H} {d s m : Nat} {C : DC} (h : DHas hp d s m C) : setD d s m C hp = hp := by
  funext k
  simp only [setD, upd_apply]
  by_cases h1 : k = d
  · subst h1; rw [if_pos rfl, h.hd]
  · rw [if_neg h1]
    by_cases h2 : k = m
    · subst h2; rw [if_pos rfl, h.hm]
    · rw [if_neg h2]
      by_cases h3 : k = s
      · subst h3; rw [if_pos rfl, h.hs]
      · rw [if_neg h3]
theorem setD_sub {hp t : H} {d s m : Nat} {C : DC} (h1 : t d = some (.cells [.os s 0 C.rows.length 1 C.g, .mp m, .i C.cut, .b C.dead] true)) (h2 : t s = some (.cells (C.rows.map encR) true)) (h3 : t m = some (.mapo (encD C.dirty) true))
    (h : ∀ k o, k ≠ d → k ≠ s → k ≠ m → hp k = some o → t k = some o) (k : Nat) (o : AO) (hk : setD d s m C hp k = some o) : t k = some o := by
  simp only [setD, upd_apply] at hk
  by_cases e1 : k = d
  · subst e1; rw [if_pos rfl] at hk; rw [h1]; exact hk
  · rw [if_neg e1] at hk
    by_cases e2 : k = m
    · subst e2; rw [if_pos rfl] at hk; rw [h3]; exact hk
    · rw [if_neg e2] at hk
      by_cases e3 : k = s
      · subst e3; rw [if_pos rfl] at hk; rw [h2]; exact hk
      · rw [if_neg e3] at hk; exact h k o e1 e3 e2 hk
theorem setD_d (hp : H) (d s m : Nat) (C : DC) : setD d s m C hp d = some (.cells [.os s 0 C.rows.length 1 C.g, .mp m, .i C.cut, .b C.dead] true) := by simp [setD, upd_apply]
theorem setD_s (hp : H) (d s m : Nat) (C : DC) (h1 : s ≠ d) (h2 : s ≠ m) : setD d s m C hp s = some (.cells (C.rows.map encR) true) := by simp [setD, upd_apply, h1, h2]
theorem setD_m (hp : H) (d s m : Nat) (C : DC) (h1 : m ≠ d) : setD d s m C hp m = some (.mapo (encD C.dirty) true) := by simp [setD, upd_apply, h1]
theorem setD_updM (hp : H) (d s m : Nat) (C : DC) (l : List (Int × List B8)) (h1 : m ≠ d) : upd (setD d s m C hp) m (.mapo (encD l) true) = setD d s m { C with dirty := l } hp := by
  funext k
  simp only [setD, upd_apply]
  by_cases e : k = m
  · subst e; simp [h1]
  · simp [e]
theorem setD_updS (hp : H) (d s m : Nat) (C : DC) (l : List (List B8)) (hl : l.length = C.rows.length) (h1 : s ≠ d) (h2 : s ≠ m) : upd (setD d s m C hp) s (.cells (l.map encR) true) = setD d s m { C with rows := l } hp := by
  funext k
  simp only [setD, upd_apply]
  by_cases e : k = s
  · subst e; simp [h1, h2]
  · simp [e, hl]
theorem setD_mono {hp hp2 : H} {d s m : Nat} {C : DC} (h : ∀ j o, hp j = some o → hp2 j = some o) (k : Nat) (o : AO) (hk : setD d s m C hp k = some o) : setD d s m C hp2 k = some o := by
  simp only [setD, upd_apply] at hk ⊢
  by_cases e1 : k = d
  · rw [if_pos e1] at hk ⊢; exact hk
  · rw [if_neg e1] at hk ⊢
    by_cases e2 : k = m
    · rw [if_pos e2] at hk ⊢; exact hk
    · rw [if_neg e2] at hk ⊢
      by_cases e3 : k = s
      · rw [if_pos e3] at hk ⊢; exact hk
      · rw [if_neg e3] at hk ⊢; exact h k o hk
attribute [go_sem] setD_d setD_s setD_m setD_updM dsk_set setD_set setD_app setD_upd setD_del
/-- An own object that is there bears an elder name. -/
theorem lt_of_none {hp : H} {nx d : Nat} {o : AO} (hn : ∀ id, nx ≤ id → hp id = none) (h : hp d = some o) : d < nx := by
  rcases Nat.lt_or_ge d nx with e | e
  · exact e
  · rw [hn d e] at h; cases h

noncomputable def secG : List AV → H → Nat → Option (AV × H × Nat)
  | [.op d 0], hp, nx => obind (dskOf hp d) fun t => some (.i t.C.rows.length, hp, nx + 50)
  | _, _, _ => none
theorem secG_eq (d : Nat) (hp : H) (nx : Nat) : secG [.op d 0] hp nx = obind (dskOf hp d) fun t => some (.i t.C.rows.length, hp, nx + 50) := (rfl)
attribute [go_sem] secG_eq
theorem sec_ok : HeapOK Try.prog GLh 8 secG := by
  refine heap_of_awp Try.func8 (bodyOf_some rfl) ?_
  intro args hp nx r hp' nx' hg
  unfold secG at hg
  split at hg
  · rename_i d
    replace hg := obind_inv hg; obtain ⟨⟨s, m, C⟩, hD, hg⟩ := hg
    have hD := dskOf_inv hD
    simp only [Option.some.injEq, Prod.mk.injEq] at hg hD; obtain ⟨rfl, rfl, rfl⟩ := hg
    refine ⟨Nat.le_of_ble_eq_true rfl, by omega, fun hnone => ?_⟩
    have h1 := hD.hd; have h2 := hD.hs; have h3 := hD.hm
    refine awp_seqP rfl ?_
    refine awp_regP (Γ := noEnv) [0] (noEnv_ok _ _) rfl rfl rfl (fun K hK => ?_)
    simp (disch := omega) only [Try.f8, go_sem, ↓reduceIte]
    refine hK _ ?_
    clear hK K
    refine nx_then ?_
    refine awp_seqP rfl ?_
    refine awp_regP (Γ := noEnv) [2] (noEnv_ok _ _) rfl rfl rfl (fun K hK => ?_)
    simp (disch := omega) only [Try.f8, go_sem, Nat.reduceAdd, Nat.reduceLT, ↓reduceIte, h1]
    refine hK _ ?_
    clear hK K
    refine nx_then ?_
    refine awp_retP rfl ?_
    exact ⟨rfl, fun j o h => h, by simp only; omega⟩
  · cases hg
theorem ok8 : EntOK Try.prog GLh 8 (.heap secG) := ⟨⟨_, Try.func8, rfl, rfl⟩, sec_ok⟩
end Go.AX

namespace Go.AX
open Go Go.Proofs

theorem encR_len (b : List B8) (e : TypeId) : lenF (encR b) (some (.slice e)) = some (.i b.length) := (rfl)
attribute [go_sem] encR_len
def sizR : List (List B8) → Option Int
  | [] => none
  | b :: _ => some b.length
noncomputable def sizG : List AV → H → Nat → Option (AV × H × Nat)
  | [.op d 0], hp, nx => obind (dskOf hp d) fun t => obind (sizR t.C.rows) fun n => some (.i n, hp, nx + 50)
  | _, _, _ => none
theorem sizG_eq (d : Nat) (hp : H) (nx : Nat) : sizG [.op d 0] hp nx = obind (dskOf hp d) fun t => obind (sizR t.C.rows) fun n => some (.i n, hp, nx + 50) := (rfl)
attribute [go_sem] sizG_eq
theorem siz_ok : HeapOK Try.prog GLh 9 sizG := by
  refine heap_of_awp Try.func9 (bodyOf_some rfl) ?_
  intro args hp nx r hp' nx' hg
  unfold sizG at hg
  split at hg
  · rename_i d
    replace hg := obind_inv hg; obtain ⟨⟨s, m, C⟩, hD, hg⟩ := hg
    have hD := dskOf_inv hD
    replace hg := obind_inv hg; obtain ⟨n, hn, hg⟩ := hg
    simp only [Option.some.injEq, Prod.mk.injEq] at hg hD; obtain ⟨rfl, rfl, rfl⟩ := hg
    refine ⟨Nat.le_of_ble_eq_true rfl, by omega, fun hnone => ?_⟩
    have h1 := hD.hd; have h2 := hD.hs; have h3 := hD.hm
    obtain ⟨rows, g, dirty, cut, dead⟩ := C
    cases rows with
    | nil => cases hn
    | cons b rows =>
    obtain rfl := Option.some.inj hn
    simp only at h1 h2 h3
    refine awp_seqP rfl ?_
    refine awp_regP (Γ := noEnv) [0] (noEnv_ok _ _) rfl rfl rfl (fun K hK => ?_)
    simp (disch := omega) only [Try.f9, go_sem, ↓reduceIte]
    refine hK _ ?_
    clear hK K
    refine nx_then ?_
    refine awp_seqP rfl ?_
    refine awp_regP (Γ := noEnv) [2] (noEnv_ok _ _) rfl rfl rfl (fun K hK => ?_)
    simp (disch := omega) only [Try.f9, go_sem, Nat.reduceAdd, Nat.reduceLT, Int.reduceLE, Int.reduceToNat, ↓reduceIte, h1, h2, List.length_cons, List.map_cons, List.drop_zero, List.head?_cons, Nat.zero_add]
    refine hK _ ?_
    clear hK K
    refine nx_then ?_
    refine awp_retP rfl ?_
    exact ⟨rfl, fun j o h => h, by simp only; omega⟩
  · cases hg
theorem ok9 : EntOK Try.prog GLh 9 (.heap sizG) := ⟨⟨_, Try.func9, rfl, rfl⟩, siz_ok⟩

noncomputable def deadG : List AV → H → Nat → Option (AV × H × Nat)
  | [.op d 0], hp, nx => obind (dskOf hp d) fun t => some (.b t.C.dead, hp, nx + 50)
  | _, _, _ => none
theorem deadG_eq (d : Nat) (hp : H) (nx : Nat) : deadG [.op d 0] hp nx = obind (dskOf hp d) fun t => some (.b t.C.dead, hp, nx + 50) := (rfl)
attribute [go_sem] deadG_eq
theorem dead_ok : HeapOK Try.prog GLh 18 deadG := by
  refine heap_of_awp Try.func18 (bodyOf_some rfl) ?_
  intro args hp nx r hp' nx' hg
  unfold deadG at hg
  split at hg
  · rename_i d
    replace hg := obind_inv hg; obtain ⟨⟨s, m, C⟩, hD, hg⟩ := hg
    have hD := dskOf_inv hD
    simp only [Option.some.injEq, Prod.mk.injEq] at hg hD; obtain ⟨rfl, rfl, rfl⟩ := hg
    refine ⟨Nat.le_of_ble_eq_true rfl, by omega, fun hnone => ?_⟩
    have h1 := hD.hd; have h2 := hD.hs; have h3 := hD.hm
    refine awp_seqP rfl ?_
    refine awp_regP (Γ := noEnv) [0] (noEnv_ok _ _) rfl rfl rfl (fun K hK => ?_)
    simp (disch := omega) only [Try.f18, go_sem, ↓reduceIte]
    refine hK _ ?_
    clear hK K
    refine nx_then ?_
    refine awp_seqP rfl ?_
    refine awp_regP (Γ := noEnv) [2] (noEnv_ok _ _) rfl rfl rfl (fun K hK => ?_)
    simp (disch := omega) only [Try.f18, go_sem, Nat.reduceAdd, Nat.reduceLT, ↓reduceIte, h1, List.drop_succ_cons, List.drop_zero, List.head?_cons]
    refine hK _ ?_
    clear hK K
    refine nx_then ?_
    refine awp_retP rfl ?_
    exact ⟨rfl, fun j o h => h, by simp only; omega⟩
  · cases hg
theorem ok18 : EntOK Try.prog GLh 18 (.heap deadG) := ⟨⟨_, Try.func18, rfl, rfl⟩, dead_ok⟩

def atV (C : DC) (i : Int) : Int := if C.dead = true then 82 else if i < 0 ∨ i ≥ C.rows.length then 80 else 0
noncomputable def atG : List AV → H → Nat → Option (AV × H × Nat)
  | [.op d 0, .i i], hp, nx => obind (dskOf hp d) fun t => some (.i (atV t.C i), hp, nx + 50)
  | _, _, _ => none
theorem atG_eq (d : Nat) (i : Int) (hp : H) (nx : Nat) : atG [.op d 0, .i i] hp nx = obind (dskOf hp d) fun t => some (.i (atV t.C i), hp, nx + 50) := (rfl)
attribute [go_sem] atG_eq
theorem at_ok : HeapOK Try.prog GLh 21 atG := by
  refine heap_of_awp Try.func21 (bodyOf_some rfl) ?_
  intro args hp nx r hp' nx' hg
  unfold atG at hg
  split at hg
  · rename_i d i
    replace hg := obind_inv hg; obtain ⟨⟨s, m, C⟩, hD, hg⟩ := hg
    have hD := dskOf_inv hD
    simp only [Option.some.injEq, Prod.mk.injEq] at hg hD; obtain ⟨rfl, rfl, rfl⟩ := hg
    refine ⟨Nat.le_of_ble_eq_true rfl, by omega, fun hnone => ?_⟩
    have h1 := hD.hd; have h2 := hD.hs; have h3 := hD.hm
    refine awp_seqP rfl ?_
    refine awp_regP (Γ := noEnv) [0, 1] (noEnv_ok _ _) rfl rfl rfl (fun K hK => ?_)
    simp (disch := omega) only [Try.f21, go_sem, ↓reduceIte]
    refine hK _ ?_
    clear hK K
    refine nx_then ?_
    refine awp_seqP rfl ?_
    refine awp_blockN 0 rfl rfl ?_
    refine awp_seqP rfl ?_
    refine awp_regP (Γ := noEnv) [5, 0, 1] (noEnv_ok _ _) rfl rfl rfl (fun K hK => ?_)
    simp (disch := omega) only [Try.f21, go_sem, Nat.reduceAdd, Nat.reduceLT, ↓reduceIte, h1, List.drop_succ_cons, List.drop_zero, List.head?_cons]
    refine hK _ ?_
    clear hK K
    refine nx_then ?_
    refine awp_ifB (.tmp 5) rfl rfl rfl (fun h => ?_) (fun h => ?_)
    · skip
      refine awp_drop rfl ?_
      have e : atV C i = 82 := if_pos h
      rw [e]
      refine awp_seqP rfl ?_
      refine awp_regP (Γ := noEnv) [4] (noEnv_ok _ _) rfl rfl rfl (fun K hK => ?_)
      simp (disch := omega) only [Try.f21, go_sem, ↓reduceIte]
      refine hK _ ?_
      clear hK K
      refine nx_then ?_
      refine awp_retP rfl ?_
      refine nx_ret_blk (nx_ret_then ?_)
      exact ⟨rfl, fun j o h => h, by simp only; omega⟩
    · skip
      refine awp_drop rfl ?_
      by_cases hi : i < 0
      · skip
        have e : atV C i = 80 := by unfold atV; rw [if_neg (by simp [h]), if_pos (.inl hi)]
        rw [e]
        refine awp_seqP rfl ?_
        refine awp_regP (Γ := noEnv) [10] (noEnv_ok _ _) rfl rfl rfl (fun K hK => ?_)
        simp (disch := omega) only [Try.f21, go_sem, Nat.reduceAdd, ↓reduceIte, decide_eq_true hi]
        refine hK _ ?_
        clear hK K
        refine nx_then ?_
        refine awp_ifB (.tmp 10) rfl rfl rfl (fun h => ?_) (fun h => ?_)
        · skip
          refine awp_drop rfl ?_
          refine awp_seqP rfl ?_
          refine awp_regP (Γ := noEnv) [4] (noEnv_ok _ _) rfl rfl rfl (fun K hK => ?_)
          simp (disch := omega) only [Try.f21, go_sem, ↓reduceIte]
          refine hK _ ?_
          clear hK K
          refine nx_then ?_
          refine awp_retP rfl ?_
          refine nx_ret_blk (nx_ret_then ?_)
          exact ⟨rfl, fun j o h => h, by simp only; omega⟩
        · skip
          refine awp_drop rfl ?_
          cases h
      · skip
        have hd1 : decide (i < 0) = false := decide_eq_false hi
        refine awp_seqP rfl ?_
        refine awp_regP (Γ := noEnv) [10] (noEnv_ok _ _) rfl rfl rfl (fun K hK => ?_)
        simp (disch := omega) only [Try.f21, go_sem, Nat.reduceAdd, Nat.reduceLT, ↓reduceIte, h1, hd1]
        refine hK _ ?_
        clear hK K
        refine nx_then ?_
        refine awp_ifD (.tmp 10) rfl rfl rfl (fun h => ?_) (fun h => ?_)
        · skip
          refine awp_drop rfl ?_
          have e : atV C i = 80 := by unfold atV; rw [if_neg (by simp_all), if_pos (.inr h)]
          rw [e]
          refine awp_seqP rfl ?_
          refine awp_regP (Γ := noEnv) [4] (noEnv_ok _ _) rfl rfl rfl (fun K hK => ?_)
          simp (disch := omega) only [Try.f21, go_sem, ↓reduceIte]
          refine hK _ ?_
          clear hK K
          refine nx_then ?_
          refine awp_retP rfl ?_
          refine nx_ret_blk (nx_ret_then ?_)
          exact ⟨rfl, fun j o h => h, by simp only; omega⟩
        · skip
          refine awp_drop rfl ?_
          have e : atV C i = 0 := by unfold atV; rw [if_neg (by simp_all), if_neg (fun q => q.elim hi h)]
          rw [e]
          refine awp_skipP rfl ?_
          refine nx_blk (nx_then ?_)
          refine awp_seqP rfl ?_
          refine awp_regP (Γ := noEnv) [4] (noEnv_ok _ _) rfl rfl rfl (fun K hK => ?_)
          simp (disch := omega) only [Try.f21, go_sem, ↓reduceIte]
          refine hK _ ?_
          clear hK K
          refine nx_then ?_
          refine awp_retP rfl ?_
          exact ⟨rfl, fun j o h => h, by simp only; omega⟩
  · cases hg
theorem ok21 : EntOK Try.prog GLh 21 (.heap atG) := ⟨⟨_, Try.func21, rfl, rfl⟩, at_ok⟩

def pwV (C : DC) : Int × DC := if C.cut = 0 then (82, { C with dead := true }) else if 0 < C.cut then (0, { C with cut := W (C.cut - 1) }) else (0, C)
noncomputable def pwG : List AV → H → Nat → Option (AV × H × Nat)
  | [.op d 0], hp, nx => obind (dskOf hp d) fun t => some (.i (pwV t.C).1, setD d t.s t.m (pwV t.C).2 hp, nx + 50)
  | _, _, _ => none
theorem pwG_eq (d : Nat) (hp : H) (nx : Nat) : pwG [.op d 0] hp nx = obind (dskOf hp d) fun t => some (.i (pwV t.C).1, setD d t.s t.m (pwV t.C).2 hp, nx + 50) := (rfl)
attribute [go_sem] pwG_eq
theorem pw_ok : HeapOK Try.prog GLh 22 pwG := by
  refine heap_of_awp Try.func22 (bodyOf_some rfl) ?_
  intro args hp nx r hp' nx' hg
  unfold pwG at hg
  split at hg
  · rename_i d
    replace hg := obind_inv hg; obtain ⟨⟨s, m, C⟩, hD, hg⟩ := hg
    have hD := dskOf_inv hD
    simp only [Option.some.injEq, Prod.mk.injEq] at hg hD; obtain ⟨rfl, rfl, rfl⟩ := hg
    refine ⟨Nat.le_of_ble_eq_true rfl, by omega, fun hnone => ?_⟩
    have h1 := hD.hd; have h2 := hD.hs; have h3 := hD.hm
    obtain ⟨n1, n2, n3, n4, n5, n6⟩ := hD.ne
    refine awp_seqP rfl ?_
    refine awp_regP (Γ := noEnv) [0] (noEnv_ok _ _) rfl rfl rfl (fun K hK => ?_)
    simp (disch := omega) only [Try.f22, go_sem, ↓reduceIte]
    refine hK _ ?_
    clear hK K
    refine nx_then ?_
    refine awp_seqP rfl ?_
    refine awp_seqP rfl ?_
    refine awp_regP (Γ := noEnv) [7, 0] (noEnv_ok _ _) rfl rfl rfl (fun K hK => ?_)
    simp (disch := omega) only [Try.f22, go_sem, Nat.reduceAdd, Nat.reduceLT, ↓reduceIte, h1, List.drop_succ_cons, List.drop_zero, List.head?_cons]
    refine hK _ ?_
    clear hK K
    refine nx_then ?_
    refine awp_ifD (.tmp 7) rfl rfl rfl (fun h => ?_) (fun h => ?_)
    · skip
      refine awp_drop rfl ?_
      have e : pwV C = (82, { C with dead := true }) := if_pos h
      rw [e]
      refine awp_seqP rfl ?_
      refine awp_regP (Γ := noEnv) [] (noEnv_ok _ _) rfl rfl rfl (fun K hK => ?_)
      simp (disch := omega) only [Try.f22, go_sem, Nat.reduceAdd, Nat.reduceLeDiff, Nat.reduceLT, ↓reduceIte, h1]
      refine hK _ ?_
      clear hK K
      refine nx_then ?_
      refine awp_seqP rfl ?_
      refine awp_regP (Γ := noEnv) [2] (noEnv_ok _ _) rfl rfl rfl (fun K hK => ?_)
      simp (disch := omega) only [Try.f22, go_sem, ↓reduceIte]
      refine hK _ ?_
      clear hK K
      refine nx_then ?_
      refine awp_retP rfl ?_
      refine nx_ret_then ?_
      refine ⟨rfl, setD_sub (by simp [upd_apply]) ?_ ?_ ?_, by simp only; omega⟩
      · simp only [upd_apply, if_neg n4]; exact h2
      · simp only [upd_apply, if_neg n5]; exact h3
      · intro k o k1 k2 k3 hk
        simp only [upd_apply, if_neg k1]; exact hk
    · skip
      refine awp_drop rfl ?_
      refine awp_skipP rfl ?_
      refine nx_then ?_
      refine awp_seqP rfl ?_
      refine awp_seqP rfl ?_
      refine awp_regP (Γ := noEnv) [15, 0] (noEnv_ok _ _) rfl rfl rfl (fun K hK => ?_)
      simp (disch := omega) only [Try.f22, go_sem, Nat.reduceAdd, Nat.reduceLT, ↓reduceIte, h1, List.drop_succ_cons, List.drop_zero, List.head?_cons]
      refine hK _ ?_
      clear hK K
      refine nx_then ?_
      refine awp_ifD (.tmp 15) rfl rfl rfl (fun h => ?_) (fun h => ?_)
      · skip
        refine awp_drop rfl ?_
        have e : pwV C = (0, { C with cut := W (C.cut - 1) }) := by unfold pwV; rw [if_neg (by assumption), if_pos h]
        rw [e]
        refine awp_regP (Γ := noEnv) [] (noEnv_ok _ _) rfl rfl rfl (fun K hK => ?_)
        simp (disch := omega) only [Try.f22, go_sem, Nat.reduceAdd, Nat.reduceLeDiff, Nat.reduceLT, ↓reduceIte, h1, List.drop_succ_cons, List.drop_zero, List.head?_cons]
        refine hK _ ?_
        clear hK K
        refine nx_then ?_
        refine awp_seqP rfl ?_
        refine awp_regP (Γ := noEnv) [2] (noEnv_ok _ _) rfl rfl rfl (fun K hK => ?_)
        simp (disch := omega) only [Try.f22, go_sem, ↓reduceIte]
        refine hK _ ?_
        clear hK K
        refine nx_then ?_
        refine awp_retP rfl ?_
        refine ⟨rfl, setD_sub (by simp [upd_apply]) ?_ ?_ ?_, by simp only; omega⟩
        · simp only [upd_apply, if_neg n4]; exact h2
        · simp only [upd_apply, if_neg n5]; exact h3
        · intro k o k1 k2 k3 hk
          simp only [upd_apply, if_neg k1]; exact hk
      · skip
        refine awp_drop rfl ?_
        have e : pwV C = (0, C) := by unfold pwV; rw [if_neg (by assumption), if_neg h]
        rw [e]
        refine awp_skipP rfl ?_
        refine nx_then ?_
        refine awp_seqP rfl ?_
        refine awp_regP (Γ := noEnv) [2] (noEnv_ok _ _) rfl rfl rfl (fun K hK => ?_)
        simp (disch := omega) only [Try.f22, go_sem, ↓reduceIte]
        refine hK _ ?_
        clear hK K
        refine nx_then ?_
        refine awp_retP rfl ?_
        refine ⟨rfl, ?_, by simp only; omega⟩
        rw [setD_same hD]; exact fun j o h => h
  · cases hg
theorem ok22 : EntOK Try.prog GLh 22 (.heap pwG) := ⟨⟨_, Try.func22, rfl, rfl⟩, pw_ok⟩

def cutV (C : DC) (n : Int) : DC := { C with cut := if n < 0 then 0 else n }
noncomputable def cutG : List AV → H → Nat → Option (AV × H × Nat)
  | [.op d 0, .i n], hp, nx => obind (dskOf hp d) fun t => some (.tup [], setD d t.s t.m (cutV t.C n) hp, nx + 50)
  | _, _, _ => none
theorem cutG_eq (d : Nat) (n : Int) (hp : H) (nx : Nat) : cutG [.op d 0, .i n] hp nx = obind (dskOf hp d) fun t => some (.tup [], setD d t.s t.m (cutV t.C n) hp, nx + 50) := (rfl)
attribute [go_sem] cutG_eq
theorem cut_ok : HeapOK Try.prog GLh 16 cutG := by
  refine heap_of_awp Try.func16 (bodyOf_some rfl) ?_
  intro args hp nx r hp' nx' hg
  unfold cutG at hg
  split at hg
  · rename_i d n
    replace hg := obind_inv hg; obtain ⟨⟨s, m, C⟩, hD, hg⟩ := hg
    have hD := dskOf_inv hD
    simp only [Option.some.injEq, Prod.mk.injEq] at hg hD; obtain ⟨rfl, rfl, rfl⟩ := hg
    refine ⟨Nat.le_of_ble_eq_true rfl, by omega, fun hnone => ?_⟩
    have h1 := hD.hd; have h2 := hD.hs; have h3 := hD.hm
    obtain ⟨n1, n2, n3, n4, n5, n6⟩ := hD.ne
    refine awp_regP (Γ := noEnv) [] (noEnv_ok _ _) rfl rfl rfl (fun K hK => ?_)
    simp (disch := omega) only [Try.f16, go_sem, Nat.reduceAdd, Nat.reduceLeDiff, Nat.reduceLT, ↓reduceIte, h1]
    refine hK _ ?_
    clear hK K
    refine ⟨rfl, setD_sub (by simp [upd_apply, cutV]) ?_ ?_ ?_, by simp only; omega⟩
    · simp only [upd_apply, if_neg n4]; exact h2
    · simp only [upd_apply, if_neg n5]; exact h3
    · intro k o k1 k2 k3 hk
      simp only [upd_apply, if_neg k1]; exact hk
  · cases hg
theorem ok16 : EntOK Try.prog GLh 16 (.heap cutG) := ⟨⟨_, Try.func16, rfl, rfl⟩, cut_ok⟩
end Go.AX

namespace Go.AX
open Go Go.Proofs

theorem encD_get (i : Int) (l : List (Int × List B8)) : mget (.i i) (encD l) = some ((getK i l).map encR) := mget_map (α := Int) AV.i kEq_i encR i l
theorem encD_put (i : Int) (b : List B8) (l : List (Int × List B8)) : mput (.i i) (encR b) (encD l) = some (encD (putK i b l)) := mput_map (α := Int) AV.i kEq_i encR i b l
theorem encR_eq (b : List B8) : encR b = .sl b.length (c8 b) := (rfl)
def rdS (C : DC) (i : Int) (nx : Nat) (hp : H) : Option (List B8) → Option (AV × H × Nat)
  | some b => guardO (0 < b.length ∧ b.length ≤ 1000000) (some (.tup [.os (nx + 71) 0 b.length 1 true, .i 0], upd hp (nx + 71) (.cells (c8 b) true), nx + 100))
  | none => obind C.rows[i.toNat]? fun b => guardO (0 < b.length ∧ b.length ≤ 1000000) (some (.tup [.os (nx + 77) 0 b.length 1 true, .i 0], upd hp (nx + 77) (.cells (c8 b) true), nx + 100))
def rdE (C : DC) (i : Int) (nx : Nat) (hp : H) : Int → Option (AV × H × Nat)
  | 0 => rdS C i nx hp (getK i C.dirty)
  | e => some (.tup [.v (.slice none 0 0), .i e], hp, nx + 100)
noncomputable def rdG : List AV → H → Nat → Option (AV × H × Nat)
  | [.op d 0, .i i], hp, nx => obind (dskOf hp d) fun t => rdE t.C i nx hp (atV t.C i)
  | _, _, _ => none
theorem rdG_eq (d : Nat) (i : Int) (hp : H) (nx : Nat) : rdG [.op d 0, .i i] hp nx = obind (dskOf hp d) fun t => rdE t.C i nx hp (atV t.C i) := (rfl)
theorem rdE_0 (C : DC) (i : Int) (nx : Nat) (hp : H) : rdE C i nx hp 0 = rdS C i nx hp (getK i C.dirty) := (rfl)
theorem rdS_s (C : DC) (i : Int) (nx : Nat) (hp : H) (b : List B8) : rdS C i nx hp (some b) = guardO (0 < b.length ∧ b.length ≤ 1000000) (some (.tup [.os (nx + 71) 0 b.length 1 true, .i 0], upd hp (nx + 71) (.cells (c8 b) true), nx + 100)) := (rfl)
theorem rdS_n (C : DC) (i : Int) (nx : Nat) (hp : H) : rdS C i nx hp none = obind C.rows[i.toNat]? fun b => guardO (0 < b.length ∧ b.length ≤ 1000000) (some (.tup [.os (nx + 77) 0 b.length 1 true, .i 0], upd hp (nx + 77) (.cells (c8 b) true), nx + 100)) := (rfl)
attribute [go_sem] rdG_eq rdE_0 rdS_s rdS_n
theorem atV_zero {C : DC} {i : Int} (h : atV C i = 0) : C.dead = false ∧ 0 ≤ i ∧ i < C.rows.length := by
  unfold atV at h
  split at h
  · cases h
  · split at h
    · cases h
    · rename_i h1 h2
      refine ⟨by simpa using h1, by omega, by omega⟩
set_option maxHeartbeats 1000000 in
theorem rd_ok : HeapOK Try.prog GLh 13 rdG := by
  refine heap_of_awp Try.func13 (bodyOf_some rfl) ?_
  intro args hp nx r hp' nx' hg
  unfold rdG at hg
  split at hg
  · rename_i d i
    replace hg := obind_inv hg; obtain ⟨⟨s, m, C⟩, hD0, hg⟩ := hg
    have hD := dskOf_inv hD0
    simp only [rdE] at hg hD
    have h1 := hD.hd; have h2 := hD.hs; have h3 := hD.hm
    obtain ⟨n1, n2, n3, n4, n5, n6⟩ := hD.ne
    refine ⟨Nat.le_of_ble_eq_true rfl, ?_, fun hnone => ?_⟩
    · split at hg
      · unfold rdS at hg
        split at hg
        · replace hg := guardO_inv hg; obtain ⟨_, hg⟩ := hg
          simp only [Option.some.injEq, Prod.mk.injEq] at hg; omega
        · replace hg := obind_inv hg; obtain ⟨b, _, hg⟩ := hg
          replace hg := guardO_inv hg; obtain ⟨_, hg⟩ := hg
          simp only [Option.some.injEq, Prod.mk.injEq] at hg; omega
      · simp only [Option.some.injEq, Prod.mk.injEq] at hg; omega
    have hlt : ∀ k o, hp k = some o → k < nx := fun k o hk => lt_of_none hnone hk
    refine awp_seqP rfl ?_
    refine awp_regP (Γ := noEnv) [0, 1] (noEnv_ok _ _) rfl rfl rfl (fun K hK => ?_)
    simp (disch := omega) only [Try.f13, go_sem, Nat.reduceAdd, ↓reduceIte]
    refine hK _ ?_
    clear hK K
    refine nx_then ?_
    refine awp_seqP rfl ?_
    refine awp_seqP rfl ?_
    refine awp_regP (Γ := envL [(21, .heap atG)]) [0, 1, 6] (envOK_cons ok21 envOK_nil) rfl rfl rfl (fun K hK => ?_)
    simp (disch := omega) only [Try.f13, go_sem, Nat.reduceAdd, ↓reduceIte, hD0]
    refine hK _ ?_
    clear hK K
    refine nx_then ?_
    refine awp_seqP rfl ?_
    refine awp_regP (Γ := noEnv) [13, 0, 1, 6] (noEnv_ok _ _) rfl rfl rfl (fun K hK => ?_)
    simp (disch := omega) only [Try.f13, go_sem, Nat.reduceAdd, ↓reduceIte]
    refine hK _ ?_
    clear hK K
    refine nx_then ?_
    refine awp_ifE (.tmp 13) rfl rfl rfl (fun h => ?_) (fun h => ?_)
    · skip
      refine awp_drop rfl ?_
      split at hg
      · rename_i h0
        exact absurd h0 h
      simp only [Option.some.injEq, Prod.mk.injEq] at hg; obtain ⟨rfl, rfl, rfl⟩ := hg
      refine awp_seqP rfl ?_
      refine awp_regP (Γ := noEnv) [4, 5] (noEnv_ok _ _) rfl rfl rfl (fun K hK => ?_)
      simp (disch := omega) only [Try.f13, go_sem, Nat.reduceAdd, ↓reduceIte]
      refine hK _ ?_
      clear hK K
      refine nx_then ?_
      refine awp_retP rfl ?_
      refine nx_ret_then ?_
      exact ⟨rfl, fun j o h => h, by simp only; omega⟩
    · skip
      refine awp_drop rfl ?_
      have h0 : atV C i = 0 := h
      rw [h0] at hg
      simp only at hg
      obtain ⟨_, hi1, hi2⟩ := atV_zero h0
      obtain ⟨gk, hgk⟩ : ∃ gk, getK i C.dirty = gk := ⟨_, rfl⟩
      rw [hgk] at hg
      refine awp_skipP rfl ?_
      refine nx_then ?_
      refine awp_seqP rfl ?_
      refine awp_seqP rfl ?_
      cases gk
      · skip
        simp only [rdS] at hg
        replace hg := obind_inv hg; obtain ⟨b, hb, hg⟩ := hg
        replace hg := guardO_inv hg; obtain ⟨⟨hb0, hb1⟩, hg⟩ := hg
        simp only [Option.some.injEq, Prod.mk.injEq] at hg; obtain ⟨rfl, rfl, rfl⟩ := hg
        refine awp_regP (Γ := noEnv) [0, 1, 7, 8] (noEnv_ok _ _) rfl rfl rfl (fun K hK => ?_)
        simp (disch := omega) only [Try.f13, go_sem, Nat.reduceAdd, Nat.reduceLT, ↓reduceIte, h1, h3, List.drop_succ_cons, List.drop_zero, List.head?_cons, encD_get, hgk, Option.map_none]
        refine hK _ ?_
        clear hK K
        refine nx_then ?_
        refine awp_seqP rfl ?_
        refine awp_regP (Γ := noEnv) [24, 0, 1, 7] (noEnv_ok _ _) rfl rfl rfl (fun K hK => ?_)
        simp (disch := omega) only [Try.f13, go_sem, ↓reduceIte]
        refine hK _ ?_
        clear hK K
        refine nx_then ?_
        refine awp_ifB (.tmp 24) rfl rfl rfl (fun h => ?_) (fun h => ?_)
        · skip
          refine awp_drop rfl ?_
          cases h
        · skip
          refine awp_drop rfl ?_
          refine awp_skipP rfl ?_
          refine nx_then ?_
          refine awp_seqP rfl ?_
          have e1 : ((C.rows.map encR).drop i.toNat).head? = some (encR b) := by rw [List.head?_drop, List.getElem?_map, hb]; rfl
          refine awp_regP (Γ := envL [(23, .fresh true cloneG)]) [4, 5] (envOK_cons ok23 envOK_nil) rfl rfl rfl (fun K hK => ?_)
          simp (disch := omega) only [Try.f13, go_sem, Nat.reduceAdd, Nat.reduceLT, ↓reduceIte, h1, h2, List.drop_zero, List.head?_cons, e1, encR_eq, cloneG_c8 b _ rfl ⟨hb0, hb1⟩, Nat.zero_add, Nat.mul_one]
          refine hK _ ?_
          clear hK K
          refine nx_then ?_
          refine awp_retP rfl ?_
          refine ⟨rfl, fun j o h => h, by simp only; omega⟩
      · skip
        rename_i b
        simp only [rdS] at hg
        replace hg := guardO_inv hg; obtain ⟨⟨hb0, hb1⟩, hg⟩ := hg
        simp only [Option.some.injEq, Prod.mk.injEq] at hg; obtain ⟨rfl, rfl, rfl⟩ := hg
        refine awp_regP (Γ := noEnv) [0, 1, 7, 8] (noEnv_ok _ _) rfl rfl rfl (fun K hK => ?_)
        simp (disch := omega) only [Try.f13, go_sem, Nat.reduceAdd, Nat.reduceLT, ↓reduceIte, h1, h3, List.drop_succ_cons, List.drop_zero, List.head?_cons, encD_get, hgk, Option.map_some]
        refine hK _ ?_
        clear hK K
        refine nx_then ?_
        refine awp_seqP rfl ?_
        refine awp_regP (Γ := noEnv) [24, 0, 1, 7] (noEnv_ok _ _) rfl rfl rfl (fun K hK => ?_)
        simp (disch := omega) only [Try.f13, go_sem, ↓reduceIte]
        refine hK _ ?_
        clear hK K
        refine nx_then ?_
        refine awp_ifB (.tmp 24) rfl rfl rfl (fun h => ?_) (fun h => ?_)
        · skip
          refine awp_drop rfl ?_
          refine awp_seqP rfl ?_
          refine awp_regP (Γ := envL [(23, .fresh true cloneG)]) [4, 5] (envOK_cons ok23 envOK_nil) rfl rfl rfl (fun K hK => ?_)
          simp (disch := omega) only [Try.f13, go_sem, Nat.reduceAdd, ↓reduceIte, encR_eq, cloneG_c8 b _ rfl ⟨hb0, hb1⟩]
          refine hK _ ?_
          clear hK K
          refine nx_then ?_
          refine awp_retP rfl ?_
          refine nx_ret_then ?_
          refine ⟨rfl, fun j o h => h, by simp only; omega⟩
        · skip
          refine awp_drop rfl ?_
          cases h
  · cases hg
theorem ok13 : EntOK Try.prog GLh 13 (.heap rdG) := ⟨⟨_, Try.func13, rfl, rfl⟩, rd_ok⟩
end Go.AX

namespace Go.AX
open Go Go.Proofs

theorem encD_put2 (i : Int) (b : List B8) (l : List (Int × List B8)) : mput (.i i) (.sl b.length (c8 b)) (encD l) = some (encD (putK i b l)) := encD_put i b l
/-- The bytes that a slice holds. -/
def xBo (off n : Nat) : AO → Option (List B8)
  | .cells ys _ => obind (unW8 ys) fun l => guardO (off + n ≤ l.length) (some ((l.drop off).take n))
  | _ => none
def xB (hp : H) : AV → Option (List B8)
  | .sl n xs => obind (unW8 xs) fun b => guardO (b.length = n) (some b)
  | .os i off n e _ => guardO (e = 1) (obind (hp i) (xBo off n))
  | _ => none
theorem xB_sl (hp : H) (n : Nat) (xs : List AV) : xB hp (.sl n xs) = obind (unW8 xs) fun b => guardO (b.length = n) (some b) := (rfl)
theorem xB_os (hp : H) (i off n e : Nat) (g : Bool) : xB hp (.os i off n e g) = guardO (e = 1) (obind (hp i) (xBo off n)) := (rfl)
theorem xBo_c (off n : Nat) (ys : List AV) (mt : Bool) : xBo off n (.cells ys mt) = obind (unW8 ys) fun l => guardO (off + n ≤ l.length) (some ((l.drop off).take n)) := (rfl)
attribute [go_sem] xB_sl xB_os xBo_c unW8_c8
structure XBok (hp : H) (x : AV) (b : List B8) (nx d s m : Nat) (C : DC) : Prop where
  len : ∀ e, lenF x (some (.slice e)) = some (.i b.length)
  imm : ∀ (C' : DC) (mm n2 k : Nat), mm ≠ 1 → nx ≤ n2 → immF 4 (hsel mm n2 k (setD d s m C' hp)) x = some (.sl b.length (c8 b))
theorem xB_ok {hp : H} {x : AV} {b : List B8} {nx d s m : Nat} {C : DC} (h : xB hp x = some b) (hD : DHas hp d s m C) (hn : ∀ id, nx ≤ id → hp id = none) {n : Int} (hr : sizR C.rows = some n) : XBok hp x b nx d s m C := by
  unfold xB at h
  split at h
  · rename_i n xs
    replace h := obind_inv h; obtain ⟨l, hl, h⟩ := h
    replace h := guardO_inv h; obtain ⟨hn, h⟩ := h
    obtain rfl := Option.some.inj h
    have := unW8_inv hl
    change xs = c8 l at this
    subst this; subst hn
    exact ⟨fun e => rfl, fun C' mm n2 k _ _ => rfl⟩
  · rename_i i off n e g
    replace h := guardO_inv h; obtain ⟨rfl, h⟩ := h
    replace h := obind_inv h; obtain ⟨o, ho, h⟩ := h
    cases o with
    | mapo es mt => cases h
    | cells ys mt =>
      simp only [xBo] at h
      replace h := obind_inv h; obtain ⟨l, hl, h⟩ := h
      replace h := guardO_inv h; obtain ⟨hfit, h⟩ := h
      obtain rfl := Option.some.inj h
      have hys := unW8_inv hl
      change ys = c8 l at hys
      subst hys
      have hi : i < nx := lt_of_none hn ho
      have hlen : ((l.drop off).take n).length = n := by simp; omega
      have i1 : i ≠ d := by
        intro e; subst e
        have := ho.symm.trans hD.hd
        have := (AO.cells.inj (Option.some.inj this)).1
        cases l with
        | nil => cases this
        | cons a r => cases (List.cons.inj this).1
      have i2 : i ≠ s := by
        intro e; subst e
        have := ho.symm.trans hD.hs
        have := (AO.cells.inj (Option.some.inj this)).1
        obtain ⟨rows, g, dirty, cut, dead⟩ := C
        cases rows with
        | nil => cases hr
        | cons b rows =>
          cases l with
          | nil => cases this
          | cons a r => cases (List.cons.inj this).1
      have i3 : i ≠ m := by
        intro e; subst e
        have := ho.symm.trans hD.hm
        cases this
      refine ⟨fun e => by rw [hlen]; rfl, fun C' mm n2 k hm hn2 => ?_⟩
      have h5 : hsel mm n2 k (setD d s m C' hp) i = some (.cells (c8 l) mt) := by
        rw [← ho, ← setD_app hp d s m C' i i1 i2 i3]
        rcases Nat.lt_or_ge mm 2 with h6 | h6
        · obtain rfl : mm = 0 := by omega
          rfl
        · exact hsel_lt mm n2 k i _ h6 (by omega)
      rw [im4_os, h5, obind_some, imO_c]
      rw [guardO_true _ (by rw [c8_len]; omega), c8_drop, Nat.mul_one, c8_take, immL, if_pos (c8_noOwn _), obind_some, hlen]
  · cases h
def wrV (C : DC) (i : Int) (b : List B8) (n : Int) : Int × DC :=
  if atV C i = 0 then (if (b.length : Int) = n then (if (pwV C).1 = 0 then (0, { (pwV C).2 with dirty := putK i b (pwV C).2.dirty }) else pwV C) else (81, C)) else (atV C i, C)
noncomputable def wrG : List AV → H → Nat → Option (AV × H × Nat)
  | [.op d 0, .i i, x], hp, nx => obind (dskOf hp d) fun t => obind (xB hp x) fun b => obind (sizR t.C.rows) fun n => guardO (0 < n ∧ n ≤ 1000000) (some (.i (wrV t.C i b n).1, setD d t.s t.m (wrV t.C i b n).2 hp, nx + 400))
  | _, _, _ => none
theorem wrG_eq (d : Nat) (i : Int) (x : AV) (hp : H) (nx : Nat) : wrG [.op d 0, .i i, x] hp nx = obind (dskOf hp d) fun t => obind (xB hp x) fun b => obind (sizR t.C.rows) fun n => guardO (0 < n ∧ n ≤ 1000000) (some (.i (wrV t.C i b n).1, setD d t.s t.m (wrV t.C i b n).2 hp, nx + 400)) := (rfl)
attribute [go_sem] wrG_eq
set_option maxHeartbeats 1000000 in
theorem wr_ok : HeapOK Try.prog GLh 10 wrG := by
  refine heap_of_awp Try.func10 (bodyOf_some rfl) ?_
  intro args hp nx r hp' nx' hg
  unfold wrG at hg
  split at hg
  · rename_i d i x
    replace hg := obind_inv hg; obtain ⟨⟨s, m, C⟩, hD0, hg⟩ := hg
    have hD := dskOf_inv hD0
    replace hg := obind_inv hg; obtain ⟨b, hb, hg⟩ := hg
    replace hg := obind_inv hg; obtain ⟨n, hn, hg⟩ := hg
    replace hg := guardO_inv hg; obtain ⟨⟨hn0, hn1⟩, hg⟩ := hg
    simp only [Option.some.injEq, Prod.mk.injEq] at hg hD hn; obtain ⟨rfl, rfl, rfl⟩ := hg
    refine ⟨Nat.le_of_ble_eq_true rfl, by omega, fun hnone => ?_⟩
    have h1 := hD.hd; have h2 := hD.hs; have h3 := hD.hm
    obtain ⟨n1, n2, n3, n4, n5, n6⟩ := hD.ne
    have hlt : ∀ k o, hp k = some o → k < nx := fun k o hk => lt_of_none hnone hk
    have hd := hlt _ _ h1
    have hs := hlt _ _ h2
    have hm := hlt _ _ h3
    obtain ⟨x1, x2⟩ := xB_ok hb hD hnone hn
    refine awp_seqP rfl ?_
    refine awp_regP (Γ := noEnv) [0, 1, 2] (noEnv_ok _ _) rfl rfl rfl (fun K hK => ?_)
    simp (disch := omega) only [Try.f10, go_sem, Nat.reduceAdd, ↓reduceIte]
    refine hK _ ?_
    clear hK K
    refine nx_then ?_
    refine awp_seqP rfl ?_
    refine awp_seqP rfl ?_
    refine awp_regP (Γ := envL [(21, .heap atG)]) [0, 1, 2, 7] (envOK_cons ok21 envOK_nil) rfl rfl rfl (fun K hK => ?_)
    simp (disch := omega) only [Try.f10, go_sem, Nat.reduceAdd, ↓reduceIte, hD0]
    refine hK _ ?_
    clear hK K
    refine nx_then ?_
    refine awp_seqP rfl ?_
    refine awp_regP (Γ := noEnv) [13, 0, 1, 2, 7] (noEnv_ok _ _) rfl rfl rfl (fun K hK => ?_)
    simp (disch := omega) only [Try.f10, go_sem, Nat.reduceAdd, ↓reduceIte]
    refine hK _ ?_
    clear hK K
    refine nx_then ?_
    refine awp_ifE (.tmp 13) rfl rfl rfl (fun h => ?_) (fun h => ?_)
    · skip
      refine awp_drop rfl ?_
      have e : wrV C i b n = (atV C i, C) := if_neg h
      rw [e]
      refine awp_seqP rfl ?_
      refine awp_regP (Γ := noEnv) [6] (noEnv_ok _ _) rfl rfl rfl (fun K hK => ?_)
      simp (disch := omega) only [Try.f10, go_sem, Nat.reduceAdd, ↓reduceIte]
      refine hK _ ?_
      clear hK K
      refine nx_then ?_
      refine awp_retP rfl ?_
      refine nx_ret_then ?_
      refine ⟨rfl, ?_, by simp only; omega⟩
      rw [setD_same hD]; exact fun j o h => h
    · skip
      refine awp_drop rfl ?_
      have h0 := h
      refine awp_skipP rfl ?_
      refine nx_then ?_
      refine awp_seqP rfl ?_
      refine awp_seqP rfl ?_
      refine awp_regP (Γ := envL [(9, .heap sizG)]) [19, 0, 1, 2] (envOK_cons ok9 envOK_nil) rfl rfl rfl (fun K hK => ?_)
      simp (disch := omega) only [Try.f10, go_sem, Nat.reduceAdd, ↓reduceIte, hD0, x1, hn]
      refine hK _ ?_
      clear hK K
      refine nx_then ?_
      refine awp_ifE (.tmp 19) rfl rfl rfl (fun h => ?_) (fun h => ?_)
      · skip
        refine awp_drop rfl ?_
        have e : wrV C i b n = (81, C) := by unfold wrV; rw [if_pos h0, if_neg h]
        rw [e]
        refine awp_seqP rfl ?_
        refine awp_regP (Γ := noEnv) [6] (noEnv_ok _ _) rfl rfl rfl (fun K hK => ?_)
        simp (disch := omega) only [Try.f10, go_sem, ↓reduceIte]
        refine hK _ ?_
        clear hK K
        refine nx_then ?_
        refine awp_retP rfl ?_
        refine nx_ret_then ?_
        refine ⟨rfl, ?_, by simp only; omega⟩
        rw [setD_same hD]; exact fun j o h => h
      · skip
        refine awp_drop rfl ?_
        have h4 := h
        refine awp_skipP rfl ?_
        refine nx_then ?_
        refine awp_seqP rfl ?_
        refine awp_seqP rfl ?_
        refine awp_regP (Γ := envL [(22, .heap pwG)]) [0, 1, 2, 8] (envOK_cons ok22 envOK_nil) rfl rfl rfl (fun K hK => ?_)
        simp (disch := omega) only [Try.f10, go_sem, Nat.reduceAdd, ↓reduceIte, hD0]
        refine hK _ ?_
        clear hK K
        refine nx_then ?_
        refine awp_seqP rfl ?_
        refine awp_regP (Γ := noEnv) [23, 0, 1, 2, 8] (noEnv_ok _ _) rfl rfl rfl (fun K hK => ?_)
        simp (disch := omega) only [Try.f10, go_sem, Nat.reduceAdd, ↓reduceIte]
        refine hK _ ?_
        clear hK K
        refine nx_then ?_
        refine awp_ifE (.tmp 23) rfl rfl rfl (fun h => ?_) (fun h => ?_)
        · skip
          refine awp_drop rfl ?_
          have e : wrV C i b n = pwV C := by unfold wrV; rw [if_pos h0, if_pos h4, if_neg h]
          rw [e]
          refine awp_seqP rfl ?_
          refine awp_regP (Γ := noEnv) [6] (noEnv_ok _ _) rfl rfl rfl (fun K hK => ?_)
          simp (disch := omega) only [Try.f10, go_sem, Nat.reduceAdd, ↓reduceIte]
          refine hK _ ?_
          clear hK K
          refine nx_then ?_
          refine awp_retP rfl ?_
          refine nx_ret_then ?_
          exact ⟨rfl, fun j o h => h, by simp only; omega⟩
        · skip
          refine awp_drop rfl ?_
          have e : wrV C i b n = (0, { (pwV C).2 with dirty := putK i b (pwV C).2.dirty }) := by unfold wrV; rw [if_pos h0, if_pos h4, if_pos h]
          rw [e]
          have e3 : (c8 b).take b.length = c8 b := List.take_of_length_le (by rw [c8_len]; exact Nat.le_refl _)
          generalize (pwV C).2 = C2
          refine awp_skipP rfl ?_
          refine nx_then ?_
          refine awp_seqP rfl ?_
          refine awp_drwP (Γ := envL [(23, .fresh true cloneG)]) (fun _ => 2) [] mixed (envOK_cons ok23 envOK_nil) rfl rfl rfl (by kernel_rfl) (fun K hK => ?_)
          simp (disch := omega) only [Try.f10, go_sem, Nat.reduceAdd, Nat.reduceLT, ↓reduceIte, List.drop_succ_cons, List.drop_zero, List.head?_cons, x2, cloneG_c8 b _ rfl (by omega), encD_put2, Nat.mul_one, Nat.zero_add, e3, c8_len]
          refine hK _ ?_
          clear hK K
          refine nx_then ?_
          refine awp_seqP rfl ?_
          refine awp_regP (Γ := noEnv) [6] (noEnv_ok _ _) rfl rfl rfl (fun K hK => ?_)
          simp (disch := omega) only [Try.f10, go_sem, ↓reduceIte]
          refine hK _ ?_
          clear hK K
          refine nx_then ?_
          refine awp_retP rfl ?_
          refine ⟨rfl, setD_mono fun j o hj => ?_, by simp only; omega⟩
          have := hlt j o hj
          simp (disch := omega) only [upd_apply, if_neg]
          exact hj
  · cases hg
theorem ok10 : EntOK Try.prog GLh 10 (.heap wrG) := ⟨⟨_, Try.func10, rfl, rfl⟩, wr_ok⟩
end Go.AX

namespace Go.AX
open Go Go.Proofs

theorem rep_z (n : Nat) : rep n [.w8 0#8] = c8 (List.replicate n 0#8) := by
  induction n with
  | zero => rfl
  | succ n ih => unfold rep at ih ⊢; rw [List.replicate_succ, List.flatten_cons, ih]; rfl
def zrow (z : Int) : List B8 := List.replicate (wit z 64 4096).toNat 0#8
theorem wit_le (x : Int) (lo hi : Int) (h : lo ≤ hi) : lo ≤ wit x lo hi ∧ wit x lo hi ≤ hi := by
  unfold wit; split <;> split <;> omega
def nwC (n z : Int) : DC := ⟨List.replicate (wit n 1 4096).toNat (zrow z), true, [], -1, false⟩
def newG : List AV → H → Nat → Option (AV × H × Nat)
  | [.i n, .i z], hp, nx => some (.op (nx + 3) 0, setD (nx + 3) (nx + 16 * (wit n 1 4096).toNat + 3) (nx + 1) (nwC n z) hp, nx + 16 * (wit n 1 4096).toNat + 50)
  | _, _, _ => none
theorem newG_eq (n z : Int) (hp : H) (nx : Nat) : newG [.i n, .i z] hp nx = some (.op (nx + 3) 0, setD (nx + 3) (nx + 16 * (wit n 1 4096).toNat + 3) (nx + 1) (nwC n z) hp, nx + 16 * (wit n 1 4096).toNat + 50) := (rfl)
attribute [go_sem] newG_eq
def sidN (nx k : Nat) : Nat := match k with | 0 => nx + 8 | k + 1 => nx + 16 * k + 19
def kC (z : Int) (k : Nat) : DC := ⟨List.replicate k (zrow z), true, [], -1, false⟩
theorem kC_rows (z : Int) (k : Nat) : (kC z k).rows = List.replicate k (zrow z) := (rfl)
theorem kC_g (z : Int) (k : Nat) : (kC z k).g = true := (rfl)
theorem sidN_lt (nx k : Nat) : nx + 8 ≤ sidN nx k ∧ sidN nx k < nx + 9 + 16 * k := by
  unfold sidN; split <;> omega
set_option maxHeartbeats 1000000 in
theorem new_ok : HeapOK Try.prog GLh 7 newG := by
  refine heap_of_awp Try.func7 (bodyOf_some rfl) ?_
  intro args hp nx r hp' nx' hg
  unfold newG at hg
  split at hg
  · rename_i n z
    simp only [Option.some.injEq, Prod.mk.injEq] at hg; obtain ⟨rfl, rfl, rfl⟩ := hg
    refine ⟨Nat.le_of_ble_eq_true rfl, by omega, fun hnone => ?_⟩
    have hlt : ∀ k o, hp k = some o → k < nx := fun k o hk => lt_of_none hnone hk
    obtain ⟨w1, w2⟩ := wit_le n 1 4096 (by omega)
    obtain ⟨w3, w4⟩ := wit_le z 64 4096 (by omega)
    obtain ⟨N, hN⟩ : ∃ N : Nat, wit n 1 4096 = N := ⟨(wit n 1 4096).toNat, by omega⟩
    obtain ⟨Z, hZ⟩ : ∃ Z : Nat, wit z 64 4096 = Z := ⟨(wit z 64 4096).toNat, by omega⟩
    have hz : zrow z = List.replicate Z 0#8 := by unfold zrow; rw [hZ, Int.toNat_natCast]
    have hzl : (zrow z).length = Z := by rw [hz, List.length_replicate]
    unfold nwC
    rw [hN, Int.toNat_natCast]
    rw [hN] at w1 w2
    rw [hZ] at w3 w4
    refine awp_seqP rfl ?_
    refine awp_regP (Γ := noEnv) [0, 1] (noEnv_ok _ _) rfl rfl rfl (fun K hK => ?_)
    simp (disch := omega) only [Try.f7, go_sem, Int.reduceNeg, ↓reduceIte]
    refine hK _ ?_
    clear hK K
    refine nx_then ?_
    refine awp_seqP rfl ?_
    refine awp_regP (Γ := noEnv) [0, 1, 5] (noEnv_ok _ _) rfl rfl rfl (fun K hK => ?_)
    simp (disch := omega) only [Try.f7, go_sem, Nat.reduceAdd, Nat.reduceLeDiff, Int.reduceNeg, ↓reduceIte]
    refine hK _ ?_
    clear hK K
    refine nx_then ?_
    refine awp_seqP rfl ?_
    refine awp_seqP rfl ?_
    refine awp_regP (Γ := envL [(20, .pure true witG)]) [1, 5, 10, 11] (envOK_cons ok20 envOK_nil) rfl rfl rfl (fun K hK => ?_)
    simp (disch := omega) only [Try.f7, go_sem, Nat.reduceAdd, Int.reduceNeg, ↓reduceIte, hN]
    refine hK _ ?_
    clear hK K
    refine nx_then ?_
    refine awp_ownC (nx + 3) 1 [] [.mp (nx + 1), .i (-1), .b false] true (by simp (disch := omega) only [up_app, ↓reduceIte, eq_self]; rfl) (by omega) ?_
    refine awp_blockN 0 rfl rfl ?_
    refine awp_loopP (fun k : Nat => { fr := [(1, .i z), (5, .op (nx + 3) 0), (10, .i N), (11, .i k)], hp := setD (nx + 3) (sidN nx k) (nx + 1) (kC z k) hp, nx := 0, cx := nx + 9 + 16 * k }) (fun k => k ≤ N) (fun k => N - k) rfl ?_ ?_
    rotate_left
    rintro k hk n0
    simp only at hk ⊢
    refine awp_seqP rfl ?_
    refine awp_regP (Γ := noEnv) [12, 1, 5, 10, 11] (noEnv_ok _ _) rfl rfl rfl (fun K hK => ?_)
    simp (disch := omega) only [Try.f7, go_sem, Int.reduceNeg, ↓reduceIte]
    refine hK _ ?_
    clear hK K
    refine nx_then ?_
    refine awp_seqP rfl ?_
    refine awp_ifD (.tmp 12) rfl rfl rfl (fun h => ?_) (fun h => ?_)
    · skip
      refine awp_drop rfl ?_
      obtain ⟨hs1, hs2⟩ := sidN_lt nx k
      refine awp_skipP rfl ?_
      refine nx_then ?_
      refine awp_seqP rfl ?_
      refine awp_blockN 1 rfl rfl ?_
      refine awp_drwP (Γ := envL [(20, .pure true witG)]) (fun k => if k = 9 then 770 else 2) [1, 5, 10, 11] mixed (envOK_cons ok20 envOK_nil) rfl rfl rfl (by kernel_rfl) (fun K hK => ?_)
      simp (disch := omega) only [Try.f7, go_sem, Nat.reduceAdd, Nat.reduceLeDiff, Nat.reduceLT, Int.reduceNeg, ↓reduceIte, rep_z, hZ, Int.toNat_natCast, List.drop_zero, List.head?_cons, kC_rows, kC_g, List.length_replicate, c8_len, Nat.mul_one, Nat.zero_add, List.length_map, List.take_replicate, Nat.min_self, storeL_1]
      refine hK _ ?_
      clear hK K
      refine nx_blk (nx_then ?_)
      refine awp_regP (Γ := noEnv) [1, 5, 10, 11] (noEnv_ok _ _) rfl rfl rfl (fun K hK => ?_)
      simp (disch := omega) only [Try.f7, go_sem, Nat.reduceAdd, Int.reduceNeg, ↓reduceIte]
      refine hK _ ?_
      clear hK K
      refine nx_loop ?_
      have e5 : nx + 9 + 16 * k + 1 + 9 = sidN nx (k + 1) := by simp only [sidN]; omega
      have hs3 := (sidN_lt nx (k + 1)).1
      rw [e5]
      refine ⟨k + 1, by omega, by omega, ⟨fun _ => .inr ?_, fun j o hj => setD_sub (C := kC z (k + 1)) (s := sidN nx (k + 1)) ?_ ?_ ?_ ?_ j o hj, by simp only; omega⟩⟩
      · simp only [Int.natCast_add, Int.natCast_one]
      · simp [upd_apply, kC]
      · simp only []
        rw [upd_apply, if_neg (by omega), upd_apply, if_pos rfl, kC_rows, List.replicate_succ', List.map_append, List.map_singleton, encR, hzl, hz]
      · simp only []
        rw [upd_apply, if_neg (by omega), upd_apply, if_neg (by omega), del_apply, if_neg (by omega), setD_m _ _ _ _ _ (by omega)]; rfl
      · intro j o j1 j2 j3 hj
        have := hlt j o hj
        simp only [upd_apply, del_apply]
        rw [if_neg (by omega), if_neg (by omega), if_neg (by omega), setD_app _ _ _ _ _ _ (by omega) (by omega) (by omega)]
        simp only [upd_apply]
        rw [if_neg (by omega), if_neg (by omega), if_neg (by omega)]; exact hj
    · skip
      refine awp_drop rfl ?_
      refine awp_exitN 0 rfl rfl ?_
      refine nx_ex_then (nx_ex_loop (nx_ex_blk ?_))
      refine nx_then ?_
      refine awp_seqP rfl ?_
      obtain rfl : k = N := by omega
      refine awp_regP (Γ := noEnv) [4] (noEnv_ok _ _) rfl rfl rfl (fun K hK => ?_)
      simp (disch := omega) only [Try.f7, go_sem, Nat.reduceAdd, Int.reduceNeg, ↓reduceIte]
      refine hK _ ?_
      clear hK K
      refine nx_then ?_
      refine awp_retP rfl ?_
      refine ⟨rfl, ?_, by simp only; omega⟩
      have e6 : nx + 16 * k + 3 = sidN nx k := by
        cases k with
        | zero => omega
        | succ k => simp only [sidN]; omega
      rw [e6]
      exact fun j o h => h
    · refine ⟨0, Nat.zero_le _, ⟨fun _ => .inr rfl, fun j o hj => ?_, by simp only; omega⟩⟩
      refine setD_sub (C := kC z 0) (s := sidN nx 0) ?_ ?_ ?_ ?_ j o hj
      · simp only [upd_apply, if_true]; rfl
      · simp [upd_apply, sidN, kC]
      · simp only [upd_apply]; rw [if_neg (by omega), if_neg (by omega), if_neg (by omega), if_true]; rfl
      · intro k o k1 k2 k3 hk
        have := hlt k o hk
        simp only [upd_apply]
        rw [if_neg (by omega), if_neg (by omega), if_neg (by omega), if_neg (by omega)]; exact hk
  · cases hg
theorem ok7 : EntOK Try.prog GLh 7 (.heap newG) := ⟨⟨_, Try.func7, rfl, rfl⟩, new_ok⟩
end Go.AX
