/-
  Keys, part M: the document's ring in memory; found, made. Keys, part N: keys whose DS was seen. Keys, part O: the document's keys turned. Rolls, part A: sums of times; numbers held against one another; settings. Rolls, part B: the keys of a role. Rolls, part C: rows of keys cloned; keys struck out of them; the keys of a role. Rolls, part D: which keys sign; what is due. Rolls, part E: all that is due. Rolls, part F: what is due first. Rolls, part G: one key turned, and told.
-/
import Derived.Test.YthemkfbedajmpaaBE
namespace Go.AX
open Go Go.Proofs
set_option maxRecDepth 8000

theorem kysC_inj : ∀ {a b : List KY}, kysC a = kysC b → a = b
  | [], [], _ => rfl
  | [], y :: s, h => by have := congrArg List.length h; rw [kysC_len, kysC_len] at this; simp at this
  | x :: r, [], h => by have := congrArg List.length h; rw [kysC_len, kysC_len] at this; simp at this
  | x :: r, y :: s, h => by
    rw [kysC, kysC] at h
    obtain ⟨h1, h2⟩ := List.append_inj h rfl
    rw [kyC_inj h1, kysC_inj h2]
/-- The document's ring: settings, where its roots are, keys, the last number. -/
structure MC where
  c : CF
  q : Nat
  L : List KY
  last : W32
def mgC (l : Nat) (M : MC) : List AV := [.sl M.c.apx.length (cS M.c.apx), .w32 M.c.kt, .w32 M.c.pr, .w32 M.c.dt, .w32 M.c.dp, .w32 M.c.va, .w32 M.c.le, .w32 M.c.ga, .w32 M.c.mx, .sl M.c.salt.length (c8 M.c.salt), .w16 M.c.iter, .i M.c.h, .w16 M.c.size, .op M.q 0, .os l 0 M.L.length 15 true, .w32 M.last]
theorem mgC_eq (l : Nat) (M : MC) : mgC l M = [.sl M.c.apx.length (cS M.c.apx), .w32 M.c.kt, .w32 M.c.pr, .w32 M.c.dt, .w32 M.c.dp, .w32 M.c.va, .w32 M.c.le, .w32 M.c.ga, .w32 M.c.mx, .sl M.c.salt.length (c8 M.c.salt), .w16 M.c.iter, .i M.c.h, .w16 M.c.size, .op M.q 0, .os l 0 M.L.length 15 true, .w32 M.last] := rfl
theorem mgC_inj {l l' : Nat} {M M' : MC} (h : mgC l M = mgC l' M') : l = l' ∧ M.c = M'.c ∧ M.q = M'.q ∧ M.last = M'.last := by
  have e : mgC l M = cfC M.c ++ [.op M.q 0, .os l 0 M.L.length 15 true, .w32 M.last] := rfl
  have e' : mgC l' M' = cfC M'.c ++ [.op M'.q 0, .os l' 0 M'.L.length 15 true, .w32 M'.last] := rfl
  rw [e, e'] at h
  obtain ⟨h1, h2⟩ := List.append_inj h rfl
  simp only [List.cons.injEq, AV.op.injEq, AV.os.injEq, AV.w32.injEq, and_true, true_and] at h2
  exact ⟨h2.2.1.1, cfC_inj h1, h2.1, h2.2.2⟩
structure MHas (hp : H) (d l : Nat) (M : MC) : Prop where
  hd : hp d = some (.cells (mgC l M) true)
  hl : hp l = some (.cells (kysC M.L) true)
  ne : d ≠ l ∧ l ≠ d
def setM (d l : Nat) (M : MC) (hp : H) : H := upd (upd hp l (.cells (kysC M.L) true)) d (.cells (mgC l M) true)
theorem MHas.uniq {hp : H} {d l l' : Nat} {M M' : MC} (h : MHas hp d l M) (h' : MHas hp d l' M') : l = l' ∧ M = M' := by
  have e := h.hd.symm.trans h'.hd
  obtain ⟨rfl, ec, eq, el⟩ := mgC_inj (AO.cells.inj (Option.some.inj e)).1
  have eb := kysC_inj (AO.cells.inj (Option.some.inj (h.hl.symm.trans h'.hl))).1
  obtain ⟨c1, q1, b1, l1⟩ := M
  obtain ⟨c2, q2, b2, l2⟩ := M'
  simp only at ec eq el eb
  subst ec; subst eq; subst el; subst eb
  exact ⟨rfl, rfl⟩
structure MT where
  l : Nat
  M : MC
open Classical in
noncomputable def mrgOf (hp : H) (d : Nat) : Option MT := if h : ∃ t : MT, MHas hp d t.l t.M then some (Classical.choose h) else none
theorem mrgOf_has {hp : H} {d l : Nat} {M : MC} (h : MHas hp d l M) : mrgOf hp d = some ⟨l, M⟩ := by
  have hx : ∃ t : MT, MHas hp d t.l t.M := ⟨⟨l, M⟩, h⟩
  unfold mrgOf
  rw [dif_pos hx]
  have h2 := Classical.choose_spec hx
  obtain ⟨e1, e2⟩ := h2.uniq h
  congr 1
  generalize Classical.choose hx = t at e1 e2
  cases t; simp only at e1 e2; rw [e1, e2]
theorem mrgOf_inv {hp : H} {d : Nat} {t : MT} (h : mrgOf hp d = some t) : MHas hp d t.l t.M := by
  unfold mrgOf at h
  split at h
  · rename_i hx
    obtain rfl := Option.some.inj h
    exact Classical.choose_spec hx
  · cases h
theorem setM_has {hp : H} {d l : Nat} {M : MC} (h1 : d ≠ l) : MHas (setM d l M hp) d l M :=
  ⟨by simp [setM, upd_apply], by simp [setM, upd_apply, Ne.symm h1], ⟨h1, Ne.symm h1⟩⟩
theorem mrg_set (hp : H) (d l : Nat) (M : MC) (h1 : d ≠ l) : mrgOf (setM d l M hp) d = some ⟨l, M⟩ := mrgOf_has (setM_has h1)
theorem setM_set (hp : H) (d l : Nat) (M M' : MC) : setM d l M' (setM d l M hp) = setM d l M' hp := by
  funext k
  simp only [setM, upd_apply]
  by_cases h1 : k = d
  · simp [h1]
  · by_cases h2 : k = l
    · simp [h2]
    · simp [h1, h2]
theorem setM_app (hp : H) (d l : Nat) (M : MC) (k : Nat) (h1 : k ≠ d) (h2 : k ≠ l) : setM d l M hp k = hp k := by simp [setM, upd_apply, h1, h2]
theorem setM_upd (hp : H) (d l : Nat) (M : MC) (k : Nat) (o : AO) (h1 : k ≠ d) (h2 : k ≠ l) : upd (setM d l M hp) k o = setM d l M (upd hp k o) := by
  funext j
  simp only [setM, upd_apply]
  by_cases e : j = k
  · subst e; simp [h1, h2]
  · simp [e]
theorem setM_del (hp : H) (d l : Nat) (M : MC) (k : Nat) (h1 : k ≠ d) (h2 : k ≠ l) : del (setM d l M hp) k = setM d l M (del hp k) := by
  funext j
  simp only [setM, upd_apply, del_apply]
  by_cases e : j = k
  · subst e; simp [h1, h2]
  · simp [e]
theorem setM_same {hp : H} {d l : Nat} {M : MC} (h : MHas hp d l M) : setM d l M hp = hp := by
  funext k
  simp only [setM, upd_apply]
  by_cases h1 : k = d
  · subst h1; rw [if_pos rfl, h.hd]
  · rw [if_neg h1]
    by_cases h2 : k = l
    · subst h2; rw [if_pos rfl, h.hl]
    · rw [if_neg h2]
theorem setM_sub {hp t : H} {d l : Nat} {M : MC} (h1 : t d = some (.cells (mgC l M) true)) (h2 : t l = some (.cells (kysC M.L) true))
    (h : ∀ k o, k ≠ d → k ≠ l → hp k = some o → t k = some o) (k : Nat) (o : AO) (hk : setM d l M hp k = some o) : t k = some o := by
  simp only [setM, upd_apply] at hk
  by_cases e1 : k = d
  · subst e1; rw [if_pos rfl] at hk; rw [h1]; exact hk
  · rw [if_neg e1] at hk
    by_cases e2 : k = l
    · subst e2; rw [if_pos rfl] at hk; rw [h2]; exact hk
    · rw [if_neg e2] at hk; exact h k o e1 e2 hk
theorem setM_mono {hp hp2 : H} {d l : Nat} {M : MC} (h : ∀ j o, hp j = some o → hp2 j = some o) (k : Nat) (o : AO) (hk : setM d l M hp k = some o) : setM d l M hp2 k = some o := by
  simp only [setM, upd_apply] at hk ⊢
  by_cases e1 : k = d
  · rw [if_pos e1] at hk ⊢; exact hk
  · rw [if_neg e1] at hk ⊢
    by_cases e2 : k = l
    · rw [if_pos e2] at hk ⊢; exact hk
    · rw [if_neg e2] at hk ⊢; exact h k o hk
attribute [go_sem] mrg_set setM_set setM_app setM_upd setM_del
/-- Key k of a row. -/
def kyA (L : List KY) (k : Nat) : KY := L.getD k ky0
theorem kys_drop : ∀ (L : List KY) (k j : Nat), k < L.length → List.drop (15 * k + j) (kysC L) = List.drop j (kyC (kyA L k) ++ kysC (L.drop (k + 1)))
  | [], k, j, h => by simp at h
  | x :: r, 0, j, _ => by simp [kysC, kyA]
  | x :: r, k + 1, j, h => by
    have e : 15 * (k + 1) + j = 15 + (15 * k + j) := by omega
    have h15 : (kyC x).length = 15 := rfl
    rw [kysC, e, ← List.drop_drop, List.drop_left' h15, kys_drop r k j (by simpa using h)]
    simp [kyA]
theorem kys_at (L : List KY) (k j : Nat) (hk : k < L.length) (hj : j < 15) : (List.drop (15 * k + j) (kysC L)).head? = (List.drop j (kyC (kyA L k))).head? := by
  rw [kys_drop L k j hk, List.drop_append_of_le_length (by show j ≤ 15; omega)]
  have : (List.drop j (kyC (kyA L k))) ≠ [] := by
    intro e
    have := congrArg List.length e
    rw [List.length_drop] at this
    have h15 : (kyC (kyA L k)).length = 15 := rfl
    rw [h15] at this
    simp at this; omega
  rw [List.head?_append]
  cases hx : List.drop j (kyC (kyA L k)) with
  | nil => exact absurd hx this
  | cons a r => rfl

/-- Where a number stands. -/
def fdN (id : W32) : List KY → Nat → Int
  | [], _ => -1
  | k :: r, n => if k.id = id then n else fdN id r (n + 1)
def findV (L : List KY) (id : W32) : Int := fdN id L 0
theorem fdN_step (id : W32) (L : List KY) (k : Nat) (hk : k < L.length) : fdN id (L.drop k) k = if (kyA L k).id = id then (k : Int) else fdN id (L.drop (k + 1)) (k + 1) := by
  rw [List.drop_eq_getElem_cons hk]
  have e : kyA L k = L[k] := by simp [kyA, List.getD_eq_getElem?_getD, hk]
  rw [e, fdN]
noncomputable def findG : List AV → H → Nat → Option (AV × H × Nat)
  | [.op d 0, .w32 id], hp, nx => obind (mrgOf hp d) fun t => guardO (t.M.L.length ≤ 1000) (some (.i (findV t.M.L id), hp, nx + 50 + 60 * t.M.L.length))
  | _, _, _ => none
theorem findG_eq (d : Nat) (id : W32) (hp : H) (nx : Nat) : findG [.op d 0, .w32 id] hp nx = obind (mrgOf hp d) fun t => guardO (t.M.L.length ≤ 1000) (some (.i (findV t.M.L id), hp, nx + 50 + 60 * t.M.L.length)) := (rfl)
attribute [go_sem] findG_eq
set_option maxHeartbeats 1000000 in
theorem find_ok : HeapOK Try.prog GLh 29 findG := by
  refine heap_of_awp Try.func29 (bodyOf_some rfl) ?_
  intro args hp nx r hp' nx' hg
  unfold findG at hg
  split at hg
  · rename_i d id
    replace hg := obind_inv hg; obtain ⟨⟨l, M⟩, hD0, hg⟩ := hg
    have hD := mrgOf_inv hD0
    replace hg := guardO_inv hg; obtain ⟨hlen, hg⟩ := hg
    simp only [Option.some.injEq, Prod.mk.injEq] at hg hD hlen; obtain ⟨rfl, rfl, rfl⟩ := hg
    refine ⟨Nat.le_of_ble_eq_true rfl, by omega, fun hnone => ?_⟩
    have h1 := hD.hd; have h2 := hD.hl
    obtain ⟨n1, n2⟩ := hD.ne
    have hd := lt_of_none2 hnone h1
    have hl := lt_of_none2 hnone h2
    have hkl := kysC_len M.L
    refine awp_seqP rfl ?_
    refine awp_regP (Γ := noEnv) [0, 1] (noEnv_ok _ _) rfl rfl rfl (fun K hK => ?_)
    simp (disch := omega) only [Try.f29, go_sem, Int.reduceNeg, ↓reduceIte]
    refine hK _ ?_
    clear hK K
    refine nx_then ?_
    refine awp_seqP rfl ?_
    refine awp_seqP rfl ?_
    refine awp_regP (Γ := noEnv) [0, 1, 5] (noEnv_ok _ _) rfl rfl rfl (fun K hK => ?_)
    simp (disch := omega) only [Try.f29, go_sem, Int.reduceNeg, ↓reduceIte]
    refine hK _ ?_
    clear hK K
    refine nx_then ?_
    refine awp_blockN 0 rfl rfl ?_
    refine awp_loopP (fun g : Nat => { fr := [(0, .op d 0), (1, .w32 id), (5, .i g)], hp := hp, nx := 0, cx := nx + 40 + 50 * g }) (fun g => g ≤ M.L.length ∧ findV M.L id = fdN id (M.L.drop g) g) (fun g => M.L.length - g) rfl ⟨0, ⟨Nat.zero_le _, rfl⟩, ⟨fun _ => .inr rfl, fun j o h => h, by simp only; omega⟩⟩ ?_
    rintro g ⟨hg1, hg2⟩ n0
    simp only at hg1 hg2 ⊢
    refine awp_seqP rfl ?_
    refine awp_seqP rfl ?_
    refine awp_regP (Γ := noEnv) [12, 0, 1, 5] (noEnv_ok _ _) rfl rfl rfl (fun K hK => ?_)
    simp (disch := omega) only [Try.f29, go_sem, Nat.reduceAdd, Nat.reduceLT, Int.reduceNeg, ↓reduceIte, h1, mgC_eq, List.head?_cons, List.drop_succ_cons, List.drop_zero]
    refine hK _ ?_
    clear hK K
    refine nx_then ?_
    refine awp_ifD (.tmp 12) rfl rfl rfl (fun h => ?_) (fun h => ?_)
    · skip
      refine awp_drop rfl ?_
      have hgl : g < M.L.length := by omega
      have hst := fdN_step id M.L g hgl
      have hka := kys_at M.L g 0 hgl (by omega)
      rw [Nat.add_zero] at hka
      have e15 : g * 15 = 15 * g := by omega
      refine awp_skipP rfl ?_
      refine nx_then ?_
      refine awp_seqP rfl ?_
      refine awp_blockN 1 rfl rfl ?_
      refine awp_seqP rfl ?_
      refine awp_regP (Γ := noEnv) [24, 0, 1, 5] (noEnv_ok _ _) rfl rfl rfl (fun K hK => ?_)
      simp (disch := omega) only [Try.f29, go_sem, Nat.reduceAdd, Nat.reduceLT, Int.reduceNeg, ↓reduceIte, h1, h2, mgC_eq, hka, e15, kyC, List.head?_cons, List.drop_succ_cons, List.drop_zero]
      refine hK _ ?_
      clear hK K
      refine nx_then ?_
      refine awp_ifD (.tmp 24) rfl rfl rfl (fun h => ?_) (fun h => ?_)
      · skip
        refine awp_drop rfl ?_
        rw [if_pos h] at hst
        refine awp_seqP rfl ?_
        refine awp_regP (Γ := noEnv) [4] (noEnv_ok _ _) rfl rfl rfl (fun K hK => ?_)
        simp (disch := omega) only [Try.f29, go_sem, Nat.reduceAdd, Int.reduceNeg, ↓reduceIte]
        refine hK _ ?_
        clear hK K
        refine nx_then ?_
        refine awp_retP rfl ?_
        refine nx_ret_blk (nx_ret_then (nx_ret_loop (nx_ret_blk (nx_ret_then ?_))))
        exact ⟨by rw [hg2, hst]; rfl, fun j o h => h, by simp only; omega⟩
      · skip
        refine awp_drop rfl ?_
        rw [if_neg h] at hst
        refine awp_skipP rfl ?_
        refine nx_blk (nx_then ?_)
        refine awp_regP (Γ := noEnv) [0, 1, 5] (noEnv_ok _ _) rfl rfl rfl (fun K hK => ?_)
        simp (disch := omega) only [Try.f29, go_sem, Nat.reduceAdd, Int.reduceNeg, ↓reduceIte]
        refine hK _ ?_
        clear hK K
        refine nx_loop ?_
        exact ⟨g + 1, ⟨by omega, by rw [hg2, hst]⟩, by omega, ⟨fun _ => .inr (by simp only [Int.natCast_add, Int.natCast_one]), fun j o h => h, by simp only; omega⟩⟩
    · skip
      refine awp_drop rfl ?_
      refine awp_exitN 0 rfl rfl ?_
      refine nx_ex_then (nx_ex_loop (nx_ex_blk ?_))
      refine nx_then ?_
      refine awp_seqP rfl ?_
      obtain rfl : g = M.L.length := by omega
      rw [List.drop_length] at hg2
      refine awp_regP (Γ := noEnv) [4] (noEnv_ok _ _) rfl rfl rfl (fun K hK => ?_)
      simp (disch := omega) only [Try.f29, go_sem, Int.reduceNeg, ↓reduceIte]
      refine hK _ ?_
      clear hK K
      refine nx_then ?_
      refine awp_retP rfl ?_
      exact ⟨by rw [hg2]; rfl, fun j o h => h, by simp only; omega⟩
  · cases hg
theorem okd37 : EntOK Try.prog GLh 29 (.heap findG) := ⟨⟨_, Try.func29, rfl, rfl⟩, find_ok⟩

def mmkC (M : MC) (k : KY) : MC := { M with last := M.last + 1#32, L := M.L ++ [k] }
def mmkK (M : MC) (role : Int) (seed : S8) (st : Int) (now : W32) : KY := ⟨M.last + 1#32, role, st, seed, M.c.h, 0#32, now, 0#32⟩
/-- What Make answers: the number, the fault, and whether a key was made. -/
def mmkV (M : MC) (role : Int) (seed : S8) (st : Int) (now : W32) : W32 × Int × Option MC :=
  if (role ≠ 0 ∧ role ≠ 1) ∨ st < 0 ∨ 3 < st then (0#32, 131, none)
  else if 16 ≤ M.L.length then (0#32, 133, none)
  else (M.last + 1#32, 0, some (mmkC M (mmkK M role seed st now)))
noncomputable def mmkH (d l : Nat) (_ : MC) (hp : H) (nx : Nat) : Option MC → H
  | none => hp
  | some M' => setM d (nx + 51) M' (del hp l)
noncomputable def mmakeG : List AV → H → Nat → Option (AV × H × Nat)
  | [.op d 0, .i role, .agg xs, .i st, .w32 now], hp, nx => obind (mrgOf hp d) fun t => obind (un8 xs) fun l => obind (s8L l) fun sd =>
      some (.tup [.w32 (mmkV t.M role sd st now).1, .i (mmkV t.M role sd st now).2.1], mmkH d t.l t.M hp nx (mmkV t.M role sd st now).2.2, nx + 100)
  | _, _, _ => none
theorem mmakeG_eq (d : Nat) (role st : Int) (now : W32) (xs : List AV) (hp : H) (nx : Nat) : mmakeG [.op d 0, .i role, .agg xs, .i st, .w32 now] hp nx = obind (mrgOf hp d) fun t => obind (un8 xs) fun l => obind (s8L l) fun sd =>
      some (.tup [.w32 (mmkV t.M role sd st now).1, .i (mmkV t.M role sd st now).2.1], mmkH d t.l t.M hp nx (mmkV t.M role sd st now).2.2, nx + 100) := (rfl)
attribute [go_sem] mmakeG_eq
theorem mmake_r1 {Q : Exit → S → Prop} {fr0 : AV} {role st : Int} {now : W32} {x7 : AV} {hp : H} {nx cx : Nat} (hQ : Q .normal { fr := [(25, .b (decide ((role ≠ 0 ∧ role ≠ 1) ∨ st < 0 ∨ 3 < st))), (0, fr0), (1, .i role), (3, .i st), (4, .w32 now), (7, x7)], hp := hp, nx := cx, cx := cx + 14 }) :
    Awp Try.prog GLh Try.f18.ntmps (cl (cl (cr (bodyOf Try.f18)))) { fr := [(0, fr0), (1, .i role), (3, .i st), (4, .w32 now), (7, x7)], hp := hp, nx := nx, cx := cx } Q := by
  by_cases h0 : role = 0
  · have d0 : decide (role = 0) = true := decide_eq_true h0
    by_cases h2 : st < 0
    · have d2 : decide (st < 0) = true := decide_eq_true h2
      rw [decide_eq_true (by omega)] at hQ
      refine awp_regP (Γ := noEnv) [25, 0, 1, 3, 4, 7] (noEnv_ok _ _) rfl rfl rfl (fun K hK => ?_)
      simp (disch := omega) only [Try.f18, go_sem, Nat.reduceAdd, reduceCtorEq, ↓reduceIte, d0, d2, Bool.not_true, beq_self_eq_true]
      refine hK _ ?_
      clear hK K
      exact hQ
    · have d2 : decide (st < 0) = false := decide_eq_false h2
      by_cases h3 : 3 < st
      · have d3 : decide (3 < st) = true := decide_eq_true h3
        rw [decide_eq_true (by omega)] at hQ
        refine awp_regP (Γ := noEnv) [25, 0, 1, 3, 4, 7] (noEnv_ok _ _) rfl rfl rfl (fun K hK => ?_)
        simp (disch := omega) only [Try.f18, go_sem, Nat.reduceAdd, reduceCtorEq, ↓reduceIte, d0, d2, d3, Bool.not_true, beq_self_eq_true]
        refine hK _ ?_
        clear hK K
        exact hQ
      · have d3 : decide (3 < st) = false := decide_eq_false h3
        rw [decide_eq_false (by omega)] at hQ
        refine awp_regP (Γ := noEnv) [25, 0, 1, 3, 4, 7] (noEnv_ok _ _) rfl rfl rfl (fun K hK => ?_)
        simp (disch := omega) only [Try.f18, go_sem, Nat.reduceAdd, reduceCtorEq, ↓reduceIte, d0, d2, d3, Bool.not_true, beq_self_eq_true]
        refine hK _ ?_
        clear hK K
        exact hQ
  · have d0 : decide (role = 0) = false := decide_eq_false h0
    by_cases h1 : role = 1
    · have d1 : decide (role = 1) = true := decide_eq_true h1
      by_cases h2 : st < 0
      · have d2 : decide (st < 0) = true := decide_eq_true h2
        rw [decide_eq_true (by omega)] at hQ
        refine awp_regP (Γ := noEnv) [25, 0, 1, 3, 4, 7] (noEnv_ok _ _) rfl rfl rfl (fun K hK => ?_)
        simp (disch := omega) only [Try.f18, go_sem, Nat.reduceAdd, reduceCtorEq, ↓reduceIte, d0, d1, d2, Bool.not_true, Bool.not_false, beq_self_eq_true]
        refine hK _ ?_
        clear hK K
        exact hQ
      · have d2 : decide (st < 0) = false := decide_eq_false h2
        by_cases h3 : 3 < st
        · have d3 : decide (3 < st) = true := decide_eq_true h3
          rw [decide_eq_true (by omega)] at hQ
          refine awp_regP (Γ := noEnv) [25, 0, 1, 3, 4, 7] (noEnv_ok _ _) rfl rfl rfl (fun K hK => ?_)
          simp (disch := omega) only [Try.f18, go_sem, Nat.reduceAdd, reduceCtorEq, ↓reduceIte, d0, d1, d2, d3, Bool.not_true, Bool.not_false, beq_self_eq_true]
          refine hK _ ?_
          clear hK K
          exact hQ
        · have d3 : decide (3 < st) = false := decide_eq_false h3
          rw [decide_eq_false (by omega)] at hQ
          refine awp_regP (Γ := noEnv) [25, 0, 1, 3, 4, 7] (noEnv_ok _ _) rfl rfl rfl (fun K hK => ?_)
          simp (disch := omega) only [Try.f18, go_sem, Nat.reduceAdd, reduceCtorEq, ↓reduceIte, d0, d1, d2, d3, Bool.not_true, Bool.not_false, beq_self_eq_true]
          refine hK _ ?_
          clear hK K
          exact hQ
    · have d1 : decide (role = 1) = false := decide_eq_false h1
      rw [decide_eq_true (by omega)] at hQ
      refine awp_regP (Γ := noEnv) [25, 0, 1, 3, 4, 7] (noEnv_ok _ _) rfl rfl rfl (fun K hK => ?_)
      simp (disch := omega) only [Try.f18, go_sem, Nat.reduceAdd, ↓reduceIte, d0, d1, Bool.not_false, beq_self_eq_true]
      refine hK _ ?_
      clear hK K
      exact hQ
set_option maxHeartbeats 1000000 in
theorem mmake_ok : HeapOK Try.prog GLh 18 mmakeG := by
  refine heap_of_awp Try.func18 (bodyOf_some rfl) ?_
  intro args hp nx r hp' nx' hg
  unfold mmakeG at hg
  split at hg
  · rename_i d role xs st now
    replace hg := obind_inv hg; obtain ⟨⟨l, M⟩, hD0, hg⟩ := hg
    have hD := mrgOf_inv hD0
    replace hg := obind_inv hg; obtain ⟨l8, hl8, hg⟩ := hg
    have := un8_inv _ hl8; subst this
    replace hg := obind_inv hg; obtain ⟨S, hS8, hg⟩ := hg
    have := s8L_inv hS8; subst this
    have e0 : c8 S.l = [.w8 S.a, .w8 S.b, .w8 S.c, .w8 S.d, .w8 S.e, .w8 S.f, .w8 S.g, .w8 S.h] := rfl
    rw [e0]
    simp only [Option.some.injEq, Prod.mk.injEq] at hg hD; obtain ⟨rfl, rfl, rfl⟩ := hg
    refine ⟨Nat.le_of_ble_eq_true rfl, by omega, fun hnone => ?_⟩
    have h1 := hD.hd; have h2 := hD.hl
    obtain ⟨n1, n2⟩ := hD.ne
    have hlt : ∀ k o, hp k = some o → k < nx := fun k o hk => lt_of_none2 hnone hk
    have hd := hlt _ _ h1
    have hl := hlt _ _ h2
    have hkl := kysC_len M.L
    refine awp_seqP rfl ?_
    refine awp_regP (Γ := noEnv) [0, 1, 3, 4, 7] (noEnv_ok _ _) rfl rfl rfl (fun K hK => ?_)
    simp (disch := omega) only [Try.f18, go_sem, Nat.reduceAdd, Int.reduceLE, Int.reduceLT, BitVec.reduceOfInt, ↓reduceIte]
    refine hK _ ?_
    clear hK K
    refine nx_then ?_
    refine awp_seqP rfl ?_
    refine awp_seqP rfl ?_
    refine mmake_r1 ?_
    refine nx_then ?_
    refine awp_ifD (.tmp 25) rfl rfl rfl (fun h => ?_) (fun h => ?_)
    · skip
      have e : mmkV M role S st now = (0#32, 131, none) := if_pos h
      rw [e]
      refine awp_seqP rfl ?_
      refine awp_regP (Γ := noEnv) [10, 11] (noEnv_ok _ _) rfl rfl rfl (fun K hK => ?_)
      simp (disch := omega) only [Try.f18, go_sem, Nat.reduceAdd, Int.reduceLE, Int.reduceLT, BitVec.reduceOfInt, ↓reduceIte]
      refine hK _ ?_
      clear hK K
      refine nx_then ?_
      refine awp_retP rfl ?_
      refine nx_ret_then ?_
      exact ⟨rfl, fun j o h => hsub_new hnone (by omega) j o h, by simp only; omega⟩
    · skip
      have hbad := h
      clear h
      refine awp_skipP rfl ?_
      refine nx_then ?_
      refine awp_seqP rfl ?_
      refine awp_seqP rfl ?_
      refine awp_regP (Γ := noEnv) [31, 0, 1, 3, 4, 7] (noEnv_ok _ _) rfl rfl rfl (fun K hK => ?_)
      simp (disch := omega) only [Try.f18, go_sem, Nat.reduceAdd, Nat.reduceLT, ↓reduceIte, h1, mgC_eq, List.head?_cons, List.drop_succ_cons, List.drop_zero]
      refine hK _ ?_
      clear hK K
      refine nx_then ?_
      refine awp_ifD (.tmp 31) rfl rfl rfl (fun h => ?_) (fun h => ?_)
      · skip
        refine awp_drop rfl ?_
        have e : mmkV M role S st now = (0#32, 133, none) := by unfold mmkV; rw [if_neg hbad, if_pos (by omega)]
        rw [e]
        refine awp_seqP rfl ?_
        refine awp_regP (Γ := noEnv) [10, 11] (noEnv_ok _ _) rfl rfl rfl (fun K hK => ?_)
        simp (disch := omega) only [Try.f18, go_sem, Nat.reduceAdd, Int.reduceLE, Int.reduceLT, BitVec.reduceOfInt, ↓reduceIte]
        refine hK _ ?_
        clear hK K
        refine nx_then ?_
        refine awp_retP rfl ?_
        refine nx_ret_then ?_
        exact ⟨rfl, fun j o h => hsub_new hnone (by omega) j o h, by simp only; omega⟩
      · skip
        refine awp_drop rfl ?_
        have e : mmkV M role S st now = (M.last + 1#32, 0, some (mmkC M (mmkK M role S st now))) := by unfold mmkV; rw [if_neg hbad, if_neg (by omega)]
        rw [e]
        refine awp_skipP rfl ?_
        refine nx_then ?_
        refine awp_seqP rfl ?_
        refine awp_regP (Γ := noEnv) [0, 1, 3, 4, 7] (noEnv_ok _ _) rfl rfl rfl (fun K hK => ?_)
        simp (disch := omega) only [Try.f18, go_sem, Nat.reduceAdd, Nat.reduceLeDiff, Nat.reduceLT, Int.reduceLE, Int.reduceLT, BitVec.reduceOfInt, ↓reduceIte, h1, mgC_eq, List.head?_cons, List.set_cons_succ, List.set_cons_zero, List.drop_succ_cons, List.drop_zero]
        refine hK _ ?_
        clear hK K
        refine nx_then ?_
        refine awp_seqP rfl ?_
        refine awp_drwP (Γ := noEnv) (fun k => if k = 20 then 1048578 else 2) [0] mixed (noEnv_ok _ _) rfl rfl rfl (by kernel_rfl) (fun K hK => ?_)
        simp (disch := omega) only [Try.f18, go_sem, Nat.reduceAdd, Nat.reduceLeDiff, Nat.reduceLT, ↓reduceIte, h2, hkl, splice, List.nil_append, List.cons_append, List.head?_cons, List.set_cons_succ, List.set_cons_zero, List.take_succ_cons, List.take_zero, List.drop_succ_cons, List.drop_zero, List.all_cons, List.all_nil, Option.isSome_some, Bool.and_self, List.length_cons, List.length_nil]
        refine hK _ ?_
        clear hK K
        refine nx_then ?_
        refine awp_seqP rfl ?_
        refine awp_regP (Γ := noEnv) [10, 11] (noEnv_ok _ _) rfl rfl rfl (fun K hK => ?_)
        simp (disch := omega) only [Try.f18, go_sem, Nat.reduceAdd, Nat.reduceLT, ↓reduceIte, List.head?_cons, List.drop_succ_cons, List.drop_zero]
        refine hK _ ?_
        clear hK K
        refine nx_then ?_
        refine awp_retP rfl ?_
        refine ⟨rfl, fun j o hj => setM_sub (M := mmkC M (mmkK M role S st now)) (l := nx + 51) ?_ ?_ ?_ j o hj, by simp only; omega⟩
        · have e2 : (mmkC M (mmkK M role S st now)).L.length = M.L.length + 1 := by simp [mmkC]
          rw [mgC_eq, e2]
          simp only [Nat.add_assoc, Nat.reduceAdd]
          simp (disch := omega) only [up_app, ↓reduceIte, eq_self] <;> rfl
        · have e2 : kysC (mmkC M (mmkK M role S st now)).L = kysC M.L ++ kyC (mmkK M role S st now) := by
            show kysC (M.L ++ [_]) = _
            rw [kysC_app, kysC_one]
          rw [e2]
          simp only [Nat.add_assoc, Nat.reduceAdd]
          simp (disch := omega) only [up_app, nat_ne, ↓reduceIte, eq_self] <;> rfl
        · intro k o k1 k2 hk
          have hkl2 : k ≠ l ∧ hp k = some o := by
            rw [del_apply] at hk
            split at hk
            · cases hk
            · rename_i e3; exact ⟨e3, hk⟩
          obtain ⟨k3, hk3⟩ := hkl2
          have := hlt k o hk3
          simp only [Nat.add_assoc, Nat.reduceAdd]
          simp (disch := omega) only [up_app, de_app, nat_ne, ↓reduceIte]
          exact hk3
  · cases hg
theorem okd19 : EntOK Try.prog GLh 18 (.heap mmakeG) := ⟨⟨_, Try.func18, rfl, rfl⟩, mmake_ok⟩
end Go.AX

namespace Go.AX
open Go Go.Proofs
set_option maxRecDepth 8000

theorem max2_32 (a b : W32) : max2A (.w32 a) (.w32 b) = some (.w32 (if a < b then b else a)) := (rfl)
attribute [go_sem] max2_32
def mx1 (x : W32) : W32 := if x < 1#32 then 1#32 else x
def snC (C : RC) (id : W32) (k : KY) (now : W32) : RC := { C with by' := putK id { k with seen := mx1 now } C.by' }
def snV (C : RC) (id now : W32) : Int × RC := match getK id C.by' with
  | none => (130, C)
  | some k => if k.role ≠ 1 ∨ k.st ≠ 2 ∨ k.seen ≠ 0#32 then (131, C) else (0, snC C id k now)
theorem snV_n {C : RC} {id now : W32} (h : getK id C.by' = none) : snV C id now = (130, C) := by rw [snV, h]
theorem snV_y {C : RC} {id now : W32} {k : KY} (h : getK id C.by' = some k) : snV C id now = if k.role ≠ 1 ∨ k.st ≠ 2 ∨ k.seen ≠ 0#32 then (131, C) else (0, snC C id k now) := by rw [snV, h]
theorem ROk.snV {C : RC} (h : ROk C) (id now : W32) : ROk (snV C id now).2 := by
  rcases hk : getK id C.by' with _ | k
  · rw [snV_n hk]; exact h
  · rw [snV_y hk]
    split
    · exact h
    · exact h.upd hk rfl rfl rfl rfl
noncomputable def seenG : List AV → H → Nat → Option (AV × H × Nat)
  | [.op d 0, .w32 id, .w32 now], hp, nx => obind (rngOf hp d) fun t => some (.i (snV t.C id now).1, setR d t.s t.m (snV t.C id now).2 hp, nx + 90)
  | _, _, _ => none
theorem seenG_eq (d : Nat) (id now : W32) (hp : H) (nx : Nat) : seenG [.op d 0, .w32 id, .w32 now] hp nx = obind (rngOf hp d) fun t => some (.i (snV t.C id now).1, setR d t.s t.m (snV t.C id now).2 hp, nx + 90) := (rfl)
attribute [go_sem] seenG_eq
set_option maxHeartbeats 1000000 in
theorem seen_ok : HeapOK Try.prog GLh 19 seenG := by
  refine heap_of_awp Try.func19 (bodyOf_some rfl) ?_
  intro args hp nx r hp' nx' hg
  unfold seenG at hg
  split at hg
  · rename_i d id now
    replace hg := obind_inv hg; obtain ⟨⟨s, m, C⟩, hD0, hg⟩ := hg
    have hD := rngOf_inv hD0
    simp only [Option.some.injEq, Prod.mk.injEq] at hg hD; obtain ⟨rfl, rfl, rfl⟩ := hg
    refine ⟨Nat.le_of_ble_eq_true rfl, by omega, fun hnone => ?_⟩
    have h1 := hD.hd; have h2 := hD.hs; have h3 := hD.hm
    obtain ⟨n1, n2, n3, n4, n5, n6⟩ := hD.ne
    have hlt : ∀ k o, hp k = some o → k < nx := fun k o hk => lt_of_none2 hnone hk
    have hd := hlt _ _ h1
    have hs := hlt _ _ h2
    have hm := hlt _ _ h3
    refine awp_seqP rfl ?_
    refine awp_regP (Γ := noEnv) [0, 1, 2] (noEnv_ok _ _) rfl rfl rfl (fun K hK => ?_)
    simp (disch := omega) only [Try.f19, go_sem, Nat.reduceAdd, ↓reduceIte]
    refine hK _ ?_
    clear hK K
    refine nx_then ?_
    rcases hk : getK id C.by' with _ | k
    · skip
      rw [snV_n hk]
      refine awp_seqP rfl ?_
      refine awp_regP (Γ := noEnv) [0, 1, 2, 7, 8] (noEnv_ok _ _) rfl rfl rfl (fun K hK => ?_)
      simp (disch := omega) only [Try.f19, go_sem, Nat.reduceAdd, Nat.reduceLeDiff, Nat.reduceLT, ↓reduceIte, h1, h2, hk, rgC_eq, List.head?_cons, List.drop_succ_cons, List.drop_zero]
      refine hK _ ?_
      clear hK K
      refine nx_then ?_
      refine awp_seqP rfl ?_
      refine awp_blockN 0 rfl rfl ?_
      refine awp_seqP rfl ?_
      refine awp_regP (Γ := noEnv) [18, 0, 1, 2, 7] (noEnv_ok _ _) rfl rfl rfl (fun K hK => ?_)
      simp (disch := omega) only [Try.f19, go_sem, Nat.reduceAdd, ↓reduceIte]
      refine hK _ ?_
      clear hK K
      refine nx_then ?_
      refine awp_ifB (.tmp 18) rfl rfl rfl (fun h => ?_) (fun h => ?_)
      · skip
        refine awp_drop rfl ?_
        refine awp_seqP rfl ?_
        refine awp_regP (Γ := noEnv) [6] (noEnv_ok _ _) rfl rfl rfl (fun K hK => ?_)
        simp (disch := omega) only [Try.f19, go_sem, ↓reduceIte]
        refine hK _ ?_
        clear hK K
        refine nx_then ?_
        refine awp_retP rfl ?_
        refine nx_ret_blk (nx_ret_then ?_)
        rw [setR_same hD]
        exact ⟨rfl, fun j o h => hsub_new hnone (by omega) j o h, by simp only; omega⟩
      · skip
        refine awp_drop rfl ?_
        cases h
    · skip
      have ek := snV_y (now := now) hk
      refine awp_seqP rfl ?_
      refine awp_regP (Γ := noEnv) [0, 1, 2, 7, 8] (noEnv_ok _ _) rfl rfl rfl (fun K hK => ?_)
      simp (disch := omega) only [Try.f19, go_sem, Nat.reduceAdd, Nat.reduceLeDiff, Nat.reduceLT, ↓reduceIte, h1, h2, hk, rgC_eq, encK_eq, List.head?_cons, List.drop_succ_cons, List.drop_zero]
      refine hK _ ?_
      clear hK K
      refine nx_then ?_
      refine awp_seqP rfl ?_
      refine awp_blockN 0 rfl rfl ?_
      refine awp_seqP rfl ?_
      refine awp_regP (Γ := noEnv) [18, 0, 1, 2, 7] (noEnv_ok _ _) rfl rfl rfl (fun K hK => ?_)
      simp (disch := omega) only [Try.f19, go_sem, Nat.reduceAdd, ↓reduceIte]
      refine hK _ ?_
      clear hK K
      refine nx_then ?_
      refine awp_ifB (.tmp 18) rfl rfl rfl (fun h => ?_) (fun h => ?_)
      · skip
        refine awp_drop rfl ?_
        cases h
      · skip
        refine awp_drop rfl ?_
        clear h
        have hmx : (if now < 1#32 then (1#32 : W32) else now) = mx1 now := rfl
        by_cases hb1 : k.role = 1
        · skip
          have d1 : decide (k.role = 1) = true := decide_eq_true hb1
          by_cases hb2 : k.st = 2
          · skip
            have d2 : decide (k.st = 2) = true := decide_eq_true hb2
            by_cases hb3 : k.seen = 0#32
            · skip
              have d3 : decide (k.seen = 0#32) = true := decide_eq_true hb3
              rw [if_neg (fun e => e.elim (fun e => e hb1) (fun e => e.elim (fun e => e hb2) (fun e => e hb3)))] at ek
              rw [ek]
              refine awp_seqP rfl ?_
              refine awp_regP (Γ := noEnv) [21, 0, 1, 2, 7] (noEnv_ok _ _) rfl rfl rfl (fun K hK => ?_)
              simp (disch := omega) only [Try.f19, go_sem, Nat.reduceAdd, Nat.reduceLT, Int.reduceLE, Int.reduceLT, BitVec.reduceOfInt, reduceCtorEq, ↓reduceIte, d1, d2, d3, Bool.not_true, List.head?_cons, List.drop_succ_cons, List.drop_zero]
              refine hK _ ?_
              clear hK K
              refine nx_then ?_
              refine awp_ifB (.tmp 21) rfl rfl rfl (fun h => ?_) (fun h => ?_)
              · skip
                refine awp_drop rfl ?_
                cases h
              · skip
                refine awp_drop rfl ?_
                clear h
                refine awp_skipP rfl ?_
                refine nx_blk (nx_then ?_)
                refine awp_seqP rfl ?_
                refine awp_regP (Γ := noEnv) [0, 1, 7] (noEnv_ok _ _) rfl rfl rfl (fun K hK => ?_)
                simp (disch := omega) only [Try.f19, go_sem, Nat.reduceAdd, Nat.reduceLeDiff, Nat.reduceLT, Int.reduceLE, Int.reduceLT, BitVec.reduceOfInt, ↓reduceIte, hmx, List.set_cons_succ, List.set_cons_zero]
                refine hK _ ?_
                clear hK K
                refine nx_then ?_
                refine awp_seqP rfl ?_
                refine awp_drwP (Γ := noEnv) (fun _ => 2) [] mixed (noEnv_ok _ _) rfl rfl rfl (by kernel_rfl) (fun K hK => ?_)
                simp (disch := omega) only [Try.f19, go_sem, Nat.reduceAdd, Nat.reduceLeDiff, Nat.reduceLT, ↓reduceIte, h1, h2, rgC_eq, List.head?_cons, List.take_succ_cons, List.take_zero, List.drop_succ_cons, List.drop_zero]
                refine hK _ ?_
                clear hK K
                refine nx_then ?_
                refine awp_seqP rfl ?_
                refine awp_regP (Γ := noEnv) [6] (noEnv_ok _ _) rfl rfl rfl (fun K hK => ?_)
                simp (disch := omega) only [Try.f19, go_sem, ↓reduceIte]
                refine hK _ ?_
                clear hK K
                refine nx_then ?_
                refine awp_retP rfl ?_
                refine ⟨rfl, fun j o hj => setR_sub (C := snC C id k now) ?_ ?_ ?_ ?_ j o hj, by simp only; omega⟩
                · simp (disch := omega) only [up_app, nat_ne, ↓reduceIte] <;> first | exact h1 | rfl
                · simp (disch := omega) only [up_app, ↓reduceIte, eq_self] <;> first | exact h2 | rfl
                · simp (disch := omega) only [up_app, nat_ne, ↓reduceIte] <;> first | exact h3 | rfl
                · intro k o k1 k2 k3 hk
                  have := hlt k o hk
                  simp (disch := omega) only [up_app, nat_ne, ↓reduceIte]
                  exact hk
            · skip
              have d3 : decide (k.seen = 0#32) = false := decide_eq_false hb3
              refine awp_seqP rfl ?_
              refine awp_regP (Γ := noEnv) [21, 0, 1, 2, 7] (noEnv_ok _ _) rfl rfl rfl (fun K hK => ?_)
              simp (disch := omega) only [Try.f19, go_sem, Nat.reduceAdd, Nat.reduceLT, Int.reduceLE, Int.reduceLT, BitVec.reduceOfInt, reduceCtorEq, ↓reduceIte, d1, d2, d3, Bool.not_true, Bool.not_false, List.head?_cons, List.drop_succ_cons, List.drop_zero]
              refine hK _ ?_
              clear hK K
              refine nx_then ?_
              refine awp_ifB (.tmp 21) rfl rfl rfl (fun h => ?_) (fun h => ?_)
              · skip
                refine awp_drop rfl ?_
                rw [if_pos (.inr (.inr hb3))] at ek
                rw [ek]
                refine awp_seqP rfl ?_
                refine awp_regP (Γ := noEnv) [6] (noEnv_ok _ _) rfl rfl rfl (fun K hK => ?_)
                simp (disch := omega) only [Try.f19, go_sem, ↓reduceIte]
                refine hK _ ?_
                clear hK K
                refine nx_then ?_
                refine awp_retP rfl ?_
                refine nx_ret_blk (nx_ret_then ?_)
                rw [setR_same hD]
                exact ⟨rfl, fun j o h => hsub_new hnone (by omega) j o h, by simp only; omega⟩
              · skip
                refine awp_drop rfl ?_
                cases h
          · skip
            have d2 : decide (k.st = 2) = false := decide_eq_false hb2
            refine awp_seqP rfl ?_
            refine awp_regP (Γ := noEnv) [21, 0, 1, 2, 7] (noEnv_ok _ _) rfl rfl rfl (fun K hK => ?_)
            simp (disch := omega) only [Try.f19, go_sem, Nat.reduceAdd, Nat.reduceLT, reduceCtorEq, ↓reduceIte, d1, d2, Bool.not_true, Bool.not_false, List.head?_cons, List.drop_succ_cons, List.drop_zero]
            refine hK _ ?_
            clear hK K
            refine nx_then ?_
            refine awp_ifB (.tmp 21) rfl rfl rfl (fun h => ?_) (fun h => ?_)
            · skip
              refine awp_drop rfl ?_
              rw [if_pos (.inr (.inl hb2))] at ek
              rw [ek]
              refine awp_seqP rfl ?_
              refine awp_regP (Γ := noEnv) [6] (noEnv_ok _ _) rfl rfl rfl (fun K hK => ?_)
              simp (disch := omega) only [Try.f19, go_sem, ↓reduceIte]
              refine hK _ ?_
              clear hK K
              refine nx_then ?_
              refine awp_retP rfl ?_
              refine nx_ret_blk (nx_ret_then ?_)
              rw [setR_same hD]
              exact ⟨rfl, fun j o h => hsub_new hnone (by omega) j o h, by simp only; omega⟩
            · skip
              refine awp_drop rfl ?_
              cases h
        · skip
          have d1 : decide (k.role = 1) = false := decide_eq_false hb1
          refine awp_seqP rfl ?_
          refine awp_regP (Γ := noEnv) [21, 0, 1, 2, 7] (noEnv_ok _ _) rfl rfl rfl (fun K hK => ?_)
          simp (disch := omega) only [Try.f19, go_sem, Nat.reduceAdd, Nat.reduceLT, ↓reduceIte, d1, Bool.not_false, List.head?_cons, List.drop_succ_cons, List.drop_zero]
          refine hK _ ?_
          clear hK K
          refine nx_then ?_
          refine awp_ifB (.tmp 21) rfl rfl rfl (fun h => ?_) (fun h => ?_)
          · skip
            refine awp_drop rfl ?_
            rw [if_pos (.inl hb1)] at ek
            rw [ek]
            refine awp_seqP rfl ?_
            refine awp_regP (Γ := noEnv) [6] (noEnv_ok _ _) rfl rfl rfl (fun K hK => ?_)
            simp (disch := omega) only [Try.f19, go_sem, ↓reduceIte]
            refine hK _ ?_
            clear hK K
            refine nx_then ?_
            refine awp_retP rfl ?_
            refine nx_ret_blk (nx_ret_then ?_)
            rw [setR_same hD]
            exact ⟨rfl, fun j o h => hsub_new hnone (by omega) j o h, by simp only; omega⟩
          · skip
            refine awp_drop rfl ?_
            cases h
  · cases hg
theorem okd21 : EntOK Try.prog GLh 19 (.heap seenG) := ⟨⟨_, Try.func19, rfl, rfl⟩, seen_ok⟩

theorem fdN_lt (id : W32) : ∀ (L : List KY) (n : Nat), (fdN id L n = -1 ∧ ∀ k, k < L.length → (kyA L k).id ≠ id) ∨ ∃ i, i < L.length ∧ fdN id L n = ((n + i : Nat) : Int) ∧ (kyA L i).id = id
  | [], n => .inl ⟨rfl, fun k h => by simp at h⟩
  | x :: r, n => by
    rw [fdN]
    by_cases e : x.id = id
    · rw [if_pos e]; exact .inr ⟨0, by simp, by simp, by simpa [kyA] using e⟩
    · rw [if_neg e]
      rcases fdN_lt id r (n + 1) with ⟨h1, h2⟩ | ⟨i, h1, h2, h3⟩
      · refine .inl ⟨h1, fun k hk => ?_⟩
        cases k with
        | zero => simpa [kyA] using e
        | succ k => have := h2 k (by simpa using hk); simpa [kyA] using this
      · exact .inr ⟨i + 1, by simpa using h1, by rw [h2]; congr 1; omega, by simpa [kyA] using h3⟩
theorem find_cases (L : List KY) (id : W32) : findV L id = -1 ∨ ∃ i, i < L.length ∧ findV L id = (i : Int) ∧ (kyA L i).id = id := by
  rcases fdN_lt id L 0 with ⟨h, _⟩ | ⟨i, h1, h2, h3⟩
  · exact .inl h
  · exact .inr ⟨i, h1, by rw [findV, h2]; simp, h3⟩
theorem kys_set (L : List KY) (k j : Nat) (x : AV) (k' : KY) (hk : k < L.length) (hj : j < 15) (hx : (kyC (kyA L k)).set j x = kyC k') : (kysC L).set (15 * k + j) x = kysC (L.set k k') := by
  induction L generalizing k with
  | nil => simp at hk
  | cons y r ih =>
    cases k with
    | zero =>
      have e : kyA (y :: r) 0 = y := rfl
      rw [e] at hx
      rw [List.set_cons_zero, kysC, kysC, List.set_append_left _ _ (by show _ < 15; omega), ← hx, Nat.mul_zero, Nat.zero_add]
    | succ k =>
      have e : 15 * (k + 1) + j = (kyC y).length + (15 * k + j) := by show _ = 15 + _; omega
      rw [List.set_cons_succ, kysC, kysC, e, List.set_append_right _ _ (by omega), Nat.add_sub_cancel_left]
      rw [ih k (by simpa using hk) (by simpa [kyA] using hx)]
def msnC (M : MC) (i : Nat) (now : W32) : MC := { M with L := M.L.set i { kyA M.L i with seen := mx1 now } }
def msnV (M : MC) (id now : W32) : Int × MC :=
  if findV M.L id < 0 then (130, M)
  else if (kyA M.L (findV M.L id).toNat).role ≠ 1 ∨ (kyA M.L (findV M.L id).toNat).st ≠ 2 ∨ (kyA M.L (findV M.L id).toNat).seen ≠ 0#32 then (131, M)
  else (0, msnC M (findV M.L id).toNat now)
noncomputable def mseenG : List AV → H → Nat → Option (AV × H × Nat)
  | [.op d 0, .w32 id, .w32 now], hp, nx => obind (mrgOf hp d) fun t => guardO (t.M.L.length ≤ 1000) (some (.i (msnV t.M id now).1, setM d t.l (msnV t.M id now).2 hp, nx + 300 + 60 * t.M.L.length))
  | _, _, _ => none
theorem mseenG_eq (d : Nat) (id now : W32) (hp : H) (nx : Nat) : mseenG [.op d 0, .w32 id, .w32 now] hp nx = obind (mrgOf hp d) fun t => guardO (t.M.L.length ≤ 1000) (some (.i (msnV t.M id now).1, setM d t.l (msnV t.M id now).2 hp, nx + 300 + 60 * t.M.L.length)) := (rfl)
attribute [go_sem] mseenG_eq
set_option maxHeartbeats 1000000 in
theorem mseen_ok : HeapOK Try.prog GLh 20 mseenG := by
  refine heap_of_awp Try.func20 (bodyOf_some rfl) ?_
  intro args hp nx r hp' nx' hg
  unfold mseenG at hg
  split at hg
  · rename_i d id now
    replace hg := obind_inv hg; obtain ⟨⟨l, M⟩, hD0, hg⟩ := hg
    have hD := mrgOf_inv hD0
    replace hg := guardO_inv hg; obtain ⟨hlen, hg⟩ := hg
    simp only [Option.some.injEq, Prod.mk.injEq] at hg hD hlen; obtain ⟨rfl, rfl, rfl⟩ := hg
    refine ⟨Nat.le_of_ble_eq_true rfl, by omega, fun hnone => ?_⟩
    have h1 := hD.hd; have h2 := hD.hl
    obtain ⟨n1, n2⟩ := hD.ne
    have hlt : ∀ k o, hp k = some o → k < nx := fun k o hk => lt_of_none2 hnone hk
    have hd := hlt _ _ h1
    have hl := hlt _ _ h2
    have hkl := kysC_len M.L
    refine awp_seqP rfl ?_
    refine awp_regP (Γ := noEnv) [0, 1, 2] (noEnv_ok _ _) rfl rfl rfl (fun K hK => ?_)
    simp (disch := omega) only [Try.f20, go_sem, Nat.reduceAdd, ↓reduceIte]
    refine hK _ ?_
    clear hK K
    refine nx_then ?_
    refine awp_seqP rfl ?_
    refine awp_regP (Γ := envL [(29, .heap findG)]) [0, 2, 7] (envOK_cons okd37 envOK_nil) rfl rfl rfl (fun K hK => ?_)
    simp (disch := omega) only [Try.f20, go_sem, Nat.reduceAdd, ↓reduceIte, hD0, hlen]
    refine hK _ ?_
    clear hK K
    refine nx_then ?_
    rcases find_cases M.L id with hf | ⟨i, hi, hf, hid⟩
    · skip
      have ek : msnV M id now = (130, M) := by unfold msnV; rw [hf]; exact if_pos (by omega)
      rw [hf]
      refine awp_seqP rfl ?_
      refine awp_seqP rfl ?_
      refine awp_regP (Γ := noEnv) [12, 0, 2, 7] (noEnv_ok _ _) rfl rfl rfl (fun K hK => ?_)
      simp (disch := omega) only [Try.f20, go_sem, Nat.reduceAdd, Int.reduceLT, Int.reduceNeg, ↓reduceIte]
      refine hK _ ?_
      clear hK K
      refine nx_then ?_
      refine awp_ifB (.tmp 12) rfl rfl rfl (fun h => ?_) (fun h => ?_)
      · skip
        refine awp_drop rfl ?_
        rw [ek]
        refine awp_seqP rfl ?_
        refine awp_regP (Γ := noEnv) [6] (noEnv_ok _ _) rfl rfl rfl (fun K hK => ?_)
        simp (disch := omega) only [Try.f20, go_sem, Int.reduceNeg, ↓reduceIte]
        refine hK _ ?_
        clear hK K
        refine nx_then ?_
        refine awp_retP rfl ?_
        refine nx_ret_then ?_
        rw [setM_same hD]
        exact ⟨rfl, fun j o h => h, by simp only; omega⟩
      · skip
        refine awp_drop rfl ?_
        cases h
    · skip
      have ek : msnV M id now = if (kyA M.L i).role ≠ 1 ∨ (kyA M.L i).st ≠ 2 ∨ (kyA M.L i).seen ≠ 0#32 then (131, M) else (0, msnC M i now) := by
        unfold msnV; rw [hf, Int.toNat_natCast]; exact if_neg (by omega)
      rw [hf]
      refine awp_seqP rfl ?_
      refine awp_seqP rfl ?_
      refine awp_regP (Γ := noEnv) [12, 0, 2, 7] (noEnv_ok _ _) rfl rfl rfl (fun K hK => ?_)
      simp (disch := omega) only [Try.f20, go_sem, Nat.reduceAdd, ↓reduceIte]
      refine hK _ ?_
      clear hK K
      refine nx_then ?_
      refine awp_ifD (.tmp 12) rfl rfl rfl (fun h => ?_) (fun h => ?_)
      · skip
        refine awp_drop rfl ?_
        exact absurd h (by omega)
      · skip
        refine awp_drop rfl ?_
        clear h
        have hmx : (if now < 1#32 then (1#32 : W32) else now) = mx1 now := rfl
        have a1 := kys_at M.L i 1 hi (by omega)
        have a2 := kys_at M.L i 2 hi (by omega)
        have a7 := kys_at M.L i 14 hi (by omega)
        have e15 : i * 15 = 15 * i := by omega
        refine awp_skipP rfl ?_
        refine nx_then ?_
        refine awp_seqP rfl ?_
        refine awp_seqP rfl ?_
        by_cases hb1 : (kyA M.L i).role = 1
        · skip
          have d1 : decide ((kyA M.L i).role = 1) = true := decide_eq_true hb1
          by_cases hb2 : (kyA M.L i).st = 2
          · skip
            have d2 : decide ((kyA M.L i).st = 2) = true := decide_eq_true hb2
            by_cases hb3 : (kyA M.L i).seen = 0#32
            · skip
              have d3 : decide ((kyA M.L i).seen = 0#32) = true := decide_eq_true hb3
              rw [if_neg (fun e => e.elim (fun e => e hb1) (fun e => e.elim (fun e => e hb2) (fun e => e hb3)))] at ek
              rw [ek]
              refine awp_regP (Γ := noEnv) [43, 0, 2, 7] (noEnv_ok _ _) rfl rfl rfl (fun K hK => ?_)
              simp (disch := omega) only [Try.f20, go_sem, Nat.reduceAdd, Nat.reduceLT, Int.reduceLE, Int.reduceLT, BitVec.reduceOfInt, reduceCtorEq, ↓reduceIte, d1, d2, d3, Bool.not_true, h1, h2, mgC_eq, a1, a2, a7, e15, kyC, List.head?_cons, List.drop_succ_cons, List.drop_zero]
              refine hK _ ?_
              clear hK K
              refine nx_then ?_
              refine awp_ifB (.tmp 43) rfl rfl rfl (fun h => ?_) (fun h => ?_)
              · skip
                refine awp_drop rfl ?_
                cases h
              · skip
                refine awp_drop rfl ?_
                clear h
                refine awp_skipP rfl ?_
                refine nx_then ?_
                refine awp_seqP rfl ?_
                refine awp_regP (Γ := noEnv) [] (noEnv_ok _ _) rfl rfl rfl (fun K hK => ?_)
                simp (disch := omega) only [Try.f20, go_sem, Nat.reduceAdd, Nat.reduceLT, Int.reduceLE, Int.reduceLT, BitVec.reduceOfInt, ↓reduceIte, h1, h2, mgC_eq, hkl, hmx, e15, List.head?_cons, List.drop_succ_cons, List.drop_zero]
                refine hK _ ?_
                clear hK K
                refine nx_then ?_
                refine awp_seqP rfl ?_
                refine awp_regP (Γ := noEnv) [6] (noEnv_ok _ _) rfl rfl rfl (fun K hK => ?_)
                simp (disch := omega) only [Try.f20, go_sem, ↓reduceIte]
                refine hK _ ?_
                clear hK K
                refine nx_then ?_
                refine awp_retP rfl ?_
                have hset := kys_set M.L i 14 (.w32 (mx1 now)) { kyA M.L i with seen := mx1 now } hi (by omega) rfl
                refine ⟨rfl, fun j o hj => setM_sub (M := msnC M i now) (l := l) ?_ ?_ ?_ j o hj, by simp only; omega⟩
                · have e2 : mgC l (msnC M i now) = mgC l M := by simp only [mgC, msnC, List.length_set]
                  rw [e2]
                  simp (disch := omega) only [up_app, nat_ne, ↓reduceIte]
                  exact h1
                · simp (disch := omega) only [up_app, ↓reduceIte, eq_self, hset] <;> rfl
                · intro k o k1 k2 hk
                  simp (disch := omega) only [up_app, nat_ne, ↓reduceIte]
                  exact hk
            · skip
              have d3 : decide ((kyA M.L i).seen = 0#32) = false := decide_eq_false hb3
              refine awp_regP (Γ := noEnv) [43, 0, 2, 7] (noEnv_ok _ _) rfl rfl rfl (fun K hK => ?_)
              simp (disch := omega) only [Try.f20, go_sem, Nat.reduceAdd, Nat.reduceLT, Int.reduceLE, Int.reduceLT, BitVec.reduceOfInt, reduceCtorEq, ↓reduceIte, d1, d2, d3, Bool.not_true, Bool.not_false, h1, h2, mgC_eq, a1, a2, a7, e15, kyC, List.head?_cons, List.drop_succ_cons, List.drop_zero]
              refine hK _ ?_
              clear hK K
              refine nx_then ?_
              refine awp_ifB (.tmp 43) rfl rfl rfl (fun h => ?_) (fun h => ?_)
              · skip
                refine awp_drop rfl ?_
                rw [if_pos (.inr (.inr hb3))] at ek
                rw [ek]
                refine awp_seqP rfl ?_
                refine awp_regP (Γ := noEnv) [6] (noEnv_ok _ _) rfl rfl rfl (fun K hK => ?_)
                simp (disch := omega) only [Try.f20, go_sem, ↓reduceIte]
                refine hK _ ?_
                clear hK K
                refine nx_then ?_
                refine awp_retP rfl ?_
                refine nx_ret_then ?_
                rw [setM_same hD]
                exact ⟨rfl, fun j o h => h, by simp only; omega⟩
              · skip
                refine awp_drop rfl ?_
                cases h
          · skip
            have d2 : decide ((kyA M.L i).st = 2) = false := decide_eq_false hb2
            refine awp_regP (Γ := noEnv) [43, 0, 2, 7] (noEnv_ok _ _) rfl rfl rfl (fun K hK => ?_)
            simp (disch := omega) only [Try.f20, go_sem, Nat.reduceAdd, Nat.reduceLT, reduceCtorEq, ↓reduceIte, d1, d2, Bool.not_true, Bool.not_false, h1, h2, mgC_eq, a1, a2, e15, kyC, List.head?_cons, List.drop_succ_cons, List.drop_zero]
            refine hK _ ?_
            clear hK K
            refine nx_then ?_
            refine awp_ifB (.tmp 43) rfl rfl rfl (fun h => ?_) (fun h => ?_)
            · skip
              refine awp_drop rfl ?_
              rw [if_pos (.inr (.inl hb2))] at ek
              rw [ek]
              refine awp_seqP rfl ?_
              refine awp_regP (Γ := noEnv) [6] (noEnv_ok _ _) rfl rfl rfl (fun K hK => ?_)
              simp (disch := omega) only [Try.f20, go_sem, ↓reduceIte]
              refine hK _ ?_
              clear hK K
              refine nx_then ?_
              refine awp_retP rfl ?_
              refine nx_ret_then ?_
              rw [setM_same hD]
              exact ⟨rfl, fun j o h => h, by simp only; omega⟩
            · skip
              refine awp_drop rfl ?_
              cases h
        · skip
          have d1 : decide ((kyA M.L i).role = 1) = false := decide_eq_false hb1
          refine awp_regP (Γ := noEnv) [43, 0, 2, 7] (noEnv_ok _ _) rfl rfl rfl (fun K hK => ?_)
          simp (disch := omega) only [Try.f20, go_sem, Nat.reduceAdd, Nat.reduceLT, ↓reduceIte, d1, Bool.not_false, h1, h2, mgC_eq, a1, e15, kyC, List.head?_cons, List.drop_succ_cons, List.drop_zero]
          refine hK _ ?_
          clear hK K
          refine nx_then ?_
          refine awp_ifB (.tmp 43) rfl rfl rfl (fun h => ?_) (fun h => ?_)
          · skip
            refine awp_drop rfl ?_
            rw [if_pos (.inl hb1)] at ek
            rw [ek]
            refine awp_seqP rfl ?_
            refine awp_regP (Γ := noEnv) [6] (noEnv_ok _ _) rfl rfl rfl (fun K hK => ?_)
            simp (disch := omega) only [Try.f20, go_sem, ↓reduceIte]
            refine hK _ ?_
            clear hK K
            refine nx_then ?_
            refine awp_retP rfl ?_
            refine nx_ret_then ?_
            rw [setM_same hD]
            exact ⟨rfl, fun j o h => h, by simp only; omega⟩
          · skip
            refine awp_drop rfl ?_
            cases h
  · cases hg
theorem okd22 : EntOK Try.prog GLh 20 (.heap mseenG) := ⟨⟨_, Try.func20, rfl, rfl⟩, mseen_ok⟩
end Go.AX

namespace Go.AX
open Go Go.Proofs
set_option maxRecDepth 8000

def mtnC (M : MC) (i : Nat) (st : Int) (now : W32) : MC := { M with L := M.L.set i { kyA M.L i with st := st, since := now } }
def mgoC (M : MC) (i : Nat) : MC := { M with L := M.L.take i ++ M.L.drop (i + 1) }
noncomputable def mtnH (d l : Nat) (M : MC) (id : W32) (st : Int) (now : W32) (hp : H) (nx : Nat) : Int × H :=
  if findV M.L id < 0 then (130, hp)
  else if st ≤ (kyA M.L (findV M.L id).toNat).st ∨ 4 < st then (131, hp)
  else if st = 4 then (0, setM d (nx + 88 + 60 * M.L.length) (mgoC M (findV M.L id).toNat) (del hp l))
  else (0, setM d l (mtnC M (findV M.L id).toNat st now) hp)
noncomputable def mturnG : List AV → H → Nat → Option (AV × H × Nat)
  | [.op d 0, .w32 id, .i st, .w32 now], hp, nx => obind (mrgOf hp d) fun t => guardO (t.M.L.length ≤ 1000) (some (.i (mtnH d t.l t.M id st now hp nx).1, (mtnH d t.l t.M id st now hp nx).2, nx + 300 + 60 * t.M.L.length))
  | _, _, _ => none
theorem mturnG_eq (d : Nat) (id now : W32) (st : Int) (hp : H) (nx : Nat) : mturnG [.op d 0, .w32 id, .i st, .w32 now] hp nx = obind (mrgOf hp d) fun t => guardO (t.M.L.length ≤ 1000) (some (.i (mtnH d t.l t.M id st now hp nx).1, (mtnH d t.l t.M id st now hp nx).2, nx + 300 + 60 * t.M.L.length)) := (rfl)
attribute [go_sem] mturnG_eq
end Go.AX

namespace Go.AX
open Go Go.Proofs
set_option maxRecDepth 8000

theorem min2_32 (a b : W32) : min2A (.w32 a) (.w32 b) = some (.w32 (if b < a then b else a)) := (rfl)
attribute [go_sem] min2_32
/-- A sum of times. -/
def plV (a b : W32) : W32 := a + (if 4294967295#32 - a < b then 4294967295#32 - a else b)
def plusG : List AV → Option AV
  | [.w32 a, .w32 b] => some (.w32 (plV a b))
  | _ => none
theorem plusG_eq (a b : W32) : plusG [.w32 a, .w32 b] = some (.w32 (plV a b)) := (rfl)
attribute [go_sem] plusG_eq
theorem plus_ok : PureOK Try.prog GLh 41 plusG := by
  refine pure_of_awp Try.func41 (bodyOf_some rfl) ?_
  intro args r hg
  unfold plusG at hg
  split at hg
  · rename_i a b
    obtain rfl := Option.some.inj hg
    refine ⟨Nat.le_of_ble_eq_true rfl, fun nx => ?_⟩
    refine awp_seqP rfl ?_
    refine awp_regP (Γ := noEnv) [0, 1] (noEnv_ok _ _) rfl rfl rfl (fun K hK => ?_)
    simp (disch := omega) only [Try.f41, go_sem, Int.reduceLE, Int.reduceLT, BitVec.reduceOfInt, ↓reduceIte]
    refine hK _ ?_
    clear hK K
    refine nx_then ?_
    refine awp_seqP rfl ?_
    refine awp_regP (Γ := noEnv) [4] (noEnv_ok _ _) rfl rfl rfl (fun K hK => ?_)
    simp (disch := omega) only [Try.f41, go_sem, Nat.reduceAdd, Int.reduceLE, Int.reduceLT, BitVec.reduceOfInt, ↓reduceIte]
    refine hK _ ?_
    clear hK K
    refine nx_then ?_
    refine awp_retP rfl ?_
    simp (disch := omega) only [pureQ, resA, resAL, resA1, Try.f41, go_sem, ↓reduceIte]
    rfl
  · cases hg
theorem okh41 : EntOK Try.prog GLh 41 (.pure true plusG) := ⟨⟨_, Try.func41, rfl, rfl⟩, plus_ok⟩
def bhV (t a b : W32) : W32 := plV (plV t a) b
def behG : List AV → Option AV
  | [.w32 t, .w32 a, .w32 b] => some (.w32 (bhV t a b))
  | _ => none
theorem behG_eq (t a b : W32) : behG [.w32 t, .w32 a, .w32 b] = some (.w32 (bhV t a b)) := (rfl)
attribute [go_sem] behG_eq
theorem beh_ok : PureOK Try.prog GLh 36 behG := by
  refine pure_of_awp Try.func36 (bodyOf_some rfl) ?_
  intro args r hg
  unfold behG at hg
  split at hg
  · rename_i t a b
    obtain rfl := Option.some.inj hg
    refine ⟨Nat.le_of_ble_eq_true rfl, fun nx => ?_⟩
    refine awp_seqP rfl ?_
    refine awp_regP (Γ := noEnv) [0, 1, 2] (noEnv_ok _ _) rfl rfl rfl (fun K hK => ?_)
    simp (disch := omega) only [Try.f36, go_sem, Nat.reduceAdd, Int.reduceLE, Int.reduceLT, BitVec.reduceOfInt, ↓reduceIte]
    refine hK _ ?_
    clear hK K
    refine nx_then ?_
    refine awp_seqP rfl ?_
    refine awp_regP (Γ := envL [(41, .pure true plusG)]) [6] (envOK_cons okh41 envOK_nil) rfl rfl rfl (fun K hK => ?_)
    simp (disch := omega) only [Try.f36, go_sem, Nat.reduceAdd, ↓reduceIte]
    refine hK _ ?_
    clear hK K
    refine nx_then ?_
    refine awp_retP rfl ?_
    simp (disch := omega) only [pureQ, resA, resAL, resA1, Try.f36, go_sem, ↓reduceIte]
    rfl
  · cases hg
theorem okh36 : EntOK Try.prog GLh 36 (.pure true behG) := ⟨⟨_, Try.func36, rfl, rfl⟩, beh_ok⟩
def dueG : List AV → Option AV
  | [.w32 a, .w32 b] => some (.b (decide (b ≤ a)))
  | _ => none
theorem dueG_eq (a b : W32) : dueG [.w32 a, .w32 b] = some (.b (decide (b ≤ a))) := (rfl)
attribute [go_sem] dueG_eq
theorem due_ok : PureOK Try.prog GLh 26 dueG := by
  refine pure_of_awp Try.func26 (bodyOf_some rfl) ?_
  intro args r hg
  unfold dueG at hg
  split at hg
  · rename_i a b
    obtain rfl := Option.some.inj hg
    refine ⟨Nat.le_of_ble_eq_true rfl, fun nx => ?_⟩
    refine awp_seqP rfl ?_
    refine awp_regP (Γ := noEnv) [0, 1] (noEnv_ok _ _) rfl rfl rfl (fun K hK => ?_)
    simp (disch := omega) only [Try.f26, go_sem, ↓reduceIte]
    refine hK _ ?_
    clear hK K
    refine nx_then ?_
    refine awp_seqP rfl ?_
    refine awp_regP (Γ := noEnv) [4] (noEnv_ok _ _) rfl rfl rfl (fun K hK => ?_)
    simp (disch := omega) only [Try.f26, go_sem, Nat.reduceAdd, ↓reduceIte]
    refine hK _ ?_
    clear hK K
    refine nx_then ?_
    refine awp_retP rfl ?_
    simp (disch := omega) only [pureQ, resA, resAL, resA1, Try.f26, go_sem, ↓reduceIte]
  · cases hg
theorem okh26 : EntOK Try.prog GLh 26 (.pure true dueG) := ⟨⟨_, Try.func26, rfl, rfl⟩, due_ok⟩
theorem take_next32 {a b : List W32} {k : Nat} (ha : k < a.length) (hb : k < b.length) (h : a.take k = b.take k) (e : a.getD k 0#32 = b.getD k 0#32) : a.take (k + 1) = b.take (k + 1) := by
  rw [List.take_add_one, List.take_add_one, h, List.getElem?_eq_getElem ha, List.getElem?_eq_getElem hb]
  rw [List.getD_eq_getElem?_getD, List.getD_eq_getElem?_getD, List.getElem?_eq_getElem ha, List.getElem?_eq_getElem hb] at e
  rw [show a[k] = b[k] from e]
def idsG : List AV → Option AV
  | [.sl n xs, .sl m ys] => obind (un32 xs) fun a => obind (un32 ys) fun b => guardO (a.length = n ∧ b.length = m ∧ n ≤ 9223372036854775807 ∧ m ≤ 9223372036854775807) (some (.b (decide (a = b))))
  | _ => none
theorem idsG_eq (n m : Nat) (xs ys : List AV) : idsG [.sl n xs, .sl m ys] = obind (un32 xs) fun a => obind (un32 ys) fun b => guardO (a.length = n ∧ b.length = m ∧ n ≤ 9223372036854775807 ∧ m ≤ 9223372036854775807) (some (.b (decide (a = b)))) := (rfl)
attribute [go_sem] idsG_eq
set_option maxHeartbeats 1000000 in
theorem ids_ok : PureOK Try.prog GLh 10 idsG := by
  refine pure_of_awp Try.func10 (bodyOf_some rfl) ?_
  intro args r hg
  unfold idsG at hg
  split at hg
  · rename_i n xs m ys
    replace hg := obind_inv hg; obtain ⟨a, ha, hg⟩ := hg
    replace hg := obind_inv hg; obtain ⟨b, hb, hg⟩ := hg
    replace hg := guardO_inv hg; obtain ⟨⟨hn, hm, hbig, hbig2⟩, hg⟩ := hg
    obtain rfl := Option.some.inj hg
    have := un32_inv _ ha; subst this
    have := un32_inv _ hb; subst this
    subst hn; subst hm
    clear hg ha hb
    refine ⟨Nat.le_of_ble_eq_true rfl, fun nx => ?_⟩
    refine awp_seqP rfl ?_
    refine awp_regP (Γ := noEnv) [0, 1] (noEnv_ok _ _) rfl rfl rfl (fun K hK => ?_)
    simp (disch := omega) only [Try.f10, go_sem, ↓reduceIte]
    refine hK _ ?_
    clear hK K
    refine nx_then ?_
    refine awp_seqP rfl ?_
    refine awp_seqP rfl ?_
    refine awp_regP (Γ := noEnv) [10, 0, 1] (noEnv_ok _ _) rfl rfl rfl (fun K hK => ?_)
    simp (disch := omega) only [Try.f10, go_sem, Nat.reduceAdd, ↓reduceIte]
    refine hK _ ?_
    clear hK K
    refine nx_then ?_
    refine awp_ifE (.tmp 10) rfl rfl rfl (fun h => ?_) (fun h => ?_)
    · skip
      refine awp_drop rfl ?_
      have hl : decide (a = b) = false := decide_eq_false (fun e => h (by rw [e]))
      refine awp_seqP rfl ?_
      refine awp_regP (Γ := noEnv) [4] (noEnv_ok _ _) rfl rfl rfl (fun K hK => ?_)
      simp (disch := omega) only [Try.f10, go_sem, ↓reduceIte]
      refine hK _ ?_
      clear hK K
      refine nx_then ?_
      refine awp_retP rfl ?_
      refine nx_ret_then ?_
      simp (disch := omega) only [pureQ, resA, resAL, resA1, Try.f10, go_sem, ↓reduceIte, hl]
    · skip
      refine awp_drop rfl ?_
      have hab : a.length = b.length := by omega
      refine awp_skipP rfl ?_
      refine nx_then ?_
      refine awp_seqP rfl ?_
      refine awp_seqP rfl ?_
      refine awp_regP (Γ := noEnv) [0, 1, 5] (noEnv_ok _ _) rfl rfl rfl (fun K hK => ?_)
      simp (disch := omega) only [Try.f10, go_sem, ↓reduceIte]
      refine hK _ ?_
      clear hK K
      refine nx_then ?_
      refine awp_blockN 0 rfl rfl ?_
      refine awp_loopP (fun p : KC => { fr := [(0, .sl a.length (c32 a)), (1, .sl b.length (c32 b)), (5, .i p.k)], hp := fun _ => none, nx := 0, cx := p.c }) (fun p => p.k ≤ a.length ∧ a.take p.k = b.take p.k) (fun p => a.length - p.k) rfl ⟨⟨0, _⟩, ⟨Nat.zero_le _, rfl⟩, sub_same rfl rfl (Nat.le_refl _)⟩ ?_
      rintro ⟨k, c⟩ ⟨hk, ht⟩ n0
      simp only at hk ht ⊢
      refine awp_seqP rfl ?_
      refine awp_seqP rfl ?_
      refine awp_regP (Γ := noEnv) [14, 0, 1, 5] (noEnv_ok _ _) rfl rfl rfl (fun K hK => ?_)
      simp (disch := omega) only [Try.f10, go_sem, Nat.reduceAdd, ↓reduceIte]
      refine hK _ ?_
      clear hK K
      refine nx_then ?_
      refine awp_ifD (.tmp 14) rfl rfl rfl (fun h => ?_) (fun h => ?_)
      · skip
        refine awp_drop rfl ?_
        have hka : k < a.length := by omega
        have hkb : k < b.length := by omega
        refine awp_skipP rfl ?_
        refine nx_then ?_
        refine awp_seqP rfl ?_
        refine awp_blockN 1 rfl rfl ?_
        refine awp_seqP rfl ?_
        refine awp_drwP (Γ := noEnv) (fun _ => 2) [25, 0, 1, 5] mixed (noEnv_ok _ _) rfl rfl rfl (by kernel_rfl) (fun K hK => ?_)
        simp (disch := omega) only [Try.f10, go_sem, Nat.reduceAdd, ↓reduceIte]
        refine hK _ ?_
        clear hK K
        refine nx_then ?_
        refine awp_ifE (.tmp 25) rfl rfl rfl (fun h => ?_) (fun h => ?_)
        · skip
          refine awp_drop rfl ?_
          have hl : decide (a = b) = false := decide_eq_false (fun e => h (by rw [e]))
          refine awp_seqP rfl ?_
          refine awp_regP (Γ := noEnv) [4] (noEnv_ok _ _) rfl rfl rfl (fun K hK => ?_)
          simp (disch := omega) only [Try.f10, go_sem, ↓reduceIte]
          refine hK _ ?_
          clear hK K
          refine nx_then ?_
          refine awp_retP rfl ?_
          refine nx_ret_blk (nx_ret_then (nx_ret_loop (nx_ret_blk (nx_ret_then ?_))))
          simp (disch := omega) only [pureQ, resA, resAL, resA1, Try.f10, go_sem, ↓reduceIte, hl]
        · skip
          refine awp_drop rfl ?_
          refine awp_skipP rfl ?_
          refine nx_blk (nx_then ?_)
          refine awp_regP (Γ := noEnv) [0, 1, 5] (noEnv_ok _ _) rfl rfl rfl (fun K hK => ?_)
          simp (disch := omega) only [Try.f10, go_sem, Nat.reduceAdd, ↓reduceIte]
          refine hK _ ?_
          clear hK K
          refine nx_loop ?_
          refine ⟨⟨k + 1, _⟩, ⟨by simp only; omega, take_next32 hka hkb ht h⟩, by simp only; omega, sub_same ?_ rfl (Nat.le_refl _)⟩
          simp only [Int.natCast_add, Int.natCast_one]
      · skip
        refine awp_drop rfl ?_
        refine awp_exitN 0 rfl rfl ?_
        refine nx_ex_then (nx_ex_loop (nx_ex_blk ?_))
        refine nx_then ?_
        refine awp_seqP rfl ?_
        obtain rfl : k = a.length := by omega
        have hl : decide (a = b) = true := decide_eq_true (by rw [List.take_length, hab, List.take_length] at ht; exact ht)
        refine awp_regP (Γ := noEnv) [4] (noEnv_ok _ _) rfl rfl rfl (fun K hK => ?_)
        simp (disch := omega) only [Try.f10, go_sem, ↓reduceIte]
        refine hK _ ?_
        clear hK K
        refine nx_then ?_
        refine awp_retP rfl ?_
        simp (disch := omega) only [pureQ, resA, resAL, resA1, Try.f10, go_sem, ↓reduceIte, hl]
  · cases hg
theorem okh10 : EntOK Try.prog GLh 10 (.pure true idsG) := ⟨⟨_, Try.func10, rfl, rfl⟩, ids_ok⟩

/-- Settings of few numbers. -/
def cfgV (k : BitVec 16) : CF := ⟨[apN], 10#32 + BitVec.setWidth 32 (k &&& 3#16) * 10#32, BitVec.setWidth 32 (k >>> 2 &&& 3#16), 8#32, BitVec.setWidth 32 (k >>> 4 &&& 3#16), 300#32 + BitVec.setWidth 32 (k >>> 6 &&& 3#16) * 200#32, 100#32, 20#32, 60#32,
  [170#8, 187#8, 204#8].take (k >>> 10 &&& 3#16).toNat, k >>> 8 &&& 3#16, 6, if k >>> 12 &&& 3#16 = 0#16 then 1400#16 else 16000#16⟩
theorem cfgV_eq (k : BitVec 16) : cfgV k = ⟨[apN], 10#32 + BitVec.setWidth 32 (k &&& 3#16) * 10#32, BitVec.setWidth 32 (k >>> 2 &&& 3#16), 8#32, BitVec.setWidth 32 (k >>> 4 &&& 3#16), 300#32 + BitVec.setWidth 32 (k >>> 6 &&& 3#16) * 200#32, 100#32, 20#32, 60#32,
  [170#8, 187#8, 204#8].take (k >>> 10 &&& 3#16).toNat, k >>> 8 &&& 3#16, 6, if k >>> 12 &&& 3#16 = 0#16 then 1400#16 else 16000#16⟩ := rfl
def cfgG21 : List AV → Option AV
  | [.w16 k] => some (.agg (cfC (cfgV k)))
  | _ => none
theorem cfgG21_eq (k : BitVec 16) : cfgG21 [.w16 k] = some (.agg (cfC (cfgV k))) := (rfl)
attribute [go_sem] cfgG21_eq
theorem and3 (k : BitVec 16) : k &&& 3#16 = 0#16 ∨ k &&& 3#16 = 1#16 ∨ k &&& 3#16 = 2#16 ∨ k &&& 3#16 = 3#16 := by
  have h : (k &&& 3#16).toNat ≤ 3 := by rw [BitVec.toNat_and]; exact Nat.and_le_right
  rcases (by omega : (k &&& 3#16).toNat = 0 ∨ (k &&& 3#16).toNat = 1 ∨ (k &&& 3#16).toNat = 2 ∨ (k &&& 3#16).toNat = 3) with e | e | e | e
  · exact .inl (BitVec.eq_of_toNat_eq e)
  · exact .inr (.inl (BitVec.eq_of_toNat_eq e))
  · exact .inr (.inr (.inl (BitVec.eq_of_toNat_eq e)))
  · exact .inr (.inr (.inr (BitVec.eq_of_toNat_eq e)))
set_option maxHeartbeats 1000000 in
theorem cfg21_ok : PureOK Try.prog GLh 15 cfgG21 := by
  refine pure_of_awp Try.func15 (bodyOf_some rfl) ?_
  intro args r hg
  unfold cfgG21 at hg
  split at hg
  · rename_i k
    obtain rfl := Option.some.inj hg
    refine ⟨Nat.le_of_ble_eq_true rfl, fun nx => ?_⟩
    have ek := cfgV_eq k
    refine awp_seqP rfl ?_
    refine awp_regP (Γ := noEnv) [0, 2] (noEnv_ok _ _) rfl rfl rfl (fun K hK => ?_)
    simp (disch := omega) only [Try.f15, go_sem, ↓reduceIte]
    refine hK _ ?_
    clear hK K
    refine nx_then ?_
    refine awp_seqP rfl ?_
    refine awp_regP (Γ := envL [(28, .fresh true apexG)]) [0, 2, 3] (envOK_cons okd46 envOK_nil) rfl rfl rfl (fun K hK => ?_)
    simp (disch := omega) only [Try.f15, go_sem, Nat.reduceAdd, Nat.reduceLeDiff, Int.reduceLE, Int.reduceLT, BitVec.reduceOfInt, BitVec.reduceToNat, ↓reduceIte, splice, List.nil_append, List.cons_append, List.take_succ_cons, List.take_zero, List.drop_succ_cons, List.drop_zero, List.all_cons, List.all_nil, Option.isSome_some, Bool.and_self]
    refine hK _ ?_
    clear hK K
    refine nx_then ?_
    rcases and3 (k >>> 10) with e | e | e | e
    · skip
      refine awp_seqP rfl ?_
      refine awp_regP (Γ := noEnv) [0, 2, 3] (noEnv_ok _ _) rfl rfl rfl (fun K hK => ?_)
      simp (disch := omega) only [Try.f15, go_sem, Nat.reduceAdd, Nat.reduceSub, Nat.reduceLeDiff, Nat.reduceLT, Int.reduceLE, Int.reduceLT, Int.reduceToNat, BitVec.reduceOfInt, BitVec.reduceToNat, ↓reduceIte, e, BitVec.reduceMod, BitVec.reduceEq, List.set_cons_succ, List.set_cons_zero]
      refine hK _ ?_
      clear hK K
      refine nx_then ?_
      refine awp_seqP rfl ?_
      refine awp_seqP rfl ?_
      refine awp_regP (Γ := noEnv) [38, 2, 3] (noEnv_ok _ _) rfl rfl rfl (fun K hK => ?_)
      simp (disch := omega) only [Try.f15, go_sem, Nat.reduceAdd, Int.reduceLE, Int.reduceLT, BitVec.reduceOfInt, BitVec.reduceToNat, ↓reduceIte]
      refine hK _ ?_
      clear hK K
      refine nx_then ?_
      refine awp_ifD (.tmp 38) rfl rfl rfl (fun h => ?_) (fun h => ?_)
      · skip
        refine awp_drop rfl ?_
        rw [e, if_pos h] at ek
        refine awp_regP (Γ := noEnv) [2, 3] (noEnv_ok _ _) rfl rfl rfl (fun K hK => ?_)
        simp (disch := omega) only [Try.f15, go_sem, Nat.reduceAdd, Nat.reduceLeDiff, Nat.reduceLT, Int.reduceLE, Int.reduceLT, BitVec.reduceOfInt, ↓reduceIte]
        refine hK _ ?_
        clear hK K
        refine nx_then ?_
        refine awp_seqP rfl ?_
        refine awp_regP (Γ := noEnv) [2] (noEnv_ok _ _) rfl rfl rfl (fun K hK => ?_)
        simp (disch := omega) only [Try.f15, go_sem, Nat.reduceAdd, Nat.reduceLeDiff, ↓reduceIte]
        refine hK _ ?_
        clear hK K
        refine nx_then ?_
        refine awp_retP rfl ?_
        simp (maxSteps := 400000) (disch := omega) only [pureQ, resA, resAL, resA1, Try.f15, go_sem, Nat.reduceAdd, Nat.reduceLeDiff, BitVec.reduceToNat, ↓reduceIte, ek, cfC_eq, ldV, List.set_cons_succ, List.set_cons_zero, List.take_succ_cons, List.take_zero, List.drop_zero]
        rfl
      · skip
        refine awp_drop rfl ?_
        rw [e, if_neg h] at ek
        refine awp_skipP rfl ?_
        refine nx_then ?_
        refine awp_seqP rfl ?_
        refine awp_regP (Γ := noEnv) [2] (noEnv_ok _ _) rfl rfl rfl (fun K hK => ?_)
        simp (disch := omega) only [Try.f15, go_sem, Nat.reduceAdd, Nat.reduceLeDiff, ↓reduceIte]
        refine hK _ ?_
        clear hK K
        refine nx_then ?_
        refine awp_retP rfl ?_
        simp (maxSteps := 400000) (disch := omega) only [pureQ, resA, resAL, resA1, Try.f15, go_sem, Nat.reduceAdd, Nat.reduceLeDiff, BitVec.reduceToNat, ↓reduceIte, ek, cfC_eq, ldV, List.take_succ_cons, List.take_zero, List.drop_zero]
        rfl
    · skip
      refine awp_seqP rfl ?_
      refine awp_regP (Γ := noEnv) [0, 2, 3] (noEnv_ok _ _) rfl rfl rfl (fun K hK => ?_)
      simp (disch := omega) only [Try.f15, go_sem, Nat.reduceAdd, Nat.reduceSub, Nat.reduceLeDiff, Nat.reduceLT, Int.reduceLE, Int.reduceLT, Int.reduceToNat, BitVec.reduceOfInt, BitVec.reduceToNat, ↓reduceIte, e, BitVec.reduceMod, BitVec.reduceEq, List.set_cons_succ, List.set_cons_zero]
      refine hK _ ?_
      clear hK K
      refine nx_then ?_
      refine awp_seqP rfl ?_
      refine awp_seqP rfl ?_
      refine awp_regP (Γ := noEnv) [38, 2, 3] (noEnv_ok _ _) rfl rfl rfl (fun K hK => ?_)
      simp (disch := omega) only [Try.f15, go_sem, Nat.reduceAdd, Int.reduceLE, Int.reduceLT, BitVec.reduceOfInt, BitVec.reduceToNat, ↓reduceIte]
      refine hK _ ?_
      clear hK K
      refine nx_then ?_
      refine awp_ifD (.tmp 38) rfl rfl rfl (fun h => ?_) (fun h => ?_)
      · skip
        refine awp_drop rfl ?_
        rw [e, if_pos h] at ek
        refine awp_regP (Γ := noEnv) [2, 3] (noEnv_ok _ _) rfl rfl rfl (fun K hK => ?_)
        simp (disch := omega) only [Try.f15, go_sem, Nat.reduceAdd, Nat.reduceLeDiff, Nat.reduceLT, Int.reduceLE, Int.reduceLT, BitVec.reduceOfInt, ↓reduceIte]
        refine hK _ ?_
        clear hK K
        refine nx_then ?_
        refine awp_seqP rfl ?_
        refine awp_regP (Γ := noEnv) [2] (noEnv_ok _ _) rfl rfl rfl (fun K hK => ?_)
        simp (disch := omega) only [Try.f15, go_sem, Nat.reduceAdd, Nat.reduceLeDiff, ↓reduceIte]
        refine hK _ ?_
        clear hK K
        refine nx_then ?_
        refine awp_retP rfl ?_
        simp (maxSteps := 400000) (disch := omega) only [pureQ, resA, resAL, resA1, Try.f15, go_sem, Nat.reduceAdd, Nat.reduceLeDiff, BitVec.reduceToNat, ↓reduceIte, ek, cfC_eq, ldV, List.set_cons_succ, List.set_cons_zero, List.take_succ_cons, List.take_zero, List.drop_zero]
        rfl
      · skip
        refine awp_drop rfl ?_
        rw [e, if_neg h] at ek
        refine awp_skipP rfl ?_
        refine nx_then ?_
        refine awp_seqP rfl ?_
        refine awp_regP (Γ := noEnv) [2] (noEnv_ok _ _) rfl rfl rfl (fun K hK => ?_)
        simp (disch := omega) only [Try.f15, go_sem, Nat.reduceAdd, Nat.reduceLeDiff, ↓reduceIte]
        refine hK _ ?_
        clear hK K
        refine nx_then ?_
        refine awp_retP rfl ?_
        simp (maxSteps := 400000) (disch := omega) only [pureQ, resA, resAL, resA1, Try.f15, go_sem, Nat.reduceAdd, Nat.reduceLeDiff, BitVec.reduceToNat, ↓reduceIte, ek, cfC_eq, ldV, List.take_succ_cons, List.take_zero, List.drop_zero]
        rfl
    · skip
      refine awp_seqP rfl ?_
      refine awp_regP (Γ := noEnv) [0, 2, 3] (noEnv_ok _ _) rfl rfl rfl (fun K hK => ?_)
      simp (disch := omega) only [Try.f15, go_sem, Nat.reduceAdd, Nat.reduceSub, Nat.reduceLeDiff, Nat.reduceLT, Int.reduceLE, Int.reduceLT, Int.reduceToNat, BitVec.reduceOfInt, BitVec.reduceToNat, ↓reduceIte, e, BitVec.reduceMod, BitVec.reduceEq, List.set_cons_succ, List.set_cons_zero]
      refine hK _ ?_
      clear hK K
      refine nx_then ?_
      refine awp_seqP rfl ?_
      refine awp_seqP rfl ?_
      refine awp_regP (Γ := noEnv) [38, 2, 3] (noEnv_ok _ _) rfl rfl rfl (fun K hK => ?_)
      simp (disch := omega) only [Try.f15, go_sem, Nat.reduceAdd, Int.reduceLE, Int.reduceLT, BitVec.reduceOfInt, BitVec.reduceToNat, ↓reduceIte]
      refine hK _ ?_
      clear hK K
      refine nx_then ?_
      refine awp_ifD (.tmp 38) rfl rfl rfl (fun h => ?_) (fun h => ?_)
      · skip
        refine awp_drop rfl ?_
        rw [e, if_pos h] at ek
        refine awp_regP (Γ := noEnv) [2, 3] (noEnv_ok _ _) rfl rfl rfl (fun K hK => ?_)
        simp (disch := omega) only [Try.f15, go_sem, Nat.reduceAdd, Nat.reduceLeDiff, Nat.reduceLT, Int.reduceLE, Int.reduceLT, BitVec.reduceOfInt, ↓reduceIte]
        refine hK _ ?_
        clear hK K
        refine nx_then ?_
        refine awp_seqP rfl ?_
        refine awp_regP (Γ := noEnv) [2] (noEnv_ok _ _) rfl rfl rfl (fun K hK => ?_)
        simp (disch := omega) only [Try.f15, go_sem, Nat.reduceAdd, Nat.reduceLeDiff, ↓reduceIte]
        refine hK _ ?_
        clear hK K
        refine nx_then ?_
        refine awp_retP rfl ?_
        simp (maxSteps := 400000) (disch := omega) only [pureQ, resA, resAL, resA1, Try.f15, go_sem, Nat.reduceAdd, Nat.reduceLeDiff, BitVec.reduceToNat, ↓reduceIte, ek, cfC_eq, ldV, List.set_cons_succ, List.set_cons_zero, List.take_succ_cons, List.take_zero, List.drop_zero]
        rfl
      · skip
        refine awp_drop rfl ?_
        rw [e, if_neg h] at ek
        refine awp_skipP rfl ?_
        refine nx_then ?_
        refine awp_seqP rfl ?_
        refine awp_regP (Γ := noEnv) [2] (noEnv_ok _ _) rfl rfl rfl (fun K hK => ?_)
        simp (disch := omega) only [Try.f15, go_sem, Nat.reduceAdd, Nat.reduceLeDiff, ↓reduceIte]
        refine hK _ ?_
        clear hK K
        refine nx_then ?_
        refine awp_retP rfl ?_
        simp (maxSteps := 400000) (disch := omega) only [pureQ, resA, resAL, resA1, Try.f15, go_sem, Nat.reduceAdd, Nat.reduceLeDiff, BitVec.reduceToNat, ↓reduceIte, ek, cfC_eq, ldV, List.take_succ_cons, List.take_zero, List.drop_zero]
        rfl
    · skip
      refine awp_seqP rfl ?_
      refine awp_regP (Γ := noEnv) [0, 2, 3] (noEnv_ok _ _) rfl rfl rfl (fun K hK => ?_)
      simp (disch := omega) only [Try.f15, go_sem, Nat.reduceAdd, Nat.reduceSub, Nat.reduceLeDiff, Nat.reduceLT, Int.reduceLE, Int.reduceLT, Int.reduceToNat, BitVec.reduceOfInt, BitVec.reduceToNat, ↓reduceIte, e, BitVec.reduceMod, BitVec.reduceEq, List.set_cons_succ, List.set_cons_zero]
      refine hK _ ?_
      clear hK K
      refine nx_then ?_
      refine awp_seqP rfl ?_
      refine awp_seqP rfl ?_
      refine awp_regP (Γ := noEnv) [38, 2, 3] (noEnv_ok _ _) rfl rfl rfl (fun K hK => ?_)
      simp (disch := omega) only [Try.f15, go_sem, Nat.reduceAdd, Int.reduceLE, Int.reduceLT, BitVec.reduceOfInt, BitVec.reduceToNat, ↓reduceIte]
      refine hK _ ?_
      clear hK K
      refine nx_then ?_
      refine awp_ifD (.tmp 38) rfl rfl rfl (fun h => ?_) (fun h => ?_)
      · skip
        refine awp_drop rfl ?_
        rw [e, if_pos h] at ek
        refine awp_regP (Γ := noEnv) [2, 3] (noEnv_ok _ _) rfl rfl rfl (fun K hK => ?_)
        simp (disch := omega) only [Try.f15, go_sem, Nat.reduceAdd, Nat.reduceLeDiff, Nat.reduceLT, Int.reduceLE, Int.reduceLT, BitVec.reduceOfInt, ↓reduceIte]
        refine hK _ ?_
        clear hK K
        refine nx_then ?_
        refine awp_seqP rfl ?_
        refine awp_regP (Γ := noEnv) [2] (noEnv_ok _ _) rfl rfl rfl (fun K hK => ?_)
        simp (disch := omega) only [Try.f15, go_sem, Nat.reduceAdd, Nat.reduceLeDiff, ↓reduceIte]
        refine hK _ ?_
        clear hK K
        refine nx_then ?_
        refine awp_retP rfl ?_
        simp (maxSteps := 400000) (disch := omega) only [pureQ, resA, resAL, resA1, Try.f15, go_sem, Nat.reduceAdd, Nat.reduceLeDiff, BitVec.reduceToNat, ↓reduceIte, ek, cfC_eq, ldV, List.set_cons_succ, List.set_cons_zero, List.take_succ_cons, List.take_zero, List.drop_zero]
        rfl
      · skip
        refine awp_drop rfl ?_
        rw [e, if_neg h] at ek
        refine awp_skipP rfl ?_
        refine nx_then ?_
        refine awp_seqP rfl ?_
        refine awp_regP (Γ := noEnv) [2] (noEnv_ok _ _) rfl rfl rfl (fun K hK => ?_)
        simp (disch := omega) only [Try.f15, go_sem, Nat.reduceAdd, Nat.reduceLeDiff, ↓reduceIte]
        refine hK _ ?_
        clear hK K
        refine nx_then ?_
        refine awp_retP rfl ?_
        simp (maxSteps := 400000) (disch := omega) only [pureQ, resA, resAL, resA1, Try.f15, go_sem, Nat.reduceAdd, Nat.reduceLeDiff, BitVec.reduceToNat, ↓reduceIte, ek, cfC_eq, ldV, List.take_succ_cons, List.take_zero, List.drop_zero]
        rfl
  · cases hg
theorem okh15 : EntOK Try.prog GLh 15 (.pure false cfgG21) := ⟨⟨_, Try.func15, rfl, rfl⟩, cfg21_ok⟩
end Go.AX

namespace Go.AX
open Go Go.Proofs
set_option maxRecDepth 8000

open Classical in
noncomputable def kysU (xs : List AV) : Option (List KY) := if h : ∃ L, xs = kysC L then some (Classical.choose h) else none
theorem kysU_C (L : List KY) : kysU (kysC L) = some L := by
  have hx : ∃ L', kysC L = kysC L' := ⟨L, rfl⟩
  unfold kysU
  rw [dif_pos hx]
  exact congrArg some (kysC_inj (Classical.choose_spec hx)).symm
theorem kysU_inv {xs : List AV} {L : List KY} (h : kysU xs = some L) : xs = kysC L := by
  unfold kysU at h
  split at h
  · rename_i hx
    rw [← Option.some.inj h]
    exact Classical.choose_spec hx
  · cases h
attribute [go_sem] kysU_C
def roleL (r : Int) (L : List KY) : List KY := L.filter fun k => decide (k.role = r)
theorem roleL_le (r : Int) (L : List KY) : (roleL r L).length ≤ L.length := List.length_filter_le _ _
theorem kys_row (L : List KY) (k : Nat) (hk : k < L.length) : (List.drop (15 * k) (kysC L)).take 15 = kyC (kyA L k) := by
  have := kys_drop L k 0 hk
  rw [Nat.add_zero, List.drop_zero] at this
  rw [this]
  exact List.take_left' rfl
theorem kys_put : ∀ (L : List KY) (k : Nat) (v : KY), k < L.length → splice (kysC L) (15 * k) (kyC v) = kysC (L.set k v)
  | [], k, v, h => by simp at h
  | y :: r, 0, v, _ => by
    have h15 : (kyC y).length = 15 := rfl
    have e15 : (kyC v).length = 15 := rfl
    rw [splice, Nat.mul_zero, List.take_zero, List.nil_append, Nat.zero_add, e15, kysC, List.drop_left' h15, List.set_cons_zero, kysC]
  | y :: r, k + 1, v, h => by
    have h15 : (kyC y).length = 15 := rfl
    have ih := kys_put r k v (by simpa using h)
    have e15 : (kyC v).length = 15 := rfl
    have e1 : 15 * (k + 1) = (kyC y).length + 15 * k := by rw [h15]; omega
    have e2 : 15 * (k + 1) + 15 = (kyC y).length + (15 * k + 15) := by rw [h15]; omega
    rw [splice, e15] at ih ⊢
    rw [e2, e1, kysC, List.take_append, List.drop_append, List.set_cons_succ, kysC, ← ih]
    rw [List.take_of_length_le (by omega), Nat.add_sub_cancel_left, List.drop_of_length_le (by omega), Nat.add_sub_cancel_left]
    simp [List.append_assoc]
/-- The contents of a row whose keys of other roles are being struck out: k of its keys were looked at. -/
def rowD (r : Int) (L : List KY) (k : Nat) : List KY := roleL r (L.take k) ++ L.drop (roleL r (L.take k)).length
theorem role_take_le (r : Int) (L : List KY) (k : Nat) : (roleL r (L.take k)).length ≤ k := Nat.le_trans (roleL_le _ _) (by rw [List.length_take]; omega)
theorem rowD_len (r : Int) (L : List KY) (k : Nat) (hk : k ≤ L.length) : (rowD r L k).length = L.length := by
  have := role_take_le r L k
  rw [rowD, List.length_append, List.length_drop]; omega
theorem role_next (r : Int) (L : List KY) (k : Nat) (hk : k < L.length) : roleL r (L.take (k + 1)) = roleL r (L.take k) ++ if (kyA L k).role = r then [kyA L k] else [] := by
  have e : kyA L k = L[k] := by simp [kyA, List.getD_eq_getElem?_getD, hk]
  rw [List.take_add_one, List.getElem?_eq_getElem hk, roleL, List.filter_append, e]
  simp only [Option.toList_some, List.filter_cons, List.filter_nil, decide_eq_true_eq]
  rfl
theorem rowD_at (r : Int) (L : List KY) (k : Nat) : kyA (rowD r L k) k = kyA L k := by
  have h := role_take_le r L k
  unfold kyA rowD
  rw [List.getD_eq_getElem?_getD, List.getD_eq_getElem?_getD, List.getElem?_append_right h, List.getElem?_drop]
  congr 2
  omega
theorem rowD_y (r : Int) (L : List KY) (k : Nat) (hk : k < L.length) (h : (kyA L k).role = r) : rowD r L (k + 1) = (rowD r L k).set (roleL r (L.take k)).length (kyA L k) := by
  have hl := role_take_le r L k
  unfold rowD
  rw [role_next r L k hk, if_pos h, List.length_append, List.length_singleton, List.set_append_right _ _ (Nat.le_refl _), Nat.sub_self]
  rw [List.drop_eq_getElem_cons (by omega : (roleL r (L.take k)).length < L.length), List.set_cons_zero, List.append_assoc]
  rfl
theorem rowD_n (r : Int) (L : List KY) (k : Nat) (hk : k < L.length) (h : ¬ (kyA L k).role = r) : rowD r L (k + 1) = rowD r L k := by
  unfold rowD
  rw [role_next r L k hk, if_neg h, List.append_nil]
def dfL (r : Int) (L : List KY) : List KY := roleL r L ++ List.replicate (L.length - (roleL r L).length) ky0
theorem kys_rep : ∀ n : Nat, rep n (kyC ky0) = kysC (List.replicate n ky0)
  | 0 => rfl
  | n + 1 => by
    have ih := kys_rep n
    unfold rep at ih ⊢
    rw [List.replicate_succ, List.flatten_cons, List.replicate_succ, kysC, ih]
theorem kys_clr (r : Int) (L : List KY) : splice (kysC (rowD r L L.length)) (15 * (roleL r L).length) (rep (L.length - (roleL r L).length) (kyC ky0)) = kysC (dfL r L) := by
  have hl := roleL_le r L
  have e : rowD r L L.length = roleL r L ++ L.drop (roleL r L).length := by rw [rowD, List.take_length]
  have h1 : (kysC (roleL r L)).length = 15 * (roleL r L).length := kysC_len _
  rw [e, splice, kysC_app, List.take_left' h1, kys_rep, dfL, kysC_app]
  rw [List.drop_of_length_le, List.append_nil]
  rw [List.length_append, kysC_len, kysC_len, kysC_len, List.length_replicate, List.length_drop]
  omega
/-- The first key of another role. -/
def ixV (r : Int) : List KY → Nat → Int
  | [], _ => -1
  | k :: t, j => if k.role = r then ixV r t (j + 1) else j
theorem ixV_step (r : Int) (L : List KY) (k : Nat) (hk : k < L.length) : ixV r (L.drop k) k = if (kyA L k).role = r then ixV r (L.drop (k + 1)) (k + 1) else (k : Int) := by
  rw [List.drop_eq_getElem_cons hk]
  have e : kyA L k = L[k] := by simp [kyA, List.getD_eq_getElem?_getD, hk]
  rw [e, ixV]
theorem ixV_spec (r : Int) : ∀ (L : List KY) (j : Nat), (ixV r L j = -1 ∧ roleL r L = L) ∨ ∃ i, i < L.length ∧ ixV r L j = ((j + i : Nat) : Int) ∧ roleL r (L.take (i + 1)) = L.take i
  | [], j => .inl ⟨rfl, rfl⟩
  | k :: t, j => by
    by_cases h : k.role = r
    · have e : ixV r (k :: t) j = ixV r t (j + 1) := by rw [ixV, if_pos h]
      rcases ixV_spec r t (j + 1) with ⟨h1, h2⟩ | ⟨i, h1, h2, h3⟩
      · refine .inl ⟨e.trans h1, ?_⟩
        unfold roleL at h2 ⊢
        rw [List.filter_cons, if_pos (by simpa using h), h2]
      · refine .inr ⟨i + 1, by simpa using h1, e.trans (by rw [h2]; congr 1; omega), ?_⟩
        unfold roleL at h3 ⊢
        rw [List.take_succ_cons, List.filter_cons, if_pos (by simpa using h), h3, List.take_succ_cons]
    · refine .inr ⟨0, by simp, by rw [ixV, if_neg h]; simp, ?_⟩
      simp [roleL, h]

noncomputable def of1O (k : KY) (hp : H) (nx : Nat) : AO → Option (AV × H × Nat)
  | .cells [.i r] _ => some (.b (!decide (k.role = r)), hp, nx + 20)
  | _ => none
noncomputable def of1G : List AV → H → Nat → Option (AV × H × Nat)
  | [.agg xs, .op b 0], hp, nx => obind (kyOf xs) fun k => obind (hp b) (of1O k hp nx)
  | _, _, _ => none
theorem of1G_eq (xs : List AV) (b : Nat) (hp : H) (nx : Nat) : of1G [.agg xs, .op b 0] hp nx = obind (kyOf xs) fun k => obind (hp b) (of1O k hp nx) := (rfl)
theorem of1O_c (k : KY) (hp : H) (nx : Nat) (r : Int) (mt : Bool) : of1O k hp nx (.cells [.i r] mt) = some (.b (!decide (k.role = r)), hp, nx + 20) := (rfl)
attribute [go_sem] of1G_eq of1O_c kyOf_kyC
theorem of1O_inv {k : KY} {hp : H} {nx : Nat} {o : AO} {z : AV × H × Nat} (h : of1O k hp nx o = some z) : ∃ r mt, o = .cells [.i r] mt ∧ (.b (!decide (k.role = r)), hp, nx + 20) = z := by
  unfold of1O at h
  split at h
  · rename_i r mt; exact ⟨r, mt, rfl, Option.some.inj h⟩
  · cases h
theorem of1_ok : HeapOK Try.prog GLh 32 of1G := by
  refine heap_of_awp Try.func32 (bodyOf_some rfl) ?_
  intro args hp nx r hp' nx' hg
  unfold of1G at hg
  split at hg
  · rename_i xs b
    replace hg := obind_inv hg; obtain ⟨k, hk, hg⟩ := hg
    have := kyOf_inv hk; subst this
    replace hg := obind_inv hg; obtain ⟨o, ho, hg⟩ := hg
    obtain ⟨r, mt, rfl, e⟩ := of1O_inv hg
    simp only [Prod.mk.injEq] at e; obtain ⟨rfl, rfl, rfl⟩ := e
    refine ⟨Nat.le_of_ble_eq_true rfl, by omega, fun hnone => ?_⟩
    have hlt : ∀ k o, hp k = some o → k < nx := fun k o hk => lt_of_none2 hnone hk
    have hb := hlt _ _ ho
    refine awp_seqP rfl ?_
    refine awp_regP (Γ := noEnv) [1, 2] (noEnv_ok _ _) rfl rfl rfl (fun K hK => ?_)
    simp (disch := omega) only [Try.f32, go_sem, Nat.reduceAdd, ↓reduceIte]
    refine hK _ ?_
    clear hK K
    refine nx_then ?_
    refine awp_seqP rfl ?_
    refine awp_regP (Γ := noEnv) [3] (noEnv_ok _ _) rfl rfl rfl (fun K hK => ?_)
    simp (disch := omega) only [Try.f32, go_sem, Nat.reduceAdd, Nat.reduceLT, ↓reduceIte, ho, kyC, List.head?_cons, List.drop_succ_cons, List.drop_zero]
    refine hK _ ?_
    clear hK K
    refine nx_then ?_
    refine awp_retP rfl ?_
    refine ⟨rfl, fun j o h => ?_, by simp only; omega⟩
    have := hlt j o h
    simp (disch := omega) only [up_app, nat_ne, ↓reduceIte]
    exact h
  · cases hg
theorem okh32 : EntOK Try.prog GLh 32 (.heap of1G) := ⟨⟨_, Try.func32, rfl, rfl⟩, of1_ok⟩

noncomputable def ixO2 (L : List KY) (hp : H) (nx : Nat) : AO → Option (AV × H × Nat)
  | .cells [.i r] _ => some (.i (ixV r L 0), hp, nx + 40 + 60 * L.length)
  | _ => none
noncomputable def ixO (n b : Nat) (hp : H) (nx : Nat) : AO → Option (AV × H × Nat)
  | .cells xs _ => obind (kysU xs) fun L => guardO (L.length = n ∧ n ≤ 1000) (obind (hp b) (ixO2 L hp nx))
  | _ => none
noncomputable def ixG : List AV → H → Nat → Option (AV × H × Nat)
  | [.os s 0 n 15 _, .fn 32 [.op b 0]], hp, nx => obind (hp s) (ixO n b hp nx)
  | [.v (.slice none 0 0), .fn 32 [.op _ 0]], hp, nx => some (.i (-1), hp, nx + 40)
  | _, _, _ => none
theorem ixG_os (s n b : Nat) (g : Bool) (hp : H) (nx : Nat) : ixG [.os s 0 n 15 g, .fn 32 [.op b 0]] hp nx = obind (hp s) (ixO n b hp nx) := (rfl)
theorem ixG_nil (b : Nat) (hp : H) (nx : Nat) : ixG [.v (.slice none 0 0), .fn 32 [.op b 0]] hp nx = some (.i (-1), hp, nx + 40) := (rfl)
theorem ixO_c (n b : Nat) (hp : H) (nx : Nat) (xs : List AV) (mt : Bool) : ixO n b hp nx (.cells xs mt) = obind (kysU xs) fun L => guardO (L.length = n ∧ n ≤ 1000) (obind (hp b) (ixO2 L hp nx)) := (rfl)
theorem ixO2_c (L : List KY) (hp : H) (nx : Nat) (r : Int) (mt : Bool) : ixO2 L hp nx (.cells [.i r] mt) = some (.i (ixV r L 0), hp, nx + 40 + 60 * L.length) := (rfl)
attribute [go_sem] ixG_os ixG_nil ixO_c ixO2_c
theorem ixO2_inv {L : List KY} {hp : H} {nx : Nat} {o : AO} {z : AV × H × Nat} (h : ixO2 L hp nx o = some z) : ∃ r mt, o = .cells [.i r] mt ∧ (.i (ixV r L 0), hp, nx + 40 + 60 * L.length) = z := by
  unfold ixO2 at h
  split at h
  · rename_i r mt; exact ⟨r, mt, rfl, Option.some.inj h⟩
  · cases h
set_option maxHeartbeats 1000000 in
theorem ix_ok : HeapOK Try.prog GLh 37 ixG := by
  refine heap_of_awp Try.func37 (bodyOf_some rfl) ?_
  intro args hp nx r hp' nx' hg
  unfold ixG at hg
  split at hg
  · rename_i s n gg b
    replace hg := obind_inv hg; obtain ⟨o, ho, hg⟩ := hg
    cases o with
    | mapo es mt => cases hg
    | cells xs mt =>
    rw [ixO_c] at hg
    replace hg := obind_inv hg; obtain ⟨L, hL, hg⟩ := hg
    have := kysU_inv hL; subst this
    replace hg := guardO_inv hg; obtain ⟨⟨hn, hbig⟩, hg⟩ := hg
    replace hg := obind_inv hg; obtain ⟨o2, ho2, hg⟩ := hg
    obtain ⟨r, mt2, rfl, e⟩ := ixO2_inv hg
    simp only [Prod.mk.injEq] at e; obtain ⟨rfl, rfl, rfl⟩ := e
    refine ⟨Nat.le_of_ble_eq_true rfl, by omega, fun hnone => ?_⟩
    have hlt : ∀ k o, hp k = some o → k < nx := fun k o hk => lt_of_none2 hnone hk
    have hb := hlt _ _ ho2
    have hs := hlt _ _ ho
    have hkl := kysC_len L
    refine awp_seqP rfl ?_
    refine awp_regP (Γ := noEnv) [0, 1] (noEnv_ok _ _) rfl rfl rfl (fun K hK => ?_)
    simp (disch := omega) only [Try.f37, go_sem, Int.reduceNeg, ↓reduceIte]
    refine hK _ ?_
    clear hK K
    refine nx_then ?_
    refine awp_seqP rfl ?_
    refine awp_seqP rfl ?_
    refine awp_regP (Γ := noEnv) [0, 1, 7, 8] (noEnv_ok _ _) rfl rfl rfl (fun K hK => ?_)
    simp (disch := omega) only [Try.f37, go_sem, Nat.reduceAdd, Int.reduceNeg, ↓reduceIte]
    refine hK _ ?_
    clear hK K
    refine nx_then ?_
    refine awp_blockN 0 rfl rfl ?_
    refine awp_loopP (fun g : Nat => { fr := [(0, .os s 0 n 15 gg), (1, .fn 32 [.op b 0]), (7, .i n), (8, .i g)], hp := hp, nx := 0, cx := nx + 30 + 50 * g }) (fun g => g ≤ n ∧ ixV r L 0 = ixV r (L.drop g) g) (fun g => n - g) rfl ⟨0, ⟨Nat.zero_le _, rfl⟩, ⟨fun _ => .inr rfl, fun j o h => h, by simp only; omega⟩⟩ ?_
    rintro g ⟨hg1, hg2⟩ n0
    simp only at hg1 hg2 ⊢
    refine awp_seqP rfl ?_
    refine awp_regP (Γ := noEnv) [9, 0, 1, 7, 8] (noEnv_ok _ _) rfl rfl rfl (fun K hK => ?_)
    simp (disch := omega) only [Try.f37, go_sem, Int.reduceNeg, ↓reduceIte]
    refine hK _ ?_
    clear hK K
    refine nx_then ?_
    refine awp_seqP rfl ?_
    refine awp_ifD (.tmp 9) rfl rfl rfl (fun h => ?_) (fun h => ?_)
    · skip
      refine awp_drop rfl ?_
      have hgl : g < L.length := by omega
      have hst := ixV_step r L g hgl
      have hrow := kys_row L g hgl
      have hdl : 15 ≤ (List.drop (15 * g) (kysC L)).length := by rw [List.length_drop]; omega
      have e15 : g * 15 = 15 * g := by omega
      refine awp_skipP rfl ?_
      refine nx_then ?_
      refine awp_seqP rfl ?_
      refine awp_blockN 1 rfl rfl ?_
      refine awp_seqP rfl ?_
      refine awp_regP (Γ := noEnv) [0, 1, 5, 7, 8] (noEnv_ok _ _) rfl rfl rfl (fun K hK => ?_)
      simp (disch := omega) only [Try.f37, go_sem, Nat.reduceAdd, Int.reduceNeg, ↓reduceIte]
      refine hK _ ?_
      clear hK K
      refine nx_then ?_
      refine awp_seqP rfl ?_
      refine awp_regP (Γ := envL [(32, .heap of1G)]) [16, 0, 1, 5, 7, 8] (envOK_cons okh32 envOK_nil) rfl rfl rfl (fun K hK => ?_)
      simp (disch := omega) only [Try.f37, go_sem, Nat.reduceAdd, Int.reduceNeg, ↓reduceIte, ho, ho2, hrow, hdl, e15]
      refine hK _ ?_
      clear hK K
      refine nx_then ?_
      refine awp_ifE (.tmp 16) rfl rfl rfl (fun h => ?_) (fun h => ?_)
      · skip
        refine awp_drop rfl ?_
        rw [if_neg h] at hst
        refine awp_seqP rfl ?_
        refine awp_regP (Γ := noEnv) [4] (noEnv_ok _ _) rfl rfl rfl (fun K hK => ?_)
        simp (disch := omega) only [Try.f37, go_sem, Nat.reduceAdd, Int.reduceNeg, ↓reduceIte]
        refine hK _ ?_
        clear hK K
        refine nx_then ?_
        refine awp_retP rfl ?_
        refine nx_ret_blk (nx_ret_then (nx_ret_loop (nx_ret_blk (nx_ret_then ?_))))
        exact ⟨by rw [hg2, hst]; rfl, fun j o h => h, by simp only; omega⟩
      · skip
        refine awp_drop rfl ?_
        rw [if_pos h] at hst
        refine awp_skipP rfl ?_
        refine nx_blk (nx_then ?_)
        refine awp_regP (Γ := noEnv) [0, 1, 7, 8] (noEnv_ok _ _) rfl rfl rfl (fun K hK => ?_)
        simp (disch := omega) only [Try.f37, go_sem, Nat.reduceAdd, Int.reduceNeg, ↓reduceIte]
        refine hK _ ?_
        clear hK K
        refine nx_loop ?_
        exact ⟨g + 1, ⟨by omega, by rw [hg2, hst]⟩, by omega, ⟨fun _ => .inr (by simp only [Int.natCast_add, Int.natCast_one]), fun j o h => h, by simp only; omega⟩⟩
    · skip
      refine awp_drop rfl ?_
      refine awp_exitN 0 rfl rfl ?_
      refine nx_ex_then (nx_ex_loop (nx_ex_blk ?_))
      refine nx_then ?_
      refine awp_seqP rfl ?_
      obtain rfl : g = L.length := by omega
      rw [List.drop_length] at hg2
      refine awp_regP (Γ := noEnv) [4] (noEnv_ok _ _) rfl rfl rfl (fun K hK => ?_)
      simp (disch := omega) only [Try.f37, go_sem, Int.reduceNeg, ↓reduceIte]
      refine hK _ ?_
      clear hK K
      refine nx_then ?_
      refine awp_retP rfl ?_
      exact ⟨by rw [hg2]; rfl, fun j o h => h, by simp only; omega⟩
  · rename_i b
    simp only [Option.some.injEq, Prod.mk.injEq] at hg; obtain ⟨rfl, rfl, rfl⟩ := hg
    refine ⟨Nat.le_of_ble_eq_true rfl, by omega, fun hnone => ?_⟩
    refine awp_seqP rfl ?_
    refine awp_regP (Γ := noEnv) [0, 1] (noEnv_ok _ _) rfl rfl rfl (fun K hK => ?_)
    simp (disch := omega) only [Try.f37, go_sem, Int.reduceNeg, ↓reduceIte]
    refine hK _ ?_
    clear hK K
    refine nx_then ?_
    refine awp_seqP rfl ?_
    refine awp_seqP rfl ?_
    refine awp_regP (Γ := noEnv) [0, 1, 7, 8] (noEnv_ok _ _) rfl rfl rfl (fun K hK => ?_)
    simp (disch := omega) only [Try.f37, go_sem, Nat.reduceAdd, Int.reduceNeg, ↓reduceIte]
    refine hK _ ?_
    clear hK K
    refine nx_then ?_
    refine awp_blockN 0 rfl rfl ?_
    refine awp_loopP (fun u : Unit => { fr := [(0, .v (.slice none 0 0)), (1, .fn 32 [.op b 0]), (7, .i 0), (8, .i 0)], hp := hp, nx := 0, cx := nx + 30 }) (fun u => True) (fun u => 0) rfl ⟨(), trivial, ⟨fun _ => .inr rfl, fun j o h => h, by simp only; omega⟩⟩ ?_
    rintro u hu n0
    simp only at hu ⊢
    refine awp_seqP rfl ?_
    refine awp_regP (Γ := noEnv) [9, 0, 1, 7, 8] (noEnv_ok _ _) rfl rfl rfl (fun K hK => ?_)
    simp (disch := omega) only [Try.f37, go_sem, Int.reduceLT, Int.reduceNeg, ↓reduceIte]
    refine hK _ ?_
    clear hK K
    refine nx_then ?_
    refine awp_seqP rfl ?_
    refine awp_ifB (.tmp 9) rfl rfl rfl (fun h => ?_) (fun h => ?_)
    · skip
      refine awp_drop rfl ?_
      cases h
    · skip
      refine awp_drop rfl ?_
      refine awp_exitN 0 rfl rfl ?_
      refine nx_ex_then (nx_ex_loop (nx_ex_blk ?_))
      refine nx_then ?_
      refine awp_seqP rfl ?_
      refine awp_regP (Γ := noEnv) [4] (noEnv_ok _ _) rfl rfl rfl (fun K hK => ?_)
      simp (disch := omega) only [Try.f37, go_sem, Int.reduceNeg, ↓reduceIte]
      refine hK _ ?_
      clear hK K
      refine nx_then ?_
      refine awp_retP rfl ?_
      exact ⟨rfl, fun j o h => h, by simp only; omega⟩
  · cases hg
theorem okh37 : EntOK Try.prog GLh 37 (.heap ixG) := ⟨⟨_, Try.func37, rfl, rfl⟩, ix_ok⟩
end Go.AX

namespace Go.AX
open Go Go.Proofs
set_option maxRecDepth 8000

theorem kyOf_k (k : KY) : kyOf [.w32 k.id, .i k.role, .i k.st, .w8 k.seed.a, .w8 k.seed.b, .w8 k.seed.c, .w8 k.seed.d, .w8 k.seed.e, .w8 k.seed.f, .w8 k.seed.g, .w8 k.seed.h, .i k.h, .w32 k.next, .w32 k.since, .w32 k.seen] = some k := kyOf_kyC k
attribute [go_sem] kyOf_k
theorem rep_0 (zs : List AV) : rep 0 zs = [] := (rfl)
theorem isK39 : isSlT Try.prog 39 = true := by kernel_rfl
def clkG : List AV → H → Nat → Option (AV × H × Nat)
  | [.sl n xs], hp, nx => guardO (0 < n ∧ n ≤ 1000 ∧ xs.length = n * 15 ∧ noOs xs = true) (some (.os (nx + 5) 0 n 15 true, upd hp (nx + 5) (.cells xs true), nx + 20))
  | _, _, _ => none
theorem clkG_sl (n : Nat) (xs : List AV) (hp : H) (nx : Nat) : clkG [.sl n xs] hp nx = guardO (0 < n ∧ n ≤ 1000 ∧ xs.length = n * 15 ∧ noOs xs = true) (some (.os (nx + 5) 0 n 15 true, upd hp (nx + 5) (.cells xs true), nx + 20)) := (rfl)
attribute [go_sem] clkG_sl
theorem clk_ok : HeapOK Try.prog GLh 31 clkG := by
  refine heap_of_awp Try.func31 (bodyOf_some rfl) ?_
  intro args hp nx r hp' nx' hg
  unfold clkG at hg
  split at hg
  · rename_i n xs
    replace hg := guardO_inv hg; obtain ⟨⟨h0, h1, hlen, hno⟩, hg⟩ := hg
    simp only [Option.some.injEq, Prod.mk.injEq] at hg; obtain ⟨rfl, rfl, rfl⟩ := hg
    refine ⟨Nat.le_of_ble_eq_true rfl, by omega, fun hnone => ?_⟩
    have hlt : ∀ k o, hp k = some o → k < nx := fun k o hk => lt_of_none2 hnone hk
    have ht : xs.take (n * 15) = xs := List.take_of_length_le (by omega)
    refine awp_seqP rfl ?_
    refine awp_regP (Γ := noEnv) [0] (noEnv_ok _ _) rfl rfl rfl (fun K hK => ?_)
    simp (disch := omega) only [Try.f31, go_sem, ↓reduceIte]
    refine hK _ ?_
    clear hK K
    refine nx_then ?_
    refine awp_seqP rfl ?_
    refine awp_seqP rfl ?_
    refine awp_regP (Γ := noEnv) [4, 0] (noEnv_ok _ _) rfl rfl rfl (fun K hK => ?_)
    simp (disch := omega) only [Try.f31, go_sem, Nat.reduceAdd, ↓reduceIte, isK39, h0, true_and]
    refine hK _ ?_
    clear hK K
    refine nx_then ?_
    refine awp_ifB (.tmp 4) rfl rfl rfl (fun h => ?_) (fun h => ?_)
    · skip
      refine awp_drop rfl ?_
      cases h
    · skip
      refine awp_drop rfl ?_
      refine awp_skipP rfl ?_
      refine nx_then ?_
      refine awp_seqP rfl ?_
      refine awp_regP (Γ := noEnv) [2] (noEnv_ok _ _) rfl rfl rfl (fun K hK => ?_)
      simp (disch := omega) only [Try.f31, go_sem, Nat.reduceAdd, Nat.reduceLeDiff, ↓reduceIte, rep_0, List.length_nil, List.nil_append, hlen, List.drop_zero, hno, Nat.zero_add]
      refine hK _ ?_
      clear hK K
      refine nx_then ?_
      refine awp_retP rfl ?_
      refine ⟨rfl, fun j o hj => ?_, by simp only; omega⟩
      simp only [upd_apply, del_apply] at hj ⊢
      by_cases e : j = nx + 5
      · rw [if_pos e] at hj; rw [if_pos (by omega)]; exact hj
      · rw [if_neg e] at hj
        have := hlt j o hj
        rw [if_neg (by omega), if_neg (by omega), if_neg (by omega)]; exact hj
  · cases hg
theorem okh31 : EntOK Try.prog GLh 31 (.heap clkG) := ⟨⟨_, Try.func31, rfl, rfl⟩, clk_ok⟩

noncomputable def dfO2 (s : Nat) (L : List KY) (hp : H) (nx : Nat) : AO → Option (AV × H × Nat)
  | .cells [.i r] _ => some (.os s 0 (roleL r L).length 15 true, upd hp s (.cells (kysC (dfL r L)) true), nx + 200 + 200 * L.length)
  | _ => none
noncomputable def dfO (s n b : Nat) (hp : H) (nx : Nat) : AO → Option (AV × H × Nat)
  | .cells xs true => obind (kysU xs) fun L => guardO (L.length = n ∧ n ≤ 1000 ∧ b ≠ s) (obind (hp b) (dfO2 s L hp nx))
  | _ => none
noncomputable def dfG : List AV → H → Nat → Option (AV × H × Nat)
  | [.os s 0 n 15 true, .fn 32 [.op b 0]], hp, nx => obind (hp s) (dfO s n b hp nx)
  | [.v (.slice none 0 0), .fn 32 [.op _ 0]], hp, nx => some (.v (.slice none 0 0), hp, nx + 200)
  | _, _, _ => none
theorem dfG_os (s n b : Nat) (hp : H) (nx : Nat) : dfG [.os s 0 n 15 true, .fn 32 [.op b 0]] hp nx = obind (hp s) (dfO s n b hp nx) := (rfl)
theorem dfG_nil (b : Nat) (hp : H) (nx : Nat) : dfG [.v (.slice none 0 0), .fn 32 [.op b 0]] hp nx = some (.v (.slice none 0 0), hp, nx + 200) := (rfl)
theorem dfO_c (s n b : Nat) (hp : H) (nx : Nat) (xs : List AV) : dfO s n b hp nx (.cells xs true) = obind (kysU xs) fun L => guardO (L.length = n ∧ n ≤ 1000 ∧ b ≠ s) (obind (hp b) (dfO2 s L hp nx)) := (rfl)
theorem dfO2_c (s : Nat) (L : List KY) (hp : H) (nx : Nat) (r : Int) (mt : Bool) : dfO2 s L hp nx (.cells [.i r] mt) = some (.os s 0 (roleL r L).length 15 true, upd hp s (.cells (kysC (dfL r L)) true), nx + 200 + 200 * L.length) := (rfl)
attribute [go_sem] dfG_os dfG_nil dfO_c dfO2_c
theorem dfO2_inv {s : Nat} {L : List KY} {hp : H} {nx : Nat} {o : AO} {z : AV × H × Nat} (h : dfO2 s L hp nx o = some z) : ∃ r mt, o = .cells [.i r] mt ∧ (.os s 0 (roleL r L).length 15 true, upd hp s (.cells (kysC (dfL r L)) true), nx + 200 + 200 * L.length) = z := by
  unfold dfO2 at h
  split at h
  · rename_i r mt; exact ⟨r, mt, rfl, Option.some.inj h⟩
  · cases h
theorem dfO_inv {s n b : Nat} {hp : H} {nx : Nat} {o : AO} {z : AV × H × Nat} (h : dfO s n b hp nx o = some z) : ∃ L, o = .cells (kysC L) true ∧ (L.length = n ∧ n ≤ 1000 ∧ b ≠ s) ∧ obind (hp b) (dfO2 s L hp nx) = some z := by
  unfold dfO at h
  split at h
  · replace h := obind_inv h; obtain ⟨L, hL, h⟩ := h
    have := kysU_inv hL; subst this
    replace h := guardO_inv h; obtain ⟨h1, h⟩ := h
    exact ⟨L, rfl, h1, h⟩
  · cases h
theorem dfL_all {r : Int} {L : List KY} (h : roleL r L = L) : dfL r L = L := by rw [dfL, h, Nat.sub_self]; exact List.append_nil _
set_option maxHeartbeats 1000000 in
theorem df_ok : HeapOK Try.prog GLh 30 dfG := by
  refine heap_of_awp Try.func30 (bodyOf_some rfl) ?_
  intro args hp nx r hp' nx' hg
  unfold dfG at hg
  split at hg
  · rename_i s n b
    replace hg := obind_inv hg; obtain ⟨o, ho, hg⟩ := hg
    obtain ⟨L, rfl, ⟨hn, hbig, hbs⟩, hg⟩ := dfO_inv hg
    replace hg := obind_inv hg; obtain ⟨o2, ho2, hg⟩ := hg
    obtain ⟨r, mt2, rfl, e⟩ := dfO2_inv hg
    simp only [Prod.mk.injEq] at e; obtain ⟨rfl, rfl, rfl⟩ := e
    refine ⟨Nat.le_of_ble_eq_true rfl, by omega, fun hnone => ?_⟩
    have hlt : ∀ k o, hp k = some o → k < nx := fun k o hk => lt_of_none2 hnone hk
    have hb := hlt _ _ ho2
    have hs := hlt _ _ ho
    have hkl := kysC_len L
    have hrl := roleL_le r L
    refine awp_seqP rfl ?_
    refine awp_regP (Γ := noEnv) [0, 1] (noEnv_ok _ _) rfl rfl rfl (fun K hK => ?_)
    simp (disch := omega) only [Try.f30, go_sem, Int.reduceNeg, ↓reduceIte]
    refine hK _ ?_
    clear hK K
    refine nx_then ?_
    refine awp_seqP rfl ?_
    refine awp_regP (Γ := envL [(37, .heap ixG)]) [0, 1, 5] (envOK_cons okh37 envOK_nil) rfl rfl rfl (fun K hK => ?_)
    simp (disch := omega) only [Try.f30, go_sem, Nat.reduceAdd, Int.reduceNeg, ↓reduceIte, ho, ho2, hn, hbig]
    refine hK _ ?_
    clear hK K
    refine nx_then ?_
    rcases ixV_spec r L 0 with ⟨i1, i2⟩ | ⟨i, hi, i1, i2⟩
    · skip
      rw [i1]
      refine awp_seqP rfl ?_
      refine awp_seqP rfl ?_
      refine awp_regP (Γ := noEnv) [12, 0, 1, 5] (noEnv_ok _ _) rfl rfl rfl (fun K hK => ?_)
      simp (disch := omega) only [Try.f30, go_sem, Nat.reduceAdd, Int.reduceNeg, ↓reduceIte]
      refine hK _ ?_
      clear hK K
      refine nx_then ?_
      refine awp_ifB (.tmp 12) rfl rfl rfl (fun h => ?_) (fun h => ?_)
      · skip
        refine awp_drop rfl ?_
        refine awp_seqP rfl ?_
        refine awp_regP (Γ := noEnv) [4] (noEnv_ok _ _) rfl rfl rfl (fun K hK => ?_)
        simp (disch := omega) only [Try.f30, go_sem, Nat.reduceAdd, Int.reduceNeg, ↓reduceIte]
        refine hK _ ?_
        clear hK K
        refine nx_then ?_
        refine awp_retP rfl ?_
        refine nx_ret_then ?_
        rw [i2, dfL_all i2, hn]
        refine ⟨rfl, fun j o h => ?_, by simp only; omega⟩
        simp only [upd_apply] at h
        split at h
        · rename_i e; subst e; show hp j = _; rw [ho]; exact h
        · exact h
      · skip
        refine awp_drop rfl ?_
        cases h
    · skip
      rw [Nat.zero_add] at i1
      rw [i1]
      refine awp_seqP rfl ?_
      refine awp_seqP rfl ?_
      refine awp_regP (Γ := noEnv) [12, 0, 1, 5] (noEnv_ok _ _) rfl rfl rfl (fun K hK => ?_)
      simp (disch := omega) only [Try.f30, go_sem, Nat.reduceAdd, Int.reduceNeg, reduceCtorEq, ↓reduceIte]
      refine hK _ ?_
      clear hK K
      refine nx_then ?_
      refine awp_ifB (.tmp 12) rfl rfl rfl (fun h => ?_) (fun h => ?_)
      · skip
        refine awp_drop rfl ?_
        cases h
      · skip
        refine awp_drop rfl ?_
        have hI : (roleL r (L.take (i + 1))).length = i := by rw [i2, List.length_take]; omega
        have hrd : rowD r L (i + 1) = L := by rw [rowD, hI, i2]; exact List.take_append_drop _ _
        refine awp_skipP rfl ?_
        refine nx_then ?_
        refine awp_seqP rfl ?_
        refine awp_seqP rfl ?_
        refine awp_regP (Γ := noEnv) [0, 1, 5, 6] (noEnv_ok _ _) rfl rfl rfl (fun K hK => ?_)
        simp (disch := omega) only [Try.f30, go_sem, Nat.reduceAdd, Int.reduceNeg, ↓reduceIte]
        refine hK _ ?_
        clear hK K
        refine nx_then ?_
        refine awp_blockN 0 rfl rfl ?_
        refine awp_loopP (fun p : KC => { fr := [(0, .os s 0 n 15 true), (1, .fn 32 [.op b 0]), (5, .i (roleL r (L.take p.k)).length), (6, .i p.k)], hp := upd hp s (.cells (kysC (rowD r L p.k)) true), nx := 0, cx := p.c }) (fun p => p.k ≤ n ∧ p.c ≤ nx + 100 + 60 * n + 60 * p.k ∧ nx ≤ p.c) (fun p => n - p.k) rfl ⟨⟨i + 1, _⟩, ⟨by simp only; omega, by simp only; omega, by simp only; omega⟩, ⟨fun x => .inr (by simp only [hI, Int.natCast_add, Int.natCast_one]), fun j o h => by { simp only [hrd, upd_apply] at h; split at h; · { rename_i e; subst e; show hp j = _; rw [ho]; exact h }; · exact h }, Nat.le_refl _⟩⟩ ?_
        rintro ⟨k, c⟩ ⟨hk, hc, hc2⟩ n0
        simp only at hk hc hc2 ⊢
        refine awp_seqP rfl ?_
        refine awp_seqP rfl ?_
        refine awp_regP (Γ := noEnv) [19, 0, 1, 5, 6] (noEnv_ok _ _) rfl rfl rfl (fun K hK => ?_)
        simp (disch := omega) only [Try.f30, go_sem, Nat.reduceAdd, Int.reduceNeg, ↓reduceIte]
        refine hK _ ?_
        clear hK K
        refine nx_then ?_
        refine awp_ifD (.tmp 19) rfl rfl rfl (fun h => ?_) (fun h => ?_)
        · skip
          refine awp_drop rfl ?_
          have hkL : k < L.length := by omega
          have hrw := rowD_len r L k (by omega)
          have hat := rowD_at r L k
          have hrow := kys_row (rowD r L k) k (by omega)
          rw [hat] at hrow
          have hkr := kysC_len (rowD r L k)
          have hdl : 15 ≤ (List.drop (15 * k) (kysC (rowD r L k))).length := by rw [List.length_drop]; omega
          have e15 : k * 15 = 15 * k := by omega
          have hlr := role_take_le r L k
          refine awp_skipP rfl ?_
          refine nx_then ?_
          refine awp_seqP rfl ?_
          refine awp_blockN 1 rfl rfl ?_
          refine awp_seqP rfl ?_
          refine awp_regP (Γ := noEnv) [0, 1, 5, 6, 7] (noEnv_ok _ _) rfl rfl rfl (fun K hK => ?_)
          simp (disch := omega) only [Try.f30, go_sem, Nat.reduceAdd, Nat.reduceLeDiff, Int.reduceNeg, ↓reduceIte, hrow, hdl, e15]
          refine hK _ ?_
          clear hK K
          refine nx_then ?_
          refine awp_seqP rfl ?_
          refine awp_regP (Γ := envL [(32, .heap of1G)]) [29, 0, 1, 5, 6, 7] (envOK_cons okh32 envOK_nil) rfl rfl rfl (fun K hK => ?_)
          simp (disch := omega) only [Try.f30, go_sem, Nat.reduceAdd, Nat.reduceLeDiff, Int.reduceNeg, ↓reduceIte, ho2, kyC, Bool.not_not, List.take_succ_cons, List.take_zero, List.drop_zero]
          refine hK _ ?_
          clear hK K
          refine nx_then ?_
          refine awp_ifD (.tmp 29) rfl rfl rfl (fun h => ?_) (fun h => ?_)
          · skip
            refine awp_drop rfl ?_
            have hnx := role_next r L k hkL
            rw [if_pos h] at hnx
            have hnl : (roleL r (L.take (k + 1))).length = (roleL r (L.take k)).length + 1 := by rw [hnx, List.length_append]; rfl
            have hput : storeL (kysC (rowD r L k)) (15 * (roleL r (L.take k)).length) (kyC (kyA L k)) = kysC (rowD r L (k + 1)) := by
              rw [rowD_y r L k hkL h]
              exact kys_put (rowD r L k) _ (kyA L k) (by omega)
            have e16 : (roleL r (L.take k)).length * 15 = 15 * (roleL r (L.take k)).length := by omega
            refine awp_seqP rfl ?_
            refine awp_regP (Γ := noEnv) [0, 1, 5, 6] (noEnv_ok _ _) rfl rfl rfl (fun K hK => ?_)
            simp (disch := omega) only [Try.f30, go_sem, Nat.reduceAdd, Nat.reduceLeDiff, Int.reduceNeg, ↓reduceIte, hkr, e16, List.take_succ_cons, List.take_zero, List.drop_zero]
            refine hK _ ?_
            clear hK K
            refine nx_then ?_
            refine awp_regP (Γ := noEnv) [0, 1, 5, 6] (noEnv_ok _ _) rfl rfl rfl (fun K hK => ?_)
            simp (disch := omega) only [Try.f30, go_sem, Nat.reduceAdd, Int.reduceNeg, ↓reduceIte]
            refine hK _ ?_
            clear hK K
            refine nx_blk (nx_then ?_)
            refine awp_regP (Γ := noEnv) [0, 1, 5, 6] (noEnv_ok _ _) rfl rfl rfl (fun K hK => ?_)
            simp (disch := omega) only [Try.f30, go_sem, Nat.reduceAdd, Int.reduceNeg, ↓reduceIte]
            refine hK _ ?_
            clear hK K
            refine nx_loop ?_
            refine ⟨⟨k + 1, _⟩, ⟨by simp only; omega, by simp only; omega, by simp only; omega⟩, by simp only; omega, ⟨fun x => .inr (by simp only [hnl, Int.natCast_add, Int.natCast_one]), fun j o hj => ?_, Nat.le_refl _⟩⟩
            simp only [upd_apply] at hj ⊢
            by_cases e : j = s
            · rw [if_pos e] at hj ⊢; rw [← hput] at hj; exact hj
            · rw [if_neg e] at hj ⊢; have := hlt j o hj; rw [if_neg (by omega), if_neg e]; exact hj
          · skip
            refine awp_drop rfl ?_
            have hnl := rowD_n r L k hkL h
            have hnx := role_next r L k hkL
            rw [if_neg h, List.append_nil] at hnx
            refine awp_skipP rfl ?_
            refine nx_blk (nx_then ?_)
            refine awp_regP (Γ := noEnv) [0, 1, 5, 6] (noEnv_ok _ _) rfl rfl rfl (fun K hK => ?_)
            simp (disch := omega) only [Try.f30, go_sem, Nat.reduceAdd, Int.reduceNeg, ↓reduceIte]
            refine hK _ ?_
            clear hK K
            refine nx_loop ?_
            refine ⟨⟨k + 1, _⟩, ⟨by simp only; omega, by simp only; omega, by simp only; omega⟩, by simp only; omega, ⟨fun x => .inr (by simp only [hnx, Int.natCast_add, Int.natCast_one]), fun j o hj => ?_, Nat.le_refl _⟩⟩
            simp only [upd_apply] at hj ⊢
            by_cases e : j = s
            · rw [if_pos e] at hj; rw [if_neg (by omega), if_pos e, ← hnl]; exact hj
            · rw [if_neg e] at hj; have := hlt j o hj; rw [if_neg (by omega), if_neg e]; exact hj
        · skip
          refine awp_drop rfl ?_
          refine awp_exitN 0 rfl rfl ?_
          refine nx_ex_then (nx_ex_loop (nx_ex_blk ?_))
          refine nx_then ?_
          refine awp_seqP rfl ?_
          obtain rfl : k = n := by omega
          subst hn
          have hclr := kys_clr r L
          have hle : 15 * (roleL r L).length + 15 * (L.length - (roleL r L).length) ≤ (kysC (rowD r L L.length)).length := by
            rw [kysC_len, rowD_len r L _ (Nat.le_refl _)]; omega
          have e17 : (roleL r L).length * 15 = 15 * (roleL r L).length := by omega
          have e18 : (L.length - (roleL r L).length) * 15 = 15 * (L.length - (roleL r L).length) := by omega
          have hz : ([.w32 0#32, .i 0, .i 0, .w8 0#8, .w8 0#8, .w8 0#8, .w8 0#8, .w8 0#8, .w8 0#8, .w8 0#8, .w8 0#8, .i 0, .w32 0#32, .w32 0#32, .w32 0#32] : List AV) = kyC ky0 := rfl
          rw [List.take_length]
          refine awp_regP (Γ := noEnv) [0, 5] (noEnv_ok _ _) rfl rfl rfl (fun K hK => ?_)
          simp (disch := omega) only [Try.f30, go_sem, Nat.reduceAdd, Int.reduceNeg, ↓reduceIte, e17, e18, hle, hz, hclr]
          refine hK _ ?_
          clear hK K
          refine nx_then ?_
          refine awp_seqP rfl ?_
          refine awp_regP (Γ := noEnv) [4] (noEnv_ok _ _) rfl rfl rfl (fun K hK => ?_)
          simp (disch := omega) only [Try.f30, go_sem, Nat.reduceAdd, Int.reduceLE, Int.reduceNeg, Int.reduceToNat, ↓reduceIte]
          refine hK _ ?_
          clear hK K
          refine nx_then ?_
          refine awp_retP rfl ?_
          refine ⟨rfl, fun j o hj => ?_, by simp only; omega⟩
          simp only [upd_apply] at hj ⊢
          by_cases e : j = s
          · rw [if_pos e] at hj ⊢; exact hj
          · rw [if_neg e] at hj ⊢; exact hj
  · simp only [Option.some.injEq, Prod.mk.injEq] at hg; obtain ⟨rfl, rfl, rfl⟩ := hg
    refine ⟨Nat.le_of_ble_eq_true rfl, by omega, fun hnone => ?_⟩
    refine awp_seqP rfl ?_
    refine awp_regP (Γ := noEnv) [0, 1] (noEnv_ok _ _) rfl rfl rfl (fun K hK => ?_)
    simp (disch := omega) only [Try.f30, go_sem, Int.reduceNeg, ↓reduceIte]
    refine hK _ ?_
    clear hK K
    refine nx_then ?_
    refine awp_seqP rfl ?_
    refine awp_regP (Γ := envL [(37, .heap ixG)]) [0, 1, 5] (envOK_cons okh37 envOK_nil) rfl rfl rfl (fun K hK => ?_)
    simp (disch := omega) only [Try.f30, go_sem, Nat.reduceAdd, Int.reduceNeg, ↓reduceIte]
    refine hK _ ?_
    clear hK K
    refine nx_then ?_
    refine awp_seqP rfl ?_
    refine awp_seqP rfl ?_
    refine awp_regP (Γ := noEnv) [12, 0, 1, 5] (noEnv_ok _ _) rfl rfl rfl (fun K hK => ?_)
    simp (disch := omega) only [Try.f30, go_sem, Nat.reduceAdd, Int.reduceNeg, ↓reduceIte]
    refine hK _ ?_
    clear hK K
    refine nx_then ?_
    refine awp_ifB (.tmp 12) rfl rfl rfl (fun h => ?_) (fun h => ?_)
    · skip
      refine awp_drop rfl ?_
      refine awp_seqP rfl ?_
      refine awp_regP (Γ := noEnv) [4] (noEnv_ok _ _) rfl rfl rfl (fun K hK => ?_)
      simp (disch := omega) only [Try.f30, go_sem, Nat.reduceAdd, Int.reduceNeg, ↓reduceIte]
      refine hK _ ?_
      clear hK K
      refine nx_then ?_
      refine awp_retP rfl ?_
      refine nx_ret_then ?_
      exact ⟨rfl, fun j o h => h, by simp only; omega⟩
    · skip
      refine awp_drop rfl ?_
      cases h
  · cases hg
theorem okh30 : EntOK Try.prog GLh 30 (.heap dfG) := ⟨⟨_, Try.func30, rfl, rfl⟩, df_ok⟩

noncomputable def ofG : List AV → Option AV
  | [.sl n xs, .i r] => obind (kysU xs) fun L => guardO (L.length = n ∧ 0 < n ∧ n ≤ 1000) (some (.sl (roleL r L).length (kysC (roleL r L))))
  | _ => none
theorem ofG_sl (n : Nat) (xs : List AV) (r : Int) : ofG [.sl n xs, .i r] = obind (kysU xs) fun L => guardO (L.length = n ∧ 0 < n ∧ n ≤ 1000) (some (.sl (roleL r L).length (kysC (roleL r L)))) := (rfl)
attribute [go_sem] ofG_sl
theorem noOs_app (xs ys : List AV) (h : noOs xs = true) (h2 : noOs ys = true) : noOs (xs ++ ys) = true := by
  unfold noOs at h h2 ⊢
  rw [List.any_append]
  cases ha : xs.any isOs <;> cases hb : ys.any isOs <;> simp_all
theorem noOs_kys : ∀ L : List KY, noOs (kysC L) = true
  | [] => rfl
  | _ :: t => noOs_app _ _ rfl (noOs_kys t)
set_option maxHeartbeats 1000000 in
theorem of_ok : PureOK Try.prog GLh 21 ofG := by
  refine pure_of_awp Try.func21 (bodyOf_some rfl) ?_
  intro args r hg
  unfold ofG at hg
  split at hg
  · rename_i n xs role
    replace hg := obind_inv hg; obtain ⟨L, hL, hg⟩ := hg
    have := kysU_inv hL; subst this
    replace hg := guardO_inv hg; obtain ⟨⟨hn, h0, hbig⟩, hg⟩ := hg
    obtain rfl := Option.some.inj hg
    refine ⟨Nat.le_of_ble_eq_true rfl, fun nx => ?_⟩
    have hno := noOs_kys L
    have hkl : (kysC L).length = n * 15 := by rw [kysC_len]; omega
    have hrl := roleL_le role L
    have hdl : (kysC (dfL role L)).length = 15 * L.length := by rw [kysC_len, dfL, List.length_append, List.length_replicate]; omega
    have htk : (kysC (dfL role L)).take ((roleL role L).length * 15) = kysC (roleL role L) := by
      rw [dfL, kysC_app]
      exact List.take_left' (by rw [kysC_len]; omega)
    refine awp_seqP rfl ?_
    refine awp_regP (Γ := noEnv) [0, 3] (noEnv_ok _ _) rfl rfl rfl (fun K hK => ?_)
    simp (disch := omega) only [Try.f21, go_sem, Nat.reduceAdd, ↓reduceIte]
    refine hK _ ?_
    clear hK K
    refine nx_then ?_
    refine awp_seqP rfl ?_
    refine awp_regP (Γ := envL [(31, .heap clkG), (30, .heap dfG)]) [4] (envOK_cons okh31 (envOK_cons okh30 envOK_nil)) rfl rfl rfl (fun K hK => ?_)
    simp (disch := omega) only [Try.f21, go_sem, Nat.reduceAdd, ↓reduceIte, hno, hkl, h0, hbig, hn]
    refine hK _ ?_
    clear hK K
    refine nx_then ?_
    refine awp_sl 4 (nx + 2 + 5 + 5) 0 _ 15 rfl (by rw [upd_apply, if_pos rfl]) (by omega) ?_
    rw [List.drop_zero, htk]
    refine awp_retP rfl ?_
    simp (disch := omega) only [pureQ, resA, resAL, resA1, Try.f21, go_sem, ↓reduceIte]
  · cases hg
theorem okh21 : EntOK Try.prog GLh 21 (.pure false ofG) := ⟨⟨_, Try.func21, rfl, rfl⟩, of_ok⟩
end Go.AX

namespace Go.AX
open Go Go.Proofs
set_option maxRecDepth 8000

/-- A transition that is due: of which key, to which state, when. -/
structure DU where
  id : W32
  st : Int
  w : W32
def duC (x : DU) : List AV := [.w32 x.id, .i x.st, .w32 x.w]
def dusC : List DU → List AV
  | [] => []
  | x :: r => duC x ++ dusC r
theorem dusC_len (l : List DU) : (dusC l).length = 3 * l.length := by
  induction l with
  | nil => rfl
  | cons k r ih => rw [dusC, List.length_append, ih, List.length_cons]; show 3 + _ = _; omega
theorem dusC_app (l m : List DU) : dusC (l ++ m) = dusC l ++ dusC m := by
  induction l with
  | nil => rfl
  | cons k r ih => rw [List.cons_append, dusC, ih, dusC, List.append_assoc]
theorem dusC_one (k : DU) : dusC [k] = duC k := by rw [dusC, dusC, List.append_nil]
theorem duC_inj {a b : DU} (h : duC a = duC b) : a = b := by
  obtain ⟨_, _, _⟩ := a
  obtain ⟨_, _, _⟩ := b
  simp only [duC, List.cons.injEq, AV.w32.injEq, AV.i.injEq, and_true] at h
  obtain ⟨rfl, rfl, rfl⟩ := h
  rfl
theorem dusC_inj : ∀ {a b : List DU}, dusC a = dusC b → a = b
  | [], [], _ => rfl
  | [], y :: s, h => by have := congrArg List.length h; rw [dusC_len, dusC_len] at this; simp at this
  | x :: r, [], h => by have := congrArg List.length h; rw [dusC_len, dusC_len] at this; simp at this
  | x :: r, y :: s, h => by
    rw [dusC, dusC] at h
    obtain ⟨h1, h2⟩ := List.append_inj h rfl
    rw [duC_inj h1, dusC_inj h2]
open Classical in
noncomputable def dusU (xs : List AV) : Option (List DU) := if h : ∃ L, xs = dusC L then some (Classical.choose h) else none
theorem dusU_C (L : List DU) : dusU (dusC L) = some L := by
  have hx : ∃ L', dusC L = dusC L' := ⟨L, rfl⟩
  unfold dusU
  rw [dif_pos hx]
  exact congrArg some (dusC_inj (Classical.choose_spec hx)).symm
attribute [go_sem] dusU_C
def du0 : DU := ⟨0#32, 0, 0#32⟩
def duA (L : List DU) (k : Nat) : DU := L.getD k du0
theorem dus_drop : ∀ (L : List DU) (k : Nat), k < L.length → List.drop (3 * k) (dusC L) = duC (duA L k) ++ dusC (L.drop (k + 1))
  | [], k, h => by simp at h
  | x :: r, 0, _ => by simp [dusC, duA]
  | x :: r, k + 1, h => by
    have e : 3 * (k + 1) = 3 + 3 * k := by omega
    have h3 : (duC x).length = 3 := rfl
    rw [dusC, e, ← List.drop_drop, List.drop_left' h3, dus_drop r k (by simpa using h)]
    simp [duA]
theorem dus_row (L : List DU) (k : Nat) (hk : k < L.length) : (List.drop (3 * k) (dusC L)).take 3 = duC (duA L k) := by
  rw [dus_drop L k hk]
  exact List.take_left' rfl

/-- The keys that sign. -/
def sgP (r : Int) (k : KY) : Bool := decide (k.st = 1) || (decide (r = 1) && decide (k.st = 2))
def sgL (r : Int) (L : List KY) : List W32 := ((roleL r L).filter (sgP r)).map (·.id)
theorem filt_next {α β : Type} (p : α → Bool) (f : α → β) (R : List α) (k : Nat) (hk : k < R.length) : ((R.take (k + 1)).filter p).map f = ((R.take k).filter p).map f ++ if p R[k] = true then [f R[k]] else [] := by
  rw [List.take_add_one, List.getElem?_eq_getElem hk, List.filter_append, List.map_append]
  congr 1
  simp only [Option.toList_some, List.filter_cons, List.filter_nil]
  split <;> rfl
theorem kyA_get (L : List KY) (k : Nat) (hk : k < L.length) : L[k] = kyA L k := by simp [kyA, List.getD_eq_getElem?_getD, hk]
noncomputable def sgG : List AV → Option AV
  | [.sl n xs, .i r] => obind (kysU xs) fun L => guardO (L.length = n ∧ 0 < n ∧ n ≤ 1000) (some (.sl (sgL r L).length (c32 (sgL r L))))
  | _ => none
theorem sgG_eq (n : Nat) (xs : List AV) (r : Int) : sgG [.sl n xs, .i r] = obind (kysU xs) fun L => guardO (L.length = n ∧ 0 < n ∧ n ≤ 1000) (some (.sl (sgL r L).length (c32 (sgL r L)))) := (rfl)
attribute [go_sem] sgG_eq
set_option maxHeartbeats 1000000 in
theorem sg_ok : PureOK Try.prog GLh 11 sgG := by
  refine pure_of_awp Try.func11 (bodyOf_some rfl) ?_
  intro args r hg
  unfold sgG at hg
  split at hg
  · rename_i n xs role
    replace hg := obind_inv hg; obtain ⟨L, hL, hg⟩ := hg
    have := kysU_inv hL; subst this
    replace hg := guardO_inv hg; obtain ⟨⟨hn, h0, hbig⟩, hg⟩ := hg
    obtain rfl := Option.some.inj hg
    refine ⟨Nat.le_of_ble_eq_true rfl, fun nx => ?_⟩
    obtain ⟨R, hR⟩ : ∃ R, roleL role L = R := ⟨_, rfl⟩
    have hRl : R.length ≤ 1000 := by have := roleL_le role L; rw [hR] at this; omega
    have hsg : sgL role L = (R.filter (sgP role)).map (·.id) := by rw [sgL, hR]
    rw [hsg]
    refine awp_seqP rfl ?_
    refine awp_regP (Γ := noEnv) [0, 1] (noEnv_ok _ _) rfl rfl rfl (fun K hK => ?_)
    simp (disch := omega) only [Try.f11, go_sem, ↓reduceIte]
    refine hK _ ?_
    clear hK K
    refine nx_then ?_
    refine awp_seqP rfl ?_
    refine awp_regP (Γ := noEnv) [0, 1, 5] (noEnv_ok _ _) rfl rfl rfl (fun K hK => ?_)
    simp (disch := omega) only [Try.f11, go_sem, ↓reduceIte]
    refine hK _ ?_
    clear hK K
    refine nx_then ?_
    refine awp_seqP rfl ?_
    refine awp_seqP rfl ?_
    refine awp_regP (Γ := envL [(21, .pure false ofG)]) [1, 5, 10, 11, 12] (envOK_cons okh21 envOK_nil) rfl rfl rfl (fun K hK => ?_)
    simp (disch := omega) only [Try.f11, go_sem, Nat.reduceAdd, ↓reduceIte, h0, hbig, hn, hR]
    refine hK _ ?_
    clear hK K
    refine nx_then ?_
    refine awp_own 5 1 rfl ?_
    refine awp_keep [1, 5, 10, 11, 12] ?_
    simp only [kf_nil, kf_cons, look_cons, ↓reduceIte, Nat.reduceEqDiff]
    refine awp_blockN 0 rfl rfl ?_
    refine awp_loopP (fun p : KIC => { fr := [(1, .i role), (5, .os p.id 0 (((R.take p.k).filter (sgP role)).map (·.id)).length 1 true), (10, .sl R.length (kysC R)), (11, .i R.length), (12, .i p.k)], hp := upd (fun _ => none) p.id (.cells (c32 (((R.take p.k).filter (sgP role)).map (·.id))) true), nx := 0, cx := p.c }) (fun p => p.k ≤ R.length ∧ nx ≤ p.id ∧ p.id < p.c) (fun p => R.length - p.k) rfl ⟨⟨0, _, _⟩, ⟨Nat.zero_le _, by simp only; omega, by simp only; omega⟩, sub_same rfl rfl (Nat.le_refl _)⟩ ?_
    rintro ⟨k, id, c⟩ ⟨hk, hid, hc⟩ n0
    simp only at hk hid hc ⊢
    refine awp_seqP rfl ?_
    refine awp_regP (Γ := noEnv) [13, 1, 5, 10, 11, 12] (noEnv_ok _ _) rfl rfl rfl (fun K hK => ?_)
    simp (disch := omega) only [Try.f11, go_sem, ↓reduceIte]
    refine hK _ ?_
    clear hK K
    refine nx_then ?_
    refine awp_seqP rfl ?_
    refine awp_ifD (.tmp 13) rfl rfl rfl (fun h => ?_) (fun h => ?_)
    · skip
      refine awp_drop rfl ?_
      have hkR : k < R.length := by omega
      have hrow := kys_row R k hkR
      have hkl := kysC_len R
      have hdl : 15 ≤ (List.drop (15 * k) (kysC R)).length := by rw [List.length_drop]; omega
      have e15 : k * 15 = 15 * k := by omega
      have hfn := filt_next (sgP role) (·.id) R k hkR
      rw [kyA_get R k hkR] at hfn
      have hll : (((R.take k).filter (sgP role)).map (·.id)).length ≤ 1000 := by
        rw [List.length_map]
        exact Nat.le_trans (List.length_filter_le _ _) (by rw [List.length_take]; omega)
      obtain ⟨F, hF⟩ : ∃ F, ((R.take k).filter (sgP role)).map (·.id) = F := ⟨_, rfl⟩
      rw [hF] at hfn hll ⊢
      obtain ⟨X, hX⟩ : ∃ X, kyA R k = X := ⟨_, rfl⟩
      rw [hX] at hrow hfn
      refine awp_skipP rfl ?_
      refine nx_then ?_
      refine awp_seqP rfl ?_
      refine awp_blockN 1 rfl rfl ?_
      refine awp_seqP rfl ?_
      refine awp_regP (Γ := noEnv) [1, 5, 7, 10, 11, 12] (noEnv_ok _ _) rfl rfl rfl (fun K hK => ?_)
      simp (disch := omega) only [Try.f11, go_sem, Nat.reduceAdd, Nat.reduceLeDiff, ↓reduceIte, hrow, hdl, e15]
      refine hK _ ?_
      clear hK K
      refine nx_then ?_
      by_cases h1 : X.st = 1
      · skip
        have d1 : decide (X.st = 1) = true := decide_eq_true h1
        have hp : sgP role X = true := by simp [sgP, h1]
        rw [if_pos hp] at hfn
        refine awp_seqP rfl ?_
        refine awp_regP (Γ := noEnv) [27, 1, 5, 7, 10, 11, 12] (noEnv_ok _ _) rfl rfl rfl (fun K hK => ?_)
        simp (disch := omega) only [Try.f11, go_sem, Nat.reduceAdd, Nat.reduceLT, ↓reduceIte, d1, kyC, List.head?_cons, List.drop_succ_cons, List.drop_zero]
        refine hK _ ?_
        clear hK K
        refine nx_then ?_
        refine awp_ifB (.tmp 27) rfl rfl rfl (fun h => ?_) (fun h => ?_)
        · skip
          refine awp_drop rfl ?_
          refine awp_regP (Γ := noEnv) [1, 5, 10, 11, 12] (noEnv_ok _ _) rfl rfl rfl (fun K hK => ?_)
          simp (disch := omega) only [Try.f11, go_sem, Nat.reduceAdd, Nat.reduceLeDiff, Nat.reduceLT, ↓reduceIte, List.head?_cons, List.take_succ_cons, List.take_zero, List.drop_zero]
          refine hK _ ?_
          clear hK K
          refine nx_blk (nx_then ?_)
          refine awp_regP (Γ := noEnv) [1, 5, 10, 11, 12] (noEnv_ok _ _) rfl rfl rfl (fun K hK => ?_)
          simp (disch := omega) only [Try.f11, go_sem, Nat.reduceAdd, ↓reduceIte]
          refine hK _ ?_
          clear hK K
          refine nx_loop ?_
          have hfl : (F ++ [X.id]).length = F.length + 1 := by rw [List.length_append]; rfl
          refine ⟨⟨k + 1, c + 1 + 4 + 12 + 4, _⟩, ⟨by simp only; omega, by simp only; omega, by simp only; omega⟩, by simp only; omega, ⟨fun x => .inr (by simp only [hfn, hfl, Int.natCast_add, Int.natCast_one]), fun j o hj => ?_, Nat.le_refl _⟩⟩
          simp only [hfn, upd_apply] at hj
          simp only [upd_apply]
          by_cases e : j = c + 1 + 4 + 12 + 4
          · rw [if_pos e] at hj ⊢; rw [← hj, ← c32_app]; rfl
          · rw [if_neg e] at hj; cases hj
        · skip
          refine awp_drop rfl ?_
          cases h
      · skip
        have d1 : decide (X.st = 1) = false := decide_eq_false h1
        by_cases h2 : role = 1
        · skip
          have d2 : decide (role = 1) = true := decide_eq_true h2
          by_cases h3 : X.st = 2
          · skip
            have d3 : decide (X.st = 2) = true := decide_eq_true h3
            have hp : sgP role X = true := by simp [sgP, h2, h3]
            rw [if_pos hp] at hfn
            refine awp_seqP rfl ?_
            refine awp_regP (Γ := noEnv) [27, 1, 5, 7, 10, 11, 12] (noEnv_ok _ _) rfl rfl rfl (fun K hK => ?_)
            simp (disch := omega) only [Try.f11, go_sem, Nat.reduceAdd, Nat.reduceLT, reduceCtorEq, ↓reduceIte, d1, d2, d3, beq_self_eq_true, kyC, List.head?_cons, List.drop_succ_cons, List.drop_zero]
            refine hK _ ?_
            clear hK K
            refine nx_then ?_
            refine awp_ifB (.tmp 27) rfl rfl rfl (fun h => ?_) (fun h => ?_)
            · skip
              refine awp_drop rfl ?_
              refine awp_regP (Γ := noEnv) [1, 5, 10, 11, 12] (noEnv_ok _ _) rfl rfl rfl (fun K hK => ?_)
              simp (disch := omega) only [Try.f11, go_sem, Nat.reduceAdd, Nat.reduceLeDiff, Nat.reduceLT, ↓reduceIte, List.head?_cons, List.take_succ_cons, List.take_zero, List.drop_zero]
              refine hK _ ?_
              clear hK K
              refine nx_blk (nx_then ?_)
              refine awp_regP (Γ := noEnv) [1, 5, 10, 11, 12] (noEnv_ok _ _) rfl rfl rfl (fun K hK => ?_)
              simp (disch := omega) only [Try.f11, go_sem, Nat.reduceAdd, ↓reduceIte]
              refine hK _ ?_
              clear hK K
              refine nx_loop ?_
              have hfl : (F ++ [X.id]).length = F.length + 1 := by rw [List.length_append]; rfl
              refine ⟨⟨k + 1, c + 1 + 4 + 12 + 4, _⟩, ⟨by simp only; omega, by simp only; omega, by simp only; omega⟩, by simp only; omega, ⟨fun x => .inr (by simp only [hfn, hfl, Int.natCast_add, Int.natCast_one]), fun j o hj => ?_, Nat.le_refl _⟩⟩
              simp only [hfn, upd_apply] at hj
              simp only [upd_apply]
              by_cases e : j = c + 1 + 4 + 12 + 4
              · rw [if_pos e] at hj ⊢; rw [← hj, ← c32_app]; rfl
              · rw [if_neg e] at hj; cases hj
            · skip
              refine awp_drop rfl ?_
              cases h
          · skip
            have d3 : decide (X.st = 2) = false := decide_eq_false h3
            have hp : sgP role X = false := by simp [sgP, h1, h3]
            rw [if_neg (by rw [hp]; decide), List.append_nil] at hfn
            refine awp_seqP rfl ?_
            refine awp_regP (Γ := noEnv) [27, 1, 5, 7, 10, 11, 12] (noEnv_ok _ _) rfl rfl rfl (fun K hK => ?_)
            simp (disch := omega) only [Try.f11, go_sem, Nat.reduceAdd, Nat.reduceLT, reduceCtorEq, ↓reduceIte, d1, d2, d3, beq_self_eq_true, kyC, List.head?_cons, List.drop_succ_cons, List.drop_zero]
            refine hK _ ?_
            clear hK K
            refine nx_then ?_
            refine awp_ifB (.tmp 27) rfl rfl rfl (fun h => ?_) (fun h => ?_)
            · skip
              refine awp_drop rfl ?_
              cases h
            · skip
              refine awp_drop rfl ?_
              refine awp_skipP rfl ?_
              refine nx_blk (nx_then ?_)
              refine awp_regP (Γ := noEnv) [1, 5, 10, 11, 12] (noEnv_ok _ _) rfl rfl rfl (fun K hK => ?_)
              simp (disch := omega) only [Try.f11, go_sem, Nat.reduceAdd, ↓reduceIte]
              refine hK _ ?_
              clear hK K
              refine nx_loop ?_
              refine ⟨⟨k + 1, id, _⟩, ⟨by simp only; omega, by simp only; omega, by simp only; omega⟩, by simp only; omega, ⟨fun x => .inr (by simp only [hfn, Int.natCast_add, Int.natCast_one]), fun j o hj => ?_, Nat.le_refl _⟩⟩
              simp only [hfn, upd_apply] at hj
              simp only [upd_apply]
              by_cases e : j = id
              · rw [if_pos e] at hj; rw [if_neg (by omega), if_pos e]; exact hj
              · rw [if_neg e] at hj; cases hj
        · skip
          have d2 : decide (role = 1) = false := decide_eq_false h2
          have hp : sgP role X = false := by simp [sgP, h1, h2]
          rw [if_neg (by rw [hp]; decide), List.append_nil] at hfn
          refine awp_seqP rfl ?_
          refine awp_regP (Γ := noEnv) [27, 1, 5, 7, 10, 11, 12] (noEnv_ok _ _) rfl rfl rfl (fun K hK => ?_)
          simp (disch := omega) only [Try.f11, go_sem, Nat.reduceAdd, Nat.reduceLT, reduceCtorEq, ↓reduceIte, d1, d2, beq_self_eq_true, kyC, List.head?_cons, List.drop_succ_cons, List.drop_zero]
          refine hK _ ?_
          clear hK K
          refine nx_then ?_
          refine awp_ifB (.tmp 27) rfl rfl rfl (fun h => ?_) (fun h => ?_)
          · skip
            refine awp_drop rfl ?_
            cases h
          · skip
            refine awp_drop rfl ?_
            refine awp_skipP rfl ?_
            refine nx_blk (nx_then ?_)
            refine awp_regP (Γ := noEnv) [1, 5, 10, 11, 12] (noEnv_ok _ _) rfl rfl rfl (fun K hK => ?_)
            simp (disch := omega) only [Try.f11, go_sem, Nat.reduceAdd, ↓reduceIte]
            refine hK _ ?_
            clear hK K
            refine nx_loop ?_
            refine ⟨⟨k + 1, id, _⟩, ⟨by simp only; omega, by simp only; omega, by simp only; omega⟩, by simp only; omega, ⟨fun x => .inr (by simp only [hfn, Int.natCast_add, Int.natCast_one]), fun j o hj => ?_, Nat.le_refl _⟩⟩
            simp only [hfn, upd_apply] at hj
            simp only [upd_apply]
            by_cases e : j = id
            · rw [if_pos e] at hj; rw [if_neg (by omega), if_pos e]; exact hj
            · rw [if_neg e] at hj; cases hj
    · skip
      refine awp_drop rfl ?_
      refine awp_exitN 0 rfl rfl ?_
      refine nx_ex_then (nx_ex_loop (nx_ex_blk ?_))
      refine nx_then ?_
      refine awp_seqP rfl ?_
      obtain rfl : k = R.length := by omega
      rw [List.take_length]
      refine awp_sl 5 id 0 _ 1 rfl (by rw [upd_apply, if_pos rfl]) (by rw [c32_len]; omega) ?_
      rw [List.drop_zero, Nat.mul_one, List.take_of_length_le (Nat.le_of_eq (c32_len _))]
      refine awp_regP (Γ := noEnv) [4] (noEnv_ok _ _) rfl rfl rfl (fun K hK => ?_)
      simp (disch := omega) only [Try.f11, go_sem, Nat.reduceAdd, ↓reduceIte]
      refine hK _ ?_
      clear hK K
      refine nx_then ?_
      refine awp_retP rfl ?_
      simp (disch := omega) only [pureQ, resA, resAL, resA1, Try.f11, go_sem, ↓reduceIte]
  · cases hg
theorem okh11 : EntOK Try.prog GLh 11 (.pure false sgG) := ⟨⟨_, Try.func11, rfl, rfl⟩, sg_ok⟩
end Go.AX

namespace Go.AX
open Go Go.Proofs
set_option maxRecDepth 8000

/-- What is due for a key. -/
def dueI (c : CF) (x : KY) (R : List KY) : List DU := (R.filter fun y => decide (y.id < x.id)).map fun y => ⟨y.id, 4, bhV x.seen c.dp c.dt⟩
def dueOf (L : List KY) (c : CF) (x : KY) : List DU :=
  if x.role = 0 then (if x.st = 0 then [⟨x.id, 1, bhV x.since c.pr c.kt⟩] else if x.st = 3 then [⟨x.id, 4, bhV x.since c.pr c.mx⟩] else [])
  else if x.role = 1 then (if x.st = 1 then [⟨x.id, 2, bhV x.since c.pr c.kt⟩] else if x.st = 2 ∧ x.seen ≠ 0#32 then dueI c x (roleL 1 L) else [])
  else []
def alD (L : List KY) (c : CF) (xs : List KY) : List DU := xs.flatMap (dueOf L c)
theorem alD_next (L : List KY) (c : CF) (k : Nat) (hk : k < L.length) : alD L c (L.take (k + 1)) = alD L c (L.take k) ++ dueOf L c (kyA L k) := by
  rw [alD, List.take_add_one, List.getElem?_eq_getElem hk, List.flatMap_append, kyA_get L k hk]
  simp [alD]
theorem dueI_len (c : CF) (x : KY) (R : List KY) : (dueI c x R).length ≤ R.length := by
  rw [dueI, List.length_map]; exact List.length_filter_le _ _
theorem dueOf_len (L : List KY) (c : CF) (x : KY) : (dueOf L c x).length ≤ L.length + 1 := by
  have h := dueI_len c x (roleL 1 L)
  have h2 := roleL_le 1 L
  unfold dueOf
  split
  · split
    · simp
    · split <;> simp
  · split
    · split
      · simp
      · split
        · omega
        · simp
    · simp
theorem alD_len (L : List KY) (c : CF) : ∀ xs : List KY, (alD L c xs).length ≤ xs.length * (L.length + 1)
  | [] => by simp [alD]
  | x :: r => by
    have h := alD_len L c r
    have h2 := dueOf_len L c x
    unfold alD at h ⊢
    rw [List.flatMap_cons, List.length_append, List.length_cons, Nat.add_mul]
    omega
theorem dueI_next (c : CF) (x : KY) (R : List KY) (k : Nat) (hk : k < R.length) : dueI c x (R.take (k + 1)) = dueI c x (R.take k) ++ if (kyA R k).id < x.id then [⟨(kyA R k).id, 4, bhV x.seen c.dp c.dt⟩] else [] := by
  have h := filt_next (fun y : KY => decide (y.id < x.id)) (fun y => (⟨y.id, 4, bhV x.seen c.dp c.dt⟩ : DU)) R k hk
  rw [kyA_get R k hk] at h
  simp only [decide_eq_true_eq] at h
  exact h
/-- What was gathered when k keys of a role were looked at. -/
def inD (F : List DU) (c : CF) (x : KY) (R : List KY) (k : Nat) : List DU := F ++ dueI c x (R.take k)
theorem inD_zero (F : List DU) (c : CF) (x : KY) (R : List KY) : inD F c x R 0 = F := by simp [inD, dueI]
theorem inD_all (F : List DU) (c : CF) (x : KY) (R : List KY) : inD F c x R R.length = F ++ dueI c x R := by rw [inD, List.take_length]
theorem inD_len (F : List DU) (c : CF) (x : KY) (R : List KY) (k : Nat) : (inD F c x R k).length ≤ F.length + k := by
  have h := dueI_len c x (R.take k)
  rw [List.length_take] at h
  rw [inD, List.length_append]; omega
theorem inD_next (F : List DU) (c : CF) (x : KY) (R : List KY) (k : Nat) (hk : k < R.length) : inD F c x R (k + 1) = inD F c x R k ++ if (kyA R k).id < x.id then [⟨(kyA R k).id, 4, bhV x.seen c.dp c.dt⟩] else [] := by
  rw [inD, dueI_next c x R k hk, ← List.append_assoc]; rfl
noncomputable def alG : List AV → Option AV
  | [.sl n xs, .agg cs] => obind (kysU xs) fun L => obind (cfOf cs) fun c => guardO (L.length = n ∧ n ≤ 100) (some (.sl (alD L c L).length (dusC (alD L c L))))
  | [.v (.slice none 0 0), .agg cs] => obind (cfOf cs) fun _ => some (.sl 0 [])
  | _ => none
theorem alG_eq (n : Nat) (xs cs : List AV) : alG [.sl n xs, .agg cs] = obind (kysU xs) fun L => obind (cfOf cs) fun c => guardO (L.length = n ∧ n ≤ 100) (some (.sl (alD L c L).length (dusC (alD L c L)))) := (rfl)
theorem alG_nil (cs : List AV) : alG [.v (.slice none 0 0), .agg cs] = obind (cfOf cs) fun _ => some (.sl 0 []) := (rfl)
attribute [go_sem] alG_eq alG_nil
set_option maxHeartbeats 2000000 in
theorem al_ok : PureOK Try.prog GLh 27 alG := by
  refine pure_of_awp Try.func27 (bodyOf_some rfl) ?_
  intro args r hg
  unfold alG at hg
  split at hg
  · rename_i n xs cs
    replace hg := obind_inv hg; obtain ⟨L, hL, hg⟩ := hg
    have := kysU_inv hL; subst this
    replace hg := obind_inv hg; obtain ⟨cf, hcf, hg⟩ := hg
    have := cfOf_inv hcf; subst this
    replace hg := guardO_inv hg; obtain ⟨⟨hn, hbig⟩, hg⟩ := hg
    obtain rfl := Option.some.inj hg
    refine ⟨Nat.le_of_ble_eq_true rfl, fun nx => ?_⟩
    refine awp_seqP rfl ?_
    refine awp_regP (Γ := noEnv) [0, 3] (noEnv_ok _ _) rfl rfl rfl (fun K hK => ?_)
    simp (disch := omega) only [Try.f27, go_sem, Nat.reduceAdd, ↓reduceIte]
    refine hK _ ?_
    clear hK K
    refine nx_then ?_
    refine awp_seqP rfl ?_
    refine awp_regP (Γ := noEnv) [0, 3, 5] (noEnv_ok _ _) rfl rfl rfl (fun K hK => ?_)
    simp (disch := omega) only [Try.f27, go_sem, ↓reduceIte]
    refine hK _ ?_
    clear hK K
    refine nx_then ?_
    refine awp_seqP rfl ?_
    refine awp_seqP rfl ?_
    refine awp_regP (Γ := noEnv) [0, 3, 5, 10, 11, 12] (noEnv_ok _ _) rfl rfl rfl (fun K hK => ?_)
    simp (disch := omega) only [Try.f27, go_sem, Nat.reduceAdd, ↓reduceIte]
    refine hK _ ?_
    clear hK K
    refine nx_then ?_
    refine awp_own 5 3 rfl ?_
    refine awp_keep [0, 3, 5, 10, 11, 12] ?_
    simp only [kf_nil, kf_cons, look_cons, ↓reduceIte, Nat.reduceEqDiff]
    refine awp_blockN 0 rfl rfl ?_
    refine awp_loopP (fun p : KIC => { fr := [(0, .sl n (kysC L)), (3, .op nx 0), (5, .os p.id 0 (alD L cf (L.take p.k)).length 3 true), (10, .sl n (kysC L)), (11, .i n), (12, .i p.k)], hp := upd (upd (fun _ => none) nx (.cells (cfC cf) true)) p.id (.cells (dusC (alD L cf (L.take p.k))) true), nx := 0, cx := p.c }) (fun p => p.k ≤ n ∧ nx < p.id ∧ p.id < p.c) (fun p => n - p.k) rfl ⟨⟨0, _, _⟩, ⟨Nat.zero_le _, by simp only; omega, by simp only; omega⟩, sub_same rfl rfl (Nat.le_refl _)⟩ ?_
    rintro ⟨k, id, c⟩ ⟨hk, hid, hc⟩ n0
    simp only at hk hid hc ⊢
    refine awp_seqP rfl ?_
    refine awp_regP (Γ := noEnv) [13, 0, 3, 5, 10, 11, 12] (noEnv_ok _ _) rfl rfl rfl (fun K hK => ?_)
    simp (disch := omega) only [Try.f27, go_sem, ↓reduceIte]
    refine hK _ ?_
    clear hK K
    refine nx_then ?_
    refine awp_seqP rfl ?_
    refine awp_ifD (.tmp 13) rfl rfl rfl (fun h => ?_) (fun h => ?_)
    · skip
      refine awp_drop rfl ?_
      have hkR : k < L.length := by omega
      have hrow := kys_row L k hkR
      have hkl := kysC_len L
      have hdl : 15 ≤ (List.drop (15 * k) (kysC L)).length := by rw [List.length_drop]; omega
      have e15 : k * 15 = 15 * k := by omega
      have hfn := alD_next L cf k hkR
      have hll : (alD L cf (L.take k)).length ≤ 20000 := by
        have h1 := alD_len L cf (L.take k)
        have h2 : (L.take k).length * (L.length + 1) ≤ 100 * 101 := Nat.mul_le_mul (by rw [List.length_take]; omega) (by omega)
        omega
      obtain ⟨F, hF⟩ : ∃ F, alD L cf (L.take k) = F := ⟨_, rfl⟩
      rw [hF] at hfn hll ⊢
      obtain ⟨X, hX⟩ : ∃ X, kyA L k = X := ⟨_, rfl⟩
      rw [hX] at hrow hfn
      have hfl := dusC_len F
      refine awp_skipP rfl ?_
      refine nx_then ?_
      refine awp_seqP rfl ?_
      refine awp_blockN 1 rfl rfl ?_
      refine awp_seqP rfl ?_
      refine awp_regP (Γ := noEnv) [0, 3, 5, 7, 10, 11, 12] (noEnv_ok _ _) rfl rfl rfl (fun K hK => ?_)
      simp (disch := omega) only [Try.f27, go_sem, Nat.reduceAdd, Nat.reduceLeDiff, ↓reduceIte, hrow, hdl, e15]
      refine hK _ ?_
      clear hK K
      refine nx_then ?_
      by_cases r0 : X.role = 0
      · skip
        have d0 : decide (X.role = 0) = true := decide_eq_true r0
        have d1 : decide (X.role = 1) = false := decide_eq_false (by omega)
        by_cases s0 : X.st = 0
        · skip
          have b0 : decide (X.st = 0) = true := decide_eq_true s0
          have hdu : dueOf L cf X = [⟨X.id, 1, bhV X.since cf.pr cf.kt⟩] := by unfold dueOf; rw [if_pos r0, if_pos s0]
          rw [hdu] at hfn
          refine awp_blockN 2 rfl rfl ?_
          refine awp_seqP rfl ?_
          refine awp_regP (Γ := noEnv) [16, 0, 3, 5, 7, 10, 11, 12] (noEnv_ok _ _) rfl rfl rfl (fun K hK => ?_)
          simp (disch := omega) only [Try.f27, go_sem, Nat.reduceAdd, Nat.reduceLT, ↓reduceIte, d0, b0, beq_self_eq_true, kyC, List.head?_cons, List.drop_succ_cons, List.drop_zero]
          refine hK _ ?_
          clear hK K
          refine nx_then ?_
          refine awp_ifB (.tmp 16) rfl rfl rfl (fun h => ?_) (fun h => ?_)
          · skip
            refine awp_drop rfl ?_
            refine awp_drwP (Γ := envL [(36, .pure true behG)]) (fun k => if k = 12 then 4098 else 2) [0, 3, 5, 10, 11, 12] mixed (envOK_cons okh36 envOK_nil) rfl rfl rfl (by kernel_rfl) (fun K hK => ?_)
            simp (disch := omega) only [Try.f27, go_sem, Nat.reduceAdd, Nat.reduceLeDiff, Nat.reduceLT, ↓reduceIte, cfC_eq, hfl, splice, List.nil_append, List.cons_append, List.head?_cons, List.take_succ_cons, List.take_zero, List.drop_succ_cons, List.drop_zero, List.all_cons, List.all_nil, Option.isSome_some, Bool.and_self]
            refine hK _ ?_
            clear hK K
            refine nx_blk (nx_blk (nx_then ?_))
            refine awp_regP (Γ := noEnv) [0, 3, 5, 10, 11, 12] (noEnv_ok _ _) rfl rfl rfl (fun K hK => ?_)
            simp (disch := omega) only [Try.f27, go_sem, Nat.reduceAdd, ↓reduceIte]
            refine hK _ ?_
            clear hK K
            refine nx_loop ?_
            refine ⟨⟨k + 1, c + 1 + 4 + 9 + 12, _⟩, ⟨by simp only; omega, by simp only; omega, by simp only; omega⟩, by simp only; omega, ⟨fun x => .inr (by simp only [hfn, List.length_append, List.length_cons, List.length_nil, Nat.zero_add, Int.natCast_add, Int.natCast_one]), fun j o hj => ?_, Nat.le_refl _⟩⟩
            simp only [hfn, upd_apply] at hj
            simp only [upd_apply, del_apply]
            by_cases e : j = c + 1 + 4 + 9 + 12
            · rw [if_pos e] at hj ⊢; rw [← hj, dusC_app, dusC_one]; rfl
            · rw [if_neg e] at hj ⊢
              by_cases e2 : j = nx
              · rw [if_pos e2] at hj; rw [if_neg (by omega), if_neg (by omega), if_neg (by omega), if_neg (by omega), if_pos e2]; exact hj
              · rw [if_neg e2] at hj; cases hj
          · skip
            refine awp_drop rfl ?_
            cases h
        · skip
          have b0 : decide (X.st = 0) = false := decide_eq_false s0
          by_cases s3 : X.st = 3
          · skip
            have b3 : decide (X.st = 3) = true := decide_eq_true s3
            have hdu : dueOf L cf X = [⟨X.id, 4, bhV X.since cf.pr cf.mx⟩] := by unfold dueOf; rw [if_pos r0, if_neg s0, if_pos s3]
            rw [hdu] at hfn
            refine awp_blockN 2 rfl rfl ?_
            refine awp_seqP rfl ?_
            refine awp_regP (Γ := noEnv) [16, 0, 3, 5, 7, 10, 11, 12] (noEnv_ok _ _) rfl rfl rfl (fun K hK => ?_)
            simp (disch := omega) only [Try.f27, go_sem, Nat.reduceAdd, Nat.reduceLT, ↓reduceIte, d0, b0, beq_self_eq_true, kyC, List.head?_cons, List.drop_succ_cons, List.drop_zero]
            refine hK _ ?_
            clear hK K
            refine nx_then ?_
            refine awp_ifB (.tmp 16) rfl rfl rfl (fun h => ?_) (fun h => ?_)
            · skip
              refine awp_drop rfl ?_
              cases h
            · skip
              refine awp_drop rfl ?_
              refine awp_seqP rfl ?_
              refine awp_regP (Γ := noEnv) [38, 0, 3, 5, 7, 10, 11, 12] (noEnv_ok _ _) rfl rfl rfl (fun K hK => ?_)
              simp (disch := omega) only [Try.f27, go_sem, Nat.reduceAdd, Nat.reduceLT, ↓reduceIte, d0, b3, beq_self_eq_true, List.head?_cons, List.drop_succ_cons, List.drop_zero]
              refine hK _ ?_
              clear hK K
              refine nx_then ?_
              refine awp_ifB (.tmp 38) rfl rfl rfl (fun h => ?_) (fun h => ?_)
              · skip
                refine awp_drop rfl ?_
                refine awp_drwP (Γ := envL [(36, .pure true behG)]) (fun k => if k = 12 then 4098 else 2) [0, 3, 5, 10, 11, 12] mixed (envOK_cons okh36 envOK_nil) rfl rfl rfl (by kernel_rfl) (fun K hK => ?_)
                simp (disch := omega) only [Try.f27, go_sem, Nat.reduceAdd, Nat.reduceLeDiff, Nat.reduceLT, ↓reduceIte, cfC_eq, hfl, splice, List.nil_append, List.cons_append, List.head?_cons, List.take_succ_cons, List.take_zero, List.drop_succ_cons, List.drop_zero, List.all_cons, List.all_nil, Option.isSome_some, Bool.and_self]
                refine hK _ ?_
                clear hK K
                refine nx_blk (nx_blk (nx_then ?_))
                refine awp_regP (Γ := noEnv) [0, 3, 5, 10, 11, 12] (noEnv_ok _ _) rfl rfl rfl (fun K hK => ?_)
                simp (disch := omega) only [Try.f27, go_sem, Nat.reduceAdd, ↓reduceIte]
                refine hK _ ?_
                clear hK K
                refine nx_loop ?_
                refine ⟨⟨k + 1, c + 1 + 4 + 9 + 9 + 12, _⟩, ⟨by simp only; omega, by simp only; omega, by simp only; omega⟩, by simp only; omega, ⟨fun x => .inr (by simp only [hfn, List.length_append, List.length_cons, List.length_nil, Nat.zero_add, Int.natCast_add, Int.natCast_one]), fun j o hj => ?_, Nat.le_refl _⟩⟩
                simp only [hfn, upd_apply] at hj
                simp only [upd_apply, del_apply]
                by_cases e : j = c + 1 + 4 + 9 + 9 + 12
                · rw [if_pos e] at hj ⊢; rw [← hj, dusC_app, dusC_one]; rfl
                · rw [if_neg e] at hj ⊢
                  by_cases e2 : j = nx
                  · rw [if_pos e2] at hj; rw [if_neg (by omega), if_neg (by omega), if_neg (by omega), if_neg (by omega), if_pos e2]; exact hj
                  · rw [if_neg e2] at hj; cases hj
              · skip
                refine awp_drop rfl ?_
                cases h
          · skip
            have b3 : decide (X.st = 3) = false := decide_eq_false s3
            have hdu : dueOf L cf X = [] := by unfold dueOf; rw [if_pos r0, if_neg s0, if_neg s3]
            rw [hdu] at hfn
            refine awp_blockN 2 rfl rfl ?_
            refine awp_seqP rfl ?_
            refine awp_regP (Γ := noEnv) [16, 0, 3, 5, 7, 10, 11, 12] (noEnv_ok _ _) rfl rfl rfl (fun K hK => ?_)
            simp (disch := omega) only [Try.f27, go_sem, Nat.reduceAdd, Nat.reduceLT, ↓reduceIte, d0, b0, beq_self_eq_true, kyC, List.head?_cons, List.drop_succ_cons, List.drop_zero]
            refine hK _ ?_
            clear hK K
            refine nx_then ?_
            refine awp_ifB (.tmp 16) rfl rfl rfl (fun h => ?_) (fun h => ?_)
            · skip
              refine awp_drop rfl ?_
              cases h
            · skip
              refine awp_drop rfl ?_
              refine awp_seqP rfl ?_
              refine awp_regP (Γ := noEnv) [38, 0, 3, 5, 7, 10, 11, 12] (noEnv_ok _ _) rfl rfl rfl (fun K hK => ?_)
              simp (disch := omega) only [Try.f27, go_sem, Nat.reduceAdd, Nat.reduceLT, ↓reduceIte, d0, b3, beq_self_eq_true, List.head?_cons, List.drop_succ_cons, List.drop_zero]
              refine hK _ ?_
              clear hK K
              refine nx_then ?_
              refine awp_ifB (.tmp 38) rfl rfl rfl (fun h => ?_) (fun h => ?_)
              · skip
                refine awp_drop rfl ?_
                cases h
              · skip
                refine awp_drop rfl ?_
                refine awp_seqP rfl ?_
                refine awp_regP (Γ := noEnv) [60, 0, 3, 5, 7, 10, 11, 12] (noEnv_ok _ _) rfl rfl rfl (fun K hK => ?_)
                simp (disch := omega) only [Try.f27, go_sem, Nat.reduceAdd, Nat.reduceLT, reduceCtorEq, ↓reduceIte, d1, List.head?_cons, List.drop_succ_cons, List.drop_zero]
                refine hK _ ?_
                clear hK K
                refine nx_then ?_
                refine awp_ifB (.tmp 60) rfl rfl rfl (fun h => ?_) (fun h => ?_)
                · skip
                  refine awp_drop rfl ?_
                  cases h
                · skip
                  refine awp_drop rfl ?_
                  refine awp_seqP rfl ?_
                  refine awp_regP (Γ := noEnv) [82, 0, 3, 5, 7, 10, 11, 12] (noEnv_ok _ _) rfl rfl rfl (fun K hK => ?_)
                  simp (disch := omega) only [Try.f27, go_sem, Nat.reduceAdd, Nat.reduceLT, reduceCtorEq, ↓reduceIte, d1, List.head?_cons, List.drop_succ_cons, List.drop_zero]
                  refine hK _ ?_
                  clear hK K
                  refine nx_then ?_
                  refine awp_ifB (.tmp 82) rfl rfl rfl (fun h => ?_) (fun h => ?_)
                  · skip
                    refine awp_drop rfl ?_
                    cases h
                  · skip
                    refine awp_drop rfl ?_
                    refine awp_skipP rfl ?_
                    refine nx_blk (nx_blk (nx_then ?_))
                    refine awp_regP (Γ := noEnv) [0, 3, 5, 10, 11, 12] (noEnv_ok _ _) rfl rfl rfl (fun K hK => ?_)
                    simp (disch := omega) only [Try.f27, go_sem, Nat.reduceAdd, ↓reduceIte]
                    refine hK _ ?_
                    clear hK K
                    refine nx_loop ?_
                    refine ⟨⟨k + 1, id, _⟩, ⟨by simp only; omega, by simp only; omega, by simp only; omega⟩, by simp only; omega, ⟨fun x => .inr (by simp only [hfn, List.append_nil, Int.natCast_add, Int.natCast_one]), fun j o hj => ?_, Nat.le_refl _⟩⟩
                    simp only [hfn, List.append_nil, upd_apply] at hj
                    simp only [upd_apply]
                    by_cases e : j = id
                    · rw [if_pos e] at hj; rw [if_neg (by omega), if_pos e]; exact hj
                    · rw [if_neg e] at hj
                      by_cases e2 : j = nx
                      · rw [if_pos e2] at hj; rw [if_neg (by omega), if_neg e, if_pos e2]; exact hj
                      · rw [if_neg e2] at hj; cases hj
      · skip
        have d0 : decide (X.role = 0) = false := decide_eq_false r0
        by_cases r1 : X.role = 1
        · skip
          have d1 : decide (X.role = 1) = true := decide_eq_true r1
          by_cases s1 : X.st = 1
          · skip
            have b1 : decide (X.st = 1) = true := decide_eq_true s1
            have hdu : dueOf L cf X = [⟨X.id, 2, bhV X.since cf.pr cf.kt⟩] := by unfold dueOf; rw [if_neg r0, if_pos r1, if_pos s1]
            rw [hdu] at hfn
            refine awp_blockN 2 rfl rfl ?_
            refine awp_seqP rfl ?_
            refine awp_regP (Γ := noEnv) [16, 0, 3, 5, 7, 10, 11, 12] (noEnv_ok _ _) rfl rfl rfl (fun K hK => ?_)
            simp (disch := omega) only [Try.f27, go_sem, Nat.reduceAdd, Nat.reduceLT, reduceCtorEq, ↓reduceIte, d0, kyC, List.head?_cons, List.drop_succ_cons, List.drop_zero]
            refine hK _ ?_
            clear hK K
            refine nx_then ?_
            refine awp_ifB (.tmp 16) rfl rfl rfl (fun h => ?_) (fun h => ?_)
            · skip
              refine awp_drop rfl ?_
              cases h
            · skip
              refine awp_drop rfl ?_
              refine awp_seqP rfl ?_
              refine awp_regP (Γ := noEnv) [38, 0, 3, 5, 7, 10, 11, 12] (noEnv_ok _ _) rfl rfl rfl (fun K hK => ?_)
              simp (disch := omega) only [Try.f27, go_sem, Nat.reduceAdd, Nat.reduceLT, reduceCtorEq, ↓reduceIte, d0, List.head?_cons, List.drop_succ_cons, List.drop_zero]
              refine hK _ ?_
              clear hK K
              refine nx_then ?_
              refine awp_ifB (.tmp 38) rfl rfl rfl (fun h => ?_) (fun h => ?_)
              · skip
                refine awp_drop rfl ?_
                cases h
              · skip
                refine awp_drop rfl ?_
                refine awp_seqP rfl ?_
                refine awp_regP (Γ := noEnv) [60, 0, 3, 5, 7, 10, 11, 12] (noEnv_ok _ _) rfl rfl rfl (fun K hK => ?_)
                simp (disch := omega) only [Try.f27, go_sem, Nat.reduceAdd, Nat.reduceLT, ↓reduceIte, d1, b1, beq_self_eq_true, List.head?_cons, List.drop_succ_cons, List.drop_zero]
                refine hK _ ?_
                clear hK K
                refine nx_then ?_
                refine awp_ifB (.tmp 60) rfl rfl rfl (fun h => ?_) (fun h => ?_)
                · skip
                  refine awp_drop rfl ?_
                  refine awp_drwP (Γ := envL [(36, .pure true behG)]) (fun k => if k = 12 then 4098 else 2) [0, 3, 5, 10, 11, 12] mixed (envOK_cons okh36 envOK_nil) rfl rfl rfl (by kernel_rfl) (fun K hK => ?_)
                  simp (disch := omega) only [Try.f27, go_sem, Nat.reduceAdd, Nat.reduceLeDiff, Nat.reduceLT, ↓reduceIte, cfC_eq, hfl, splice, List.nil_append, List.cons_append, List.head?_cons, List.take_succ_cons, List.take_zero, List.drop_succ_cons, List.drop_zero, List.all_cons, List.all_nil, Option.isSome_some, Bool.and_self]
                  refine hK _ ?_
                  clear hK K
                  refine nx_blk (nx_blk (nx_then ?_))
                  refine awp_regP (Γ := noEnv) [0, 3, 5, 10, 11, 12] (noEnv_ok _ _) rfl rfl rfl (fun K hK => ?_)
                  simp (disch := omega) only [Try.f27, go_sem, Nat.reduceAdd, ↓reduceIte]
                  refine hK _ ?_
                  clear hK K
                  refine nx_loop ?_
                  refine ⟨⟨k + 1, c + 1 + 4 + 9 + 9 + 9 + 12, _⟩, ⟨by simp only; omega, by simp only; omega, by simp only; omega⟩, by simp only; omega, ⟨fun x => .inr (by simp only [hfn, List.length_append, List.length_cons, List.length_nil, Nat.zero_add, Int.natCast_add, Int.natCast_one]), fun j o hj => ?_, Nat.le_refl _⟩⟩
                  simp only [hfn, upd_apply] at hj
                  simp only [upd_apply, del_apply]
                  by_cases e : j = c + 1 + 4 + 9 + 9 + 9 + 12
                  · rw [if_pos e] at hj ⊢; rw [← hj, dusC_app, dusC_one]; rfl
                  · rw [if_neg e] at hj ⊢
                    by_cases e2 : j = nx
                    · rw [if_pos e2] at hj; rw [if_neg (by omega), if_neg (by omega), if_neg (by omega), if_neg (by omega), if_pos e2]; exact hj
                    · rw [if_neg e2] at hj; cases hj
                · skip
                  refine awp_drop rfl ?_
                  cases h
          · skip
            have b1 : decide (X.st = 1) = false := decide_eq_false s1
            by_cases s2 : X.st = 2
            · skip
              have b2 : decide (X.st = 2) = true := decide_eq_true s2
              by_cases z : X.seen = 0#32
              · skip
                have bz : decide (X.seen = 0#32) = true := decide_eq_true z
                have hdu : dueOf L cf X = [] := by unfold dueOf; rw [if_neg r0, if_pos r1, if_neg s1, if_neg (fun e => e.2 z)]
                rw [hdu] at hfn
                refine awp_blockN 2 rfl rfl ?_
                refine awp_seqP rfl ?_
                refine awp_regP (Γ := noEnv) [16, 0, 3, 5, 7, 10, 11, 12] (noEnv_ok _ _) rfl rfl rfl (fun K hK => ?_)
                simp (disch := omega) only [Try.f27, go_sem, Nat.reduceAdd, Nat.reduceLT, reduceCtorEq, ↓reduceIte, d0, kyC, List.head?_cons, List.drop_succ_cons, List.drop_zero]
                refine hK _ ?_
                clear hK K
                refine nx_then ?_
                refine awp_ifB (.tmp 16) rfl rfl rfl (fun h => ?_) (fun h => ?_)
                · skip
                  refine awp_drop rfl ?_
                  cases h
                · skip
                  refine awp_drop rfl ?_
                  refine awp_seqP rfl ?_
                  refine awp_regP (Γ := noEnv) [38, 0, 3, 5, 7, 10, 11, 12] (noEnv_ok _ _) rfl rfl rfl (fun K hK => ?_)
                  simp (disch := omega) only [Try.f27, go_sem, Nat.reduceAdd, Nat.reduceLT, reduceCtorEq, ↓reduceIte, d0, List.head?_cons, List.drop_succ_cons, List.drop_zero]
                  refine hK _ ?_
                  clear hK K
                  refine nx_then ?_
                  refine awp_ifB (.tmp 38) rfl rfl rfl (fun h => ?_) (fun h => ?_)
                  · skip
                    refine awp_drop rfl ?_
                    cases h
                  · skip
                    refine awp_drop rfl ?_
                    refine awp_seqP rfl ?_
                    refine awp_regP (Γ := noEnv) [60, 0, 3, 5, 7, 10, 11, 12] (noEnv_ok _ _) rfl rfl rfl (fun K hK => ?_)
                    simp (disch := omega) only [Try.f27, go_sem, Nat.reduceAdd, Nat.reduceLT, ↓reduceIte, d1, b1, beq_self_eq_true, List.head?_cons, List.drop_succ_cons, List.drop_zero]
                    refine hK _ ?_
                    clear hK K
                    refine nx_then ?_
                    refine awp_ifB (.tmp 60) rfl rfl rfl (fun h => ?_) (fun h => ?_)
                    · skip
                      refine awp_drop rfl ?_
                      cases h
                    · skip
                      refine awp_drop rfl ?_
                      refine awp_seqP rfl ?_
                      refine awp_regP (Γ := noEnv) [82, 0, 3, 5, 7, 10, 11, 12] (noEnv_ok _ _) rfl rfl rfl (fun K hK => ?_)
                      simp (disch := omega) only [Try.f27, go_sem, Nat.reduceAdd, Nat.reduceLT, Int.reduceLE, Int.reduceLT, BitVec.reduceOfInt, ↓reduceIte, d1, b2, bz, beq_self_eq_true, Bool.not_true, List.head?_cons, List.drop_succ_cons, List.drop_zero]
                      refine hK _ ?_
                      clear hK K
                      refine nx_then ?_
                      refine awp_ifB (.tmp 82) rfl rfl rfl (fun h => ?_) (fun h => ?_)
                      · skip
                        refine awp_drop rfl ?_
                        cases h
                      · skip
                        refine awp_drop rfl ?_
                        refine awp_skipP rfl ?_
                        refine nx_blk (nx_blk (nx_then ?_))
                        refine awp_regP (Γ := noEnv) [0, 3, 5, 10, 11, 12] (noEnv_ok _ _) rfl rfl rfl (fun K hK => ?_)
                        simp (disch := omega) only [Try.f27, go_sem, Nat.reduceAdd, ↓reduceIte]
                        refine hK _ ?_
                        clear hK K
                        refine nx_loop ?_
                        refine ⟨⟨k + 1, id, _⟩, ⟨by simp only; omega, by simp only; omega, by simp only; omega⟩, by simp only; omega, ⟨fun x => .inr (by simp only [hfn, List.append_nil, Int.natCast_add, Int.natCast_one]), fun j o hj => ?_, Nat.le_refl _⟩⟩
                        simp only [hfn, List.append_nil, upd_apply] at hj
                        simp only [upd_apply]
                        by_cases e : j = id
                        · rw [if_pos e] at hj; rw [if_neg (by omega), if_pos e]; exact hj
                        · rw [if_neg e] at hj
                          by_cases e2 : j = nx
                          · rw [if_pos e2] at hj; rw [if_neg (by omega), if_neg e, if_pos e2]; exact hj
                          · rw [if_neg e2] at hj; cases hj
              · skip
                have bz : decide (X.seen = 0#32) = false := decide_eq_false z
                have h0n : 0 < n := by omega
                obtain ⟨R, hRR⟩ : ∃ R, roleL 1 L = R := ⟨_, rfl⟩
                have hRl : R.length ≤ 100 := by have := roleL_le 1 L; rw [hRR] at this; omega
                have hdu : dueOf L cf X = dueI cf X R := by unfold dueOf; rw [if_neg r0, if_pos r1, if_neg s1, if_pos ⟨s2, z⟩, hRR]
                rw [hdu] at hfn
                refine awp_blockN 2 rfl rfl ?_
                refine awp_seqP rfl ?_
                refine awp_regP (Γ := noEnv) [16, 0, 3, 5, 7, 10, 11, 12] (noEnv_ok _ _) rfl rfl rfl (fun K hK => ?_)
                simp (disch := omega) only [Try.f27, go_sem, Nat.reduceAdd, Nat.reduceLT, reduceCtorEq, ↓reduceIte, d0, kyC, List.head?_cons, List.drop_succ_cons, List.drop_zero]
                refine hK _ ?_
                clear hK K
                refine nx_then ?_
                refine awp_ifB (.tmp 16) rfl rfl rfl (fun h => ?_) (fun h => ?_)
                · skip
                  refine awp_drop rfl ?_
                  cases h
                · skip
                  refine awp_drop rfl ?_
                  refine awp_seqP rfl ?_
                  refine awp_regP (Γ := noEnv) [38, 0, 3, 5, 7, 10, 11, 12] (noEnv_ok _ _) rfl rfl rfl (fun K hK => ?_)
                  simp (disch := omega) only [Try.f27, go_sem, Nat.reduceAdd, Nat.reduceLT, reduceCtorEq, ↓reduceIte, d0, List.head?_cons, List.drop_succ_cons, List.drop_zero]
                  refine hK _ ?_
                  clear hK K
                  refine nx_then ?_
                  refine awp_ifB (.tmp 38) rfl rfl rfl (fun h => ?_) (fun h => ?_)
                  · skip
                    refine awp_drop rfl ?_
                    cases h
                  · skip
                    refine awp_drop rfl ?_
                    refine awp_seqP rfl ?_
                    refine awp_regP (Γ := noEnv) [60, 0, 3, 5, 7, 10, 11, 12] (noEnv_ok _ _) rfl rfl rfl (fun K hK => ?_)
                    simp (disch := omega) only [Try.f27, go_sem, Nat.reduceAdd, Nat.reduceLT, ↓reduceIte, d1, b1, beq_self_eq_true, List.head?_cons, List.drop_succ_cons, List.drop_zero]
                    refine hK _ ?_
                    clear hK K
                    refine nx_then ?_
                    refine awp_ifB (.tmp 60) rfl rfl rfl (fun h => ?_) (fun h => ?_)
                    · skip
                      refine awp_drop rfl ?_
                      cases h
                    · skip
                      refine awp_drop rfl ?_
                      refine awp_seqP rfl ?_
                      refine awp_regP (Γ := noEnv) [82, 0, 3, 5, 7, 10, 11, 12] (noEnv_ok _ _) rfl rfl rfl (fun K hK => ?_)
                      simp (disch := omega) only [Try.f27, go_sem, Nat.reduceAdd, Nat.reduceLT, Int.reduceLE, Int.reduceLT, BitVec.reduceOfInt, ↓reduceIte, d1, b2, bz, beq_self_eq_true, Bool.not_false, List.head?_cons, List.drop_succ_cons, List.drop_zero]
                      refine hK _ ?_
                      clear hK K
                      refine nx_then ?_
                      refine awp_ifB (.tmp 82) rfl rfl rfl (fun h => ?_) (fun h => ?_)
                      · skip
                        refine awp_drop rfl ?_
                        refine awp_seqP rfl ?_
                        refine awp_regP (Γ := envL [(21, .pure false ofG)]) [0, 3, 5, 7, 10, 11, 12, 97, 98, 99] (envOK_cons okh21 envOK_nil) rfl rfl rfl (fun K hK => ?_)
                        simp (disch := omega) only [Try.f27, go_sem, Nat.reduceAdd, ↓reduceIte, hn, h0n, hRR]
                        refine hK _ ?_
                        clear hK K
                        refine nx_then ?_
                        refine awp_blockN 3 rfl rfl ?_
                        refine awp_loopP (fun p : KIC => { fr := [(0, .sl n (kysC L)), (3, .op nx 0), (5, .os p.id 0 (inD F cf X R p.k).length 3 true), (7, .op (c + 1 + 2) 0), (10, .sl n (kysC L)), (11, .i n), (12, .i k), (97, .sl R.length (kysC R)), (98, .i R.length), (99, .i p.k)], hp := upd (upd (upd (fun _ => none) nx (.cells (cfC cf) true)) (c + 1 + 2) (.cells (kyC X) true)) p.id (.cells (dusC (inD F cf X R p.k)) true), nx := 0, cx := p.c }) (fun p => p.k ≤ R.length ∧ nx < p.id ∧ p.id < p.c ∧ c + 3 < p.c ∧ p.id ≠ c + 1 + 2) (fun p => R.length - p.k) rfl ⟨⟨0, id, _⟩, ⟨Nat.zero_le _, by simp only; omega, by simp only; omega, by simp only; omega, by simp only; omega⟩, ⟨fun x => .inr (by rw [inD_zero]; rfl), fun j o hj => by { simp only [inD_zero, upd_apply] at hj ⊢; by_cases e : j = id; · { rw [if_pos e] at hj; rw [if_neg (by omega), if_pos e]; exact hj }; · { rw [if_neg e] at hj; by_cases e2 : j = c + 1 + 2; · { rw [if_pos e2] at hj ⊢; exact hj }; · { rw [if_neg e2] at hj ⊢; rw [if_neg e]; exact hj } } }, Nat.le_refl _⟩⟩ ?_
                        rintro ⟨q, id2, c2⟩ ⟨hq, hq1, hq2, hq3, hq4⟩ n0
                        simp only at hq hq1 hq2 hq3 hq4 ⊢
                        refine awp_seqP rfl ?_
                        refine awp_regP (Γ := noEnv) [100, 0, 3, 5, 7, 10, 11, 12, 97, 98, 99] (noEnv_ok _ _) rfl rfl rfl (fun K hK => ?_)
                        simp (disch := omega) only [Try.f27, go_sem, ↓reduceIte]
                        refine hK _ ?_
                        clear hK K
                        refine nx_then ?_
                        refine awp_seqP rfl ?_
                        refine awp_ifD (.tmp 100) rfl rfl rfl (fun h => ?_) (fun h => ?_)
                        · skip
                          refine awp_drop rfl ?_
                          have hqR : q < R.length := by omega
                          have hrow2 := kys_row R q hqR
                          have hkl2 := kysC_len R
                          have hdl2 : 15 ≤ (List.drop (15 * q) (kysC R)).length := by rw [List.length_drop]; omega
                          have e152 : q * 15 = 15 * q := by omega
                          have hfn3 := inD_next F cf X R q hqR
                          obtain ⟨Y, hY⟩ : ∃ Y, kyA R q = Y := ⟨_, rfl⟩
                          rw [hY] at hrow2 hfn3
                          have hil := inD_len F cf X R q
                          obtain ⟨G, hG⟩ : ∃ G, inD F cf X R q = G := ⟨_, rfl⟩
                          rw [hG] at hil hfn3 ⊢
                          have hgl : G.length ≤ 30000 := by omega
                          have hgl2 := dusC_len G
                          refine awp_skipP rfl ?_
                          refine nx_then ?_
                          refine awp_seqP rfl ?_
                          refine awp_blockN 4 rfl rfl ?_
                          refine awp_seqP rfl ?_
                          refine awp_regP (Γ := noEnv) [0, 3, 5, 7, 9, 10, 11, 12, 97, 98, 99] (noEnv_ok _ _) rfl rfl rfl (fun K hK => ?_)
                          simp (disch := omega) only [Try.f27, go_sem, Nat.reduceAdd, Nat.reduceLeDiff, ↓reduceIte, hrow2, hdl2, e152]
                          refine hK _ ?_
                          clear hK K
                          refine nx_then ?_
                          refine awp_seqP rfl ?_
                          refine awp_regP (Γ := noEnv) [107, 0, 3, 5, 7, 9, 10, 11, 12, 97, 98, 99] (noEnv_ok _ _) rfl rfl rfl (fun K hK => ?_)
                          simp (disch := omega) only [Try.f27, go_sem, Nat.reduceAdd, Nat.reduceLT, ↓reduceIte, kyC, List.head?_cons, List.drop_zero]
                          refine hK _ ?_
                          clear hK K
                          refine nx_then ?_
                          refine awp_ifD (.tmp 107) rfl rfl rfl (fun h => ?_) (fun h => ?_)
                          · skip
                            refine awp_drop rfl ?_
                            rw [if_pos h] at hfn3
                            refine awp_drwP (Γ := envL [(36, .pure true behG)]) (fun k => if k = 12 then 4098 else 2) [0, 3, 5, 7, 10, 11, 12, 97, 98, 99] mixed (envOK_cons okh36 envOK_nil) rfl rfl rfl (by kernel_rfl) (fun K hK => ?_)
                            simp (disch := omega) only [Try.f27, go_sem, Nat.reduceAdd, Nat.reduceLeDiff, Nat.reduceLT, ↓reduceIte, cfC_eq, hgl2, splice, List.nil_append, List.cons_append, List.head?_cons, List.take_succ_cons, List.take_zero, List.drop_succ_cons, List.drop_zero, List.all_cons, List.all_nil, Option.isSome_some, Bool.and_self]
                            refine hK _ ?_
                            clear hK K
                            refine nx_blk (nx_then ?_)
                            refine awp_regP (Γ := noEnv) [0, 3, 5, 7, 10, 11, 12, 97, 98, 99] (noEnv_ok _ _) rfl rfl rfl (fun K hK => ?_)
                            simp (disch := omega) only [Try.f27, go_sem, Nat.reduceAdd, ↓reduceIte]
                            refine hK _ ?_
                            clear hK K
                            refine nx_loop ?_
                            refine ⟨⟨q + 1, c2 + 1 + 4 + 5 + 12, _⟩, ⟨by simp only; omega, by simp only; omega, by simp only; omega, by simp only; omega, by simp only; omega⟩, by simp only; omega, ⟨fun x => .inr (by simp only [hfn3, List.length_append, List.length_cons, List.length_nil, Nat.zero_add, Int.natCast_add, Int.natCast_one]), fun j o hj => ?_, Nat.le_refl _⟩⟩
                            simp only [hfn3, upd_apply] at hj
                            simp only [upd_apply, del_apply]
                            by_cases e : j = c2 + 1 + 4 + 5 + 12
                            · rw [if_pos e] at hj ⊢; rw [← hj, dusC_app, dusC_one]; rfl
                            · rw [if_neg e] at hj ⊢
                              by_cases e2 : j = c + 1 + 2
                              · rw [if_pos e2] at hj; rw [if_neg (by omega), if_neg (by omega), if_neg (by omega), if_neg (by omega), if_pos e2]; exact hj
                              · rw [if_neg e2] at hj
                                by_cases e3 : j = nx
                                · rw [if_pos e3] at hj; rw [if_neg (by omega), if_neg (by omega), if_neg (by omega), if_neg (by omega), if_neg e2, if_pos e3]; exact hj
                                · rw [if_neg e3] at hj; cases hj
                          · skip
                            refine awp_drop rfl ?_
                            rw [if_neg h, List.append_nil] at hfn3
                            refine awp_skipP rfl ?_
                            refine nx_blk (nx_then ?_)
                            refine awp_regP (Γ := noEnv) [0, 3, 5, 7, 10, 11, 12, 97, 98, 99] (noEnv_ok _ _) rfl rfl rfl (fun K hK => ?_)
                            simp (disch := omega) only [Try.f27, go_sem, Nat.reduceAdd, ↓reduceIte]
                            refine hK _ ?_
                            clear hK K
                            refine nx_loop ?_
                            refine ⟨⟨q + 1, id2, _⟩, ⟨by simp only; omega, by simp only; omega, by simp only; omega, by simp only; omega, by simp only; omega⟩, by simp only; omega, ⟨fun x => .inr (by simp only [hfn3, Int.natCast_add, Int.natCast_one]), fun j o hj => ?_, Nat.le_refl _⟩⟩
                            simp only [hfn3, upd_apply] at hj
                            simp only [upd_apply]
                            by_cases e : j = id2
                            · rw [if_pos e] at hj; rw [if_neg (by omega), if_pos e]; exact hj
                            · rw [if_neg e] at hj
                              by_cases e2 : j = c + 1 + 2
                              · rw [if_pos e2] at hj; rw [if_neg (by omega), if_neg e, if_pos e2]; exact hj
                              · rw [if_neg e2] at hj
                                by_cases e3 : j = nx
                                · rw [if_pos e3] at hj; rw [if_neg (by omega), if_neg e, if_neg e2, if_pos e3]; exact hj
                                · rw [if_neg e3] at hj; cases hj
                        · skip
                          refine awp_drop rfl ?_
                          refine awp_exitN 3 rfl rfl ?_
                          refine nx_ex_then (nx_ex_loop (nx_ex_blk ?_))
                          refine nx_blk (nx_blk (nx_then ?_))
                          obtain rfl : q = R.length := by omega
                          rw [← inD_all] at hfn
                          obtain ⟨G, hG⟩ : ∃ G, inD F cf X R R.length = G := ⟨_, rfl⟩
                          rw [hG] at hfn ⊢
                          refine awp_regP (Γ := noEnv) [0, 3, 5, 10, 11, 12] (noEnv_ok _ _) rfl rfl rfl (fun K hK => ?_)
                          simp (disch := omega) only [Try.f27, go_sem, Nat.reduceAdd, ↓reduceIte]
                          refine hK _ ?_
                          clear hK K
                          refine nx_loop ?_
                          refine ⟨⟨k + 1, id2, _⟩, ⟨by simp only; omega, by simp only; omega, by simp only; omega⟩, by simp only; omega, ⟨fun x => .inr (by simp only [hfn, Int.natCast_add, Int.natCast_one]), fun j o hj => ?_, Nat.le_refl _⟩⟩
                          simp only [hfn, upd_apply] at hj
                          simp only [upd_apply]
                          by_cases e : j = id2
                          · rw [if_pos e] at hj ⊢; exact hj
                          · rw [if_neg e] at hj ⊢
                            by_cases e2 : j = nx
                            · rw [if_pos e2] at hj; rw [if_neg (by omega), if_pos e2]; exact hj
                            · rw [if_neg e2] at hj; cases hj
                      · skip
                        refine awp_drop rfl ?_
                        cases h
            · skip
              have b2 : decide (X.st = 2) = false := decide_eq_false s2
              have hdu : dueOf L cf X = [] := by unfold dueOf; rw [if_neg r0, if_pos r1, if_neg s1, if_neg (fun e => s2 e.1)]
              rw [hdu] at hfn
              refine awp_blockN 2 rfl rfl ?_
              refine awp_seqP rfl ?_
              refine awp_regP (Γ := noEnv) [16, 0, 3, 5, 7, 10, 11, 12] (noEnv_ok _ _) rfl rfl rfl (fun K hK => ?_)
              simp (disch := omega) only [Try.f27, go_sem, Nat.reduceAdd, Nat.reduceLT, reduceCtorEq, ↓reduceIte, d0, kyC, List.head?_cons, List.drop_succ_cons, List.drop_zero]
              refine hK _ ?_
              clear hK K
              refine nx_then ?_
              refine awp_ifB (.tmp 16) rfl rfl rfl (fun h => ?_) (fun h => ?_)
              · skip
                refine awp_drop rfl ?_
                cases h
              · skip
                refine awp_drop rfl ?_
                refine awp_seqP rfl ?_
                refine awp_regP (Γ := noEnv) [38, 0, 3, 5, 7, 10, 11, 12] (noEnv_ok _ _) rfl rfl rfl (fun K hK => ?_)
                simp (disch := omega) only [Try.f27, go_sem, Nat.reduceAdd, Nat.reduceLT, reduceCtorEq, ↓reduceIte, d0, List.head?_cons, List.drop_succ_cons, List.drop_zero]
                refine hK _ ?_
                clear hK K
                refine nx_then ?_
                refine awp_ifB (.tmp 38) rfl rfl rfl (fun h => ?_) (fun h => ?_)
                · skip
                  refine awp_drop rfl ?_
                  cases h
                · skip
                  refine awp_drop rfl ?_
                  refine awp_seqP rfl ?_
                  refine awp_regP (Γ := noEnv) [60, 0, 3, 5, 7, 10, 11, 12] (noEnv_ok _ _) rfl rfl rfl (fun K hK => ?_)
                  simp (disch := omega) only [Try.f27, go_sem, Nat.reduceAdd, Nat.reduceLT, ↓reduceIte, d1, b1, beq_self_eq_true, List.head?_cons, List.drop_succ_cons, List.drop_zero]
                  refine hK _ ?_
                  clear hK K
                  refine nx_then ?_
                  refine awp_ifB (.tmp 60) rfl rfl rfl (fun h => ?_) (fun h => ?_)
                  · skip
                    refine awp_drop rfl ?_
                    cases h
                  · skip
                    refine awp_drop rfl ?_
                    refine awp_seqP rfl ?_
                    refine awp_regP (Γ := noEnv) [82, 0, 3, 5, 7, 10, 11, 12] (noEnv_ok _ _) rfl rfl rfl (fun K hK => ?_)
                    simp (disch := omega) only [Try.f27, go_sem, Nat.reduceAdd, Nat.reduceLT, reduceCtorEq, ↓reduceIte, d1, b2, beq_self_eq_true, List.head?_cons, List.drop_succ_cons, List.drop_zero]
                    refine hK _ ?_
                    clear hK K
                    refine nx_then ?_
                    refine awp_ifB (.tmp 82) rfl rfl rfl (fun h => ?_) (fun h => ?_)
                    · skip
                      refine awp_drop rfl ?_
                      cases h
                    · skip
                      refine awp_drop rfl ?_
                      refine awp_skipP rfl ?_
                      refine nx_blk (nx_blk (nx_then ?_))
                      refine awp_regP (Γ := noEnv) [0, 3, 5, 10, 11, 12] (noEnv_ok _ _) rfl rfl rfl (fun K hK => ?_)
                      simp (disch := omega) only [Try.f27, go_sem, Nat.reduceAdd, ↓reduceIte]
                      refine hK _ ?_
                      clear hK K
                      refine nx_loop ?_
                      refine ⟨⟨k + 1, id, _⟩, ⟨by simp only; omega, by simp only; omega, by simp only; omega⟩, by simp only; omega, ⟨fun x => .inr (by simp only [hfn, List.append_nil, Int.natCast_add, Int.natCast_one]), fun j o hj => ?_, Nat.le_refl _⟩⟩
                      simp only [hfn, List.append_nil, upd_apply] at hj
                      simp only [upd_apply]
                      by_cases e : j = id
                      · rw [if_pos e] at hj; rw [if_neg (by omega), if_pos e]; exact hj
                      · rw [if_neg e] at hj
                        by_cases e2 : j = nx
                        · rw [if_pos e2] at hj; rw [if_neg (by omega), if_neg e, if_pos e2]; exact hj
                        · rw [if_neg e2] at hj; cases hj
        · skip
          have d1 : decide (X.role = 1) = false := decide_eq_false r1
          have hdu : dueOf L cf X = [] := by unfold dueOf; rw [if_neg r0, if_neg r1]
          rw [hdu] at hfn
          refine awp_blockN 2 rfl rfl ?_
          refine awp_seqP rfl ?_
          refine awp_regP (Γ := noEnv) [16, 0, 3, 5, 7, 10, 11, 12] (noEnv_ok _ _) rfl rfl rfl (fun K hK => ?_)
          simp (disch := omega) only [Try.f27, go_sem, Nat.reduceAdd, Nat.reduceLT, reduceCtorEq, ↓reduceIte, d0, kyC, List.head?_cons, List.drop_succ_cons, List.drop_zero]
          refine hK _ ?_
          clear hK K
          refine nx_then ?_
          refine awp_ifB (.tmp 16) rfl rfl rfl (fun h => ?_) (fun h => ?_)
          · skip
            refine awp_drop rfl ?_
            cases h
          · skip
            refine awp_drop rfl ?_
            refine awp_seqP rfl ?_
            refine awp_regP (Γ := noEnv) [38, 0, 3, 5, 7, 10, 11, 12] (noEnv_ok _ _) rfl rfl rfl (fun K hK => ?_)
            simp (disch := omega) only [Try.f27, go_sem, Nat.reduceAdd, Nat.reduceLT, reduceCtorEq, ↓reduceIte, d0, List.head?_cons, List.drop_succ_cons, List.drop_zero]
            refine hK _ ?_
            clear hK K
            refine nx_then ?_
            refine awp_ifB (.tmp 38) rfl rfl rfl (fun h => ?_) (fun h => ?_)
            · skip
              refine awp_drop rfl ?_
              cases h
            · skip
              refine awp_drop rfl ?_
              refine awp_seqP rfl ?_
              refine awp_regP (Γ := noEnv) [60, 0, 3, 5, 7, 10, 11, 12] (noEnv_ok _ _) rfl rfl rfl (fun K hK => ?_)
              simp (disch := omega) only [Try.f27, go_sem, Nat.reduceAdd, Nat.reduceLT, reduceCtorEq, ↓reduceIte, d1, List.head?_cons, List.drop_succ_cons, List.drop_zero]
              refine hK _ ?_
              clear hK K
              refine nx_then ?_
              refine awp_ifB (.tmp 60) rfl rfl rfl (fun h => ?_) (fun h => ?_)
              · skip
                refine awp_drop rfl ?_
                cases h
              · skip
                refine awp_drop rfl ?_
                refine awp_seqP rfl ?_
                refine awp_regP (Γ := noEnv) [82, 0, 3, 5, 7, 10, 11, 12] (noEnv_ok _ _) rfl rfl rfl (fun K hK => ?_)
                simp (disch := omega) only [Try.f27, go_sem, Nat.reduceAdd, Nat.reduceLT, reduceCtorEq, ↓reduceIte, d1, List.head?_cons, List.drop_succ_cons, List.drop_zero]
                refine hK _ ?_
                clear hK K
                refine nx_then ?_
                refine awp_ifB (.tmp 82) rfl rfl rfl (fun h => ?_) (fun h => ?_)
                · skip
                  refine awp_drop rfl ?_
                  cases h
                · skip
                  refine awp_drop rfl ?_
                  refine awp_skipP rfl ?_
                  refine nx_blk (nx_blk (nx_then ?_))
                  refine awp_regP (Γ := noEnv) [0, 3, 5, 10, 11, 12] (noEnv_ok _ _) rfl rfl rfl (fun K hK => ?_)
                  simp (disch := omega) only [Try.f27, go_sem, Nat.reduceAdd, ↓reduceIte]
                  refine hK _ ?_
                  clear hK K
                  refine nx_loop ?_
                  refine ⟨⟨k + 1, id, _⟩, ⟨by simp only; omega, by simp only; omega, by simp only; omega⟩, by simp only; omega, ⟨fun x => .inr (by simp only [hfn, List.append_nil, Int.natCast_add, Int.natCast_one]), fun j o hj => ?_, Nat.le_refl _⟩⟩
                  simp only [hfn, List.append_nil, upd_apply] at hj
                  simp only [upd_apply]
                  by_cases e : j = id
                  · rw [if_pos e] at hj; rw [if_neg (by omega), if_pos e]; exact hj
                  · rw [if_neg e] at hj
                    by_cases e2 : j = nx
                    · rw [if_pos e2] at hj; rw [if_neg (by omega), if_neg e, if_pos e2]; exact hj
                    · rw [if_neg e2] at hj; cases hj
    · skip
      refine awp_drop rfl ?_
      refine awp_exitN 0 rfl rfl ?_
      refine nx_ex_then (nx_ex_loop (nx_ex_blk ?_))
      refine nx_then ?_
      refine awp_seqP rfl ?_
      obtain rfl : k = n := by omega
      subst hn
      rw [List.take_length]
      have hll : (dusC (alD L cf L)).length = (alD L cf L).length * 3 := by rw [dusC_len]; omega
      refine awp_sl 5 id 0 _ 3 rfl (by rw [upd_apply, if_pos rfl]) (by omega) ?_
      rw [List.drop_zero, List.take_of_length_le (by omega)]
      refine awp_regP (Γ := noEnv) [4] (noEnv_ok _ _) rfl rfl rfl (fun K hK => ?_)
      simp (disch := omega) only [Try.f27, go_sem, Nat.reduceAdd, ↓reduceIte]
      refine hK _ ?_
      clear hK K
      refine nx_then ?_
      refine awp_retP rfl ?_
      simp (disch := omega) only [pureQ, resA, resAL, resA1, Try.f27, go_sem, ↓reduceIte]
  · rename_i cs
    replace hg := obind_inv hg; obtain ⟨cf, hcf, hg⟩ := hg
    have := cfOf_inv hcf; subst this
    obtain rfl := Option.some.inj hg
    refine ⟨Nat.le_of_ble_eq_true rfl, fun nx => ?_⟩
    refine awp_seqP rfl ?_
    refine awp_regP (Γ := noEnv) [0, 3] (noEnv_ok _ _) rfl rfl rfl (fun K hK => ?_)
    simp (disch := omega) only [Try.f27, go_sem, Nat.reduceAdd, ↓reduceIte]
    refine hK _ ?_
    clear hK K
    refine nx_then ?_
    refine awp_seqP rfl ?_
    refine awp_regP (Γ := noEnv) [0, 3, 5] (noEnv_ok _ _) rfl rfl rfl (fun K hK => ?_)
    simp (disch := omega) only [Try.f27, go_sem, ↓reduceIte]
    refine hK _ ?_
    clear hK K
    refine nx_then ?_
    refine awp_seqP rfl ?_
    refine awp_seqP rfl ?_
    refine awp_regP (Γ := noEnv) [0, 3, 5, 10, 11, 12] (noEnv_ok _ _) rfl rfl rfl (fun K hK => ?_)
    simp (disch := omega) only [Try.f27, go_sem, Nat.reduceAdd, ↓reduceIte]
    refine hK _ ?_
    clear hK K
    refine nx_then ?_
    refine awp_own 5 3 rfl ?_
    refine awp_keep [0, 3, 5, 10, 11, 12] ?_
    simp only [kf_nil, kf_cons, look_cons, ↓reduceIte, Nat.reduceEqDiff]
    refine awp_blockN 0 rfl rfl ?_
    refine awp_loopP (fun u : Unit => { fr := [(0, .v (.slice none 0 0)), (3, .op nx 0), (5, .os (nx + 4 + 2) 0 0 3 true), (10, .v (.slice none 0 0)), (11, .i 0), (12, .i 0)], hp := upd (fun _ => none) (nx + 4 + 2) (.cells [] true), nx := 0, cx := nx + 4 + 2 + 1 }) (fun u => True) (fun u => 0) rfl ⟨(), trivial, ⟨fun _ => .inr rfl, fun j o hj => by { simp only [upd_apply] at hj ⊢; split at hj; · { rename_i e; rw [if_pos e]; exact hj }; · cases hj }, Nat.le_refl _⟩⟩ ?_
    rintro u hu n0
    simp only at hu ⊢
    refine awp_seqP rfl ?_
    refine awp_regP (Γ := noEnv) [13, 0, 3, 5, 10, 11, 12] (noEnv_ok _ _) rfl rfl rfl (fun K hK => ?_)
    simp (disch := omega) only [Try.f27, go_sem, Int.reduceLT, ↓reduceIte]
    refine hK _ ?_
    clear hK K
    refine nx_then ?_
    refine awp_seqP rfl ?_
    refine awp_ifB (.tmp 13) rfl rfl rfl (fun h => ?_) (fun h => ?_)
    · skip
      refine awp_drop rfl ?_
      cases h
    · skip
      refine awp_drop rfl ?_
      refine awp_exitN 0 rfl rfl ?_
      refine nx_ex_then (nx_ex_loop (nx_ex_blk ?_))
      refine nx_then ?_
      refine awp_seqP rfl ?_
      refine awp_sl 5 (nx + 4 + 2) 0 0 3 rfl (by rw [upd_apply, if_pos rfl]) (by simp) ?_
      simp only [List.drop_zero, Nat.zero_mul, List.take_zero]
      refine awp_regP (Γ := noEnv) [4] (noEnv_ok _ _) rfl rfl rfl (fun K hK => ?_)
      simp (disch := omega) only [Try.f27, go_sem, Nat.reduceAdd, ↓reduceIte]
      refine hK _ ?_
      clear hK K
      refine nx_then ?_
      refine awp_retP rfl ?_
      simp (disch := omega) only [pureQ, resA, resAL, resA1, Try.f27, go_sem, ↓reduceIte]
  · cases hg
theorem okh27 : EntOK Try.prog GLh 27 (.pure false alG) := ⟨⟨_, Try.func27, rfl, rfl⟩, al_ok⟩
end Go.AX

namespace Go.AX
open Go Go.Proofs
set_option maxRecDepth 8000

def btr (b x : DU) : DU := if b.id = 0#32 ∨ x.w < b.w ∨ (x.w = b.w ∧ x.id < b.id) then x else b
def bestD (l : List DU) : DU := l.foldl btr du0
theorem bestD_next (D : List DU) (k : Nat) (hk : k < D.length) : bestD (D.take (k + 1)) = btr (bestD (D.take k)) (duA D k) := by
  have e : D[k] = duA D k := by simp [duA, List.getD_eq_getElem?_getD, hk]
  rw [bestD, List.take_add_one, List.getElem?_eq_getElem hk, List.foldl_append, e]
  rfl
def nxV (L : List KY) (c : CF) : DU := bestD (alD L c L)
theorem storeL3 (a b c x y z : AV) : storeL [a, b, c] 0 [x, y, z] = [x, y, z] := (rfl)
attribute [go_sem] storeL3
theorem kysU_nil : kysU [] = some [] := kysU_C []
attribute [go_sem] kysU_nil
noncomputable def nxG : List AV → Option AV
  | [.sl n xs, .agg cs] => obind (kysU xs) fun L => obind (cfOf cs) fun c => guardO (L.length = n ∧ n ≤ 100) (some (.tup (duC (nxV L c))))
  | [.v (.slice none 0 0), .agg cs] => obind (cfOf cs) fun _ => some (.tup (duC du0))
  | _ => none
theorem nxG_eq (n : Nat) (xs cs : List AV) : nxG [.sl n xs, .agg cs] = obind (kysU xs) fun L => obind (cfOf cs) fun c => guardO (L.length = n ∧ n ≤ 100) (some (.tup (duC (nxV L c)))) := (rfl)
theorem nxG_nil (cs : List AV) : nxG [.v (.slice none 0 0), .agg cs] = obind (cfOf cs) fun _ => some (.tup (duC du0)) := (rfl)
attribute [go_sem] nxG_eq nxG_nil
set_option maxHeartbeats 1000000 in
theorem nx_ok : PureOK Try.prog GLh 14 nxG := by
  refine pure_of_awp Try.func14 (bodyOf_some rfl) ?_
  intro args r hg
  unfold nxG at hg
  split at hg
  · rename_i n xs cs
    replace hg := obind_inv hg; obtain ⟨L, hL, hg⟩ := hg
    have := kysU_inv hL; subst this
    replace hg := obind_inv hg; obtain ⟨cf, hcf, hg⟩ := hg
    have := cfOf_inv hcf; subst this
    replace hg := guardO_inv hg; obtain ⟨⟨hn, hbig⟩, hg⟩ := hg
    obtain rfl := Option.some.inj hg
    refine ⟨Nat.le_of_ble_eq_true rfl, fun nx => ?_⟩
    obtain ⟨D, hD⟩ : ∃ D, alD L cf L = D := ⟨_, rfl⟩
    have hb : nxV L cf = bestD D := by rw [nxV, hD]
    rw [hb]
    have hll : D.length ≤ 20000 := by
      have h1 := alD_len L cf L
      have h2 : L.length * (L.length + 1) ≤ 100 * 101 := Nat.mul_le_mul (by omega) (by omega)
      rw [hD] at h1; omega
    have hno : noOwn (cfC cf) = true := rfl
    have hcl : 13 ≤ (cfC cf).length := Nat.le_of_ble_eq_true rfl
    have hct : List.take 13 (cfC cf) = cfC cf := rfl
    refine awp_seqP rfl ?_
    refine awp_regP (Γ := noEnv) [0, 3] (noEnv_ok _ _) rfl rfl rfl (fun K hK => ?_)
    simp (disch := omega) only [Try.f14, go_sem, Nat.reduceAdd, Int.reduceLE, Int.reduceLT, BitVec.reduceOfInt, ↓reduceIte]
    refine hK _ ?_
    clear hK K
    refine nx_then ?_
    refine awp_seqP rfl ?_
    refine awp_regP (Γ := noEnv) [0, 3, 7] (noEnv_ok _ _) rfl rfl rfl (fun K hK => ?_)
    simp (disch := omega) only [Try.f14, go_sem, ↓reduceIte]
    refine hK _ ?_
    clear hK K
    refine nx_then ?_
    refine awp_seqP rfl ?_
    refine awp_seqP rfl ?_
    refine awp_regP (Γ := envL [(27, .pure false alG)]) [7, 12, 13, 14] (envOK_cons okh27 envOK_nil) rfl rfl rfl (fun K hK => ?_)
    simp (disch := omega) only [Try.f14, go_sem, Nat.reduceAdd, ↓reduceIte, hcl, hct, hcf, hn, hbig, hD]
    refine hK _ ?_
    clear hK K
    refine nx_then ?_
    refine awp_blockN 0 rfl rfl ?_
    refine awp_loopP (fun p : KC => { fr := [(7, .op (nx + 4) 0), (12, .sl D.length (dusC D)), (13, .i D.length), (14, .i p.k)], hp := upd (fun _ => none) (nx + 4) (.cells (duC (bestD (D.take p.k))) true), nx := 0, cx := p.c }) (fun p => p.k ≤ D.length ∧ nx + 4 < p.c) (fun p => D.length - p.k) rfl ⟨⟨0, _⟩, ⟨Nat.zero_le _, by simp only; omega⟩, ⟨fun x => .inr rfl, fun j o hj => by { simp only [upd_apply] at hj ⊢; split at hj; · { rename_i e; rw [if_pos e]; exact hj }; · cases hj }, Nat.le_refl _⟩⟩ ?_
    rintro ⟨k, c⟩ ⟨hk, hc⟩ n0
    simp only at hk hc ⊢
    refine awp_seqP rfl ?_
    refine awp_regP (Γ := noEnv) [15, 7, 12, 13, 14] (noEnv_ok _ _) rfl rfl rfl (fun K hK => ?_)
    simp (disch := omega) only [Try.f14, go_sem, ↓reduceIte]
    refine hK _ ?_
    clear hK K
    refine nx_then ?_
    refine awp_seqP rfl ?_
    refine awp_ifD (.tmp 15) rfl rfl rfl (fun h => ?_) (fun h => ?_)
    · skip
      refine awp_drop rfl ?_
      have hkD : k < D.length := by omega
      have hrow := dus_row D k hkD
      have hkl := dusC_len D
      have hdl : 3 ≤ (List.drop (3 * k) (dusC D)).length := by rw [List.length_drop]; omega
      have e3 : k * 3 = 3 * k := by omega
      have hfn := bestD_next D k hkD
      obtain ⟨B, hB⟩ : ∃ B, bestD (D.take k) = B := ⟨_, rfl⟩
      obtain ⟨X, hX⟩ : ∃ X, duA D k = X := ⟨_, rfl⟩
      rw [hX] at hrow hfn
      rw [hB] at hfn ⊢
      refine awp_skipP rfl ?_
      refine nx_then ?_
      refine awp_seqP rfl ?_
      refine awp_blockN 1 rfl rfl ?_
      refine awp_seqP rfl ?_
      refine awp_regP (Γ := noEnv) [7, 9, 12, 13, 14] (noEnv_ok _ _) rfl rfl rfl (fun K hK => ?_)
      simp (disch := omega) only [Try.f14, go_sem, Nat.reduceAdd, Nat.reduceLeDiff, ↓reduceIte, hrow, hdl, e3]
      refine hK _ ?_
      clear hK K
      refine nx_then ?_
      by_cases h1 : B.id = 0#32
      · skip
        have d1 : decide (B.id = 0#32) = true := decide_eq_true h1
        have hbt : btr B X = X := by unfold btr; exact if_pos (.inl h1)
        rw [hbt] at hfn
        refine awp_seqP rfl ?_
        refine awp_regP (Γ := noEnv) [41, 7, 9, 12, 13, 14] (noEnv_ok _ _) rfl rfl rfl (fun K hK => ?_)
        simp (disch := omega) only [Try.f14, go_sem, Nat.reduceAdd, Nat.reduceLT, Int.reduceLE, Int.reduceLT, BitVec.reduceOfInt, ↓reduceIte, d1, duC, List.head?_cons, List.drop_zero]
        refine hK _ ?_
        clear hK K
        refine nx_then ?_
        refine awp_ifB (.tmp 41) rfl rfl rfl (fun h => ?_) (fun h => ?_)
        · skip
          refine awp_drop rfl ?_
          refine awp_regP (Γ := noEnv) [7, 12, 13, 14] (noEnv_ok _ _) rfl rfl rfl (fun K hK => ?_)
          simp (disch := omega) only [Try.f14, go_sem, Nat.reduceAdd, Nat.reduceLeDiff, ↓reduceIte, List.take_succ_cons, List.take_zero, List.drop_zero]
          refine hK _ ?_
          clear hK K
          refine nx_blk (nx_then ?_)
          refine awp_regP (Γ := noEnv) [7, 12, 13, 14] (noEnv_ok _ _) rfl rfl rfl (fun K hK => ?_)
          simp (disch := omega) only [Try.f14, go_sem, Nat.reduceAdd, ↓reduceIte]
          refine hK _ ?_
          clear hK K
          refine nx_loop ?_
          refine ⟨⟨k + 1, _⟩, ⟨by simp only; omega, by simp only; omega⟩, by simp only; omega, ⟨fun x => .inr (by simp only [Int.natCast_add, Int.natCast_one]), fun j o hj => ?_, Nat.le_refl _⟩⟩
          simp only [hfn, upd_apply] at hj
          simp only [upd_apply]
          by_cases e : j = nx + 4
          · rw [if_pos e] at hj ⊢; exact hj
          · rw [if_neg e] at hj; cases hj
        · skip
          refine awp_drop rfl ?_
          cases h
      · skip
        have d1 : decide (B.id = 0#32) = false := decide_eq_false h1
        by_cases h2 : X.w < B.w
        · skip
          have d2 : decide (X.w < B.w) = true := decide_eq_true h2
          have hbt : btr B X = X := by unfold btr; exact if_pos (.inr (.inl h2))
          rw [hbt] at hfn
          refine awp_seqP rfl ?_
          refine awp_regP (Γ := noEnv) [41, 7, 9, 12, 13, 14] (noEnv_ok _ _) rfl rfl rfl (fun K hK => ?_)
          simp (disch := omega) only [Try.f14, go_sem, Nat.reduceAdd, Nat.reduceLT, Int.reduceLE, Int.reduceLT, BitVec.reduceOfInt, reduceCtorEq, ↓reduceIte, d1, d2, duC, List.head?_cons, List.drop_succ_cons, List.drop_zero]
          refine hK _ ?_
          clear hK K
          refine nx_then ?_
          refine awp_ifB (.tmp 41) rfl rfl rfl (fun h => ?_) (fun h => ?_)
          · skip
            refine awp_drop rfl ?_
            refine awp_regP (Γ := noEnv) [7, 12, 13, 14] (noEnv_ok _ _) rfl rfl rfl (fun K hK => ?_)
            simp (disch := omega) only [Try.f14, go_sem, Nat.reduceAdd, Nat.reduceLeDiff, ↓reduceIte, List.take_succ_cons, List.take_zero, List.drop_zero]
            refine hK _ ?_
            clear hK K
            refine nx_blk (nx_then ?_)
            refine awp_regP (Γ := noEnv) [7, 12, 13, 14] (noEnv_ok _ _) rfl rfl rfl (fun K hK => ?_)
            simp (disch := omega) only [Try.f14, go_sem, Nat.reduceAdd, ↓reduceIte]
            refine hK _ ?_
            clear hK K
            refine nx_loop ?_
            refine ⟨⟨k + 1, _⟩, ⟨by simp only; omega, by simp only; omega⟩, by simp only; omega, ⟨fun x => .inr (by simp only [Int.natCast_add, Int.natCast_one]), fun j o hj => ?_, Nat.le_refl _⟩⟩
            simp only [hfn, upd_apply] at hj
            simp only [upd_apply]
            by_cases e : j = nx + 4
            · rw [if_pos e] at hj ⊢; exact hj
            · rw [if_neg e] at hj; cases hj
          · skip
            refine awp_drop rfl ?_
            cases h
        · skip
          have d2 : decide (X.w < B.w) = false := decide_eq_false h2
          by_cases h3 : X.w = B.w
          · skip
            have d3 : decide (X.w = B.w) = true := decide_eq_true h3
            by_cases h4 : X.id < B.id
            · skip
              have d4 : decide (X.id < B.id) = true := decide_eq_true h4
              have hbt : btr B X = X := by unfold btr; exact if_pos (.inr (.inr ⟨h3, h4⟩))
              rw [hbt] at hfn
              refine awp_seqP rfl ?_
              refine awp_regP (Γ := noEnv) [41, 7, 9, 12, 13, 14] (noEnv_ok _ _) rfl rfl rfl (fun K hK => ?_)
              simp (disch := omega) only [Try.f14, go_sem, Nat.reduceAdd, Nat.reduceLT, Int.reduceLE, Int.reduceLT, BitVec.reduceOfInt, reduceCtorEq, ↓reduceIte, d1, d2, d3, d4, duC, List.head?_cons, List.drop_succ_cons, List.drop_zero]
              refine hK _ ?_
              clear hK K
              refine nx_then ?_
              refine awp_ifB (.tmp 41) rfl rfl rfl (fun h => ?_) (fun h => ?_)
              · skip
                refine awp_drop rfl ?_
                refine awp_regP (Γ := noEnv) [7, 12, 13, 14] (noEnv_ok _ _) rfl rfl rfl (fun K hK => ?_)
                simp (disch := omega) only [Try.f14, go_sem, Nat.reduceAdd, Nat.reduceLeDiff, ↓reduceIte, List.take_succ_cons, List.take_zero, List.drop_zero]
                refine hK _ ?_
                clear hK K
                refine nx_blk (nx_then ?_)
                refine awp_regP (Γ := noEnv) [7, 12, 13, 14] (noEnv_ok _ _) rfl rfl rfl (fun K hK => ?_)
                simp (disch := omega) only [Try.f14, go_sem, Nat.reduceAdd, ↓reduceIte]
                refine hK _ ?_
                clear hK K
                refine nx_loop ?_
                refine ⟨⟨k + 1, _⟩, ⟨by simp only; omega, by simp only; omega⟩, by simp only; omega, ⟨fun x => .inr (by simp only [Int.natCast_add, Int.natCast_one]), fun j o hj => ?_, Nat.le_refl _⟩⟩
                simp only [hfn, upd_apply] at hj
                simp only [upd_apply]
                by_cases e : j = nx + 4
                · rw [if_pos e] at hj ⊢; exact hj
                · rw [if_neg e] at hj; cases hj
              · skip
                refine awp_drop rfl ?_
                cases h
            · skip
              have d4 : decide (X.id < B.id) = false := decide_eq_false h4
              have hbt : btr B X = B := by unfold btr; exact if_neg (fun e => e.elim h1 (fun e => e.elim h2 (fun e => h4 e.2)))
              rw [hbt] at hfn
              refine awp_seqP rfl ?_
              refine awp_regP (Γ := noEnv) [41, 7, 9, 12, 13, 14] (noEnv_ok _ _) rfl rfl rfl (fun K hK => ?_)
              simp (disch := omega) only [Try.f14, go_sem, Nat.reduceAdd, Nat.reduceLT, Int.reduceLE, Int.reduceLT, BitVec.reduceOfInt, reduceCtorEq, ↓reduceIte, d1, d2, d3, d4, duC, List.head?_cons, List.drop_succ_cons, List.drop_zero]
              refine hK _ ?_
              clear hK K
              refine nx_then ?_
              refine awp_ifB (.tmp 41) rfl rfl rfl (fun h => ?_) (fun h => ?_)
              · skip
                refine awp_drop rfl ?_
                cases h
              · skip
                refine awp_drop rfl ?_
                refine awp_skipP rfl ?_
                refine nx_blk (nx_then ?_)
                refine awp_regP (Γ := noEnv) [7, 12, 13, 14] (noEnv_ok _ _) rfl rfl rfl (fun K hK => ?_)
                simp (disch := omega) only [Try.f14, go_sem, Nat.reduceAdd, ↓reduceIte]
                refine hK _ ?_
                clear hK K
                refine nx_loop ?_
                refine ⟨⟨k + 1, _⟩, ⟨by simp only; omega, by simp only; omega⟩, by simp only; omega, ⟨fun x => .inr (by simp only [Int.natCast_add, Int.natCast_one]), fun j o hj => ?_, Nat.le_refl _⟩⟩
                simp only [hfn, upd_apply] at hj
                simp only [upd_apply]
                by_cases e : j = nx + 4
                · rw [if_pos e] at hj; rw [if_neg (by omega), if_pos e]; exact hj
                · rw [if_neg e] at hj; cases hj
          · skip
            have d3 : decide (X.w = B.w) = false := decide_eq_false h3
            have hbt : btr B X = B := by unfold btr; exact if_neg (fun e => e.elim h1 (fun e => e.elim h2 (fun e => h3 e.1)))
            rw [hbt] at hfn
            refine awp_seqP rfl ?_
            refine awp_regP (Γ := noEnv) [41, 7, 9, 12, 13, 14] (noEnv_ok _ _) rfl rfl rfl (fun K hK => ?_)
            simp (disch := omega) only [Try.f14, go_sem, Nat.reduceAdd, Nat.reduceLT, Int.reduceLE, Int.reduceLT, BitVec.reduceOfInt, reduceCtorEq, ↓reduceIte, d1, d2, d3, duC, List.head?_cons, List.drop_succ_cons, List.drop_zero]
            refine hK _ ?_
            clear hK K
            refine nx_then ?_
            refine awp_ifB (.tmp 41) rfl rfl rfl (fun h => ?_) (fun h => ?_)
            · skip
              refine awp_drop rfl ?_
              cases h
            · skip
              refine awp_drop rfl ?_
              refine awp_skipP rfl ?_
              refine nx_blk (nx_then ?_)
              refine awp_regP (Γ := noEnv) [7, 12, 13, 14] (noEnv_ok _ _) rfl rfl rfl (fun K hK => ?_)
              simp (disch := omega) only [Try.f14, go_sem, Nat.reduceAdd, ↓reduceIte]
              refine hK _ ?_
              clear hK K
              refine nx_loop ?_
              refine ⟨⟨k + 1, _⟩, ⟨by simp only; omega, by simp only; omega⟩, by simp only; omega, ⟨fun x => .inr (by simp only [Int.natCast_add, Int.natCast_one]), fun j o hj => ?_, Nat.le_refl _⟩⟩
              simp only [hfn, upd_apply] at hj
              simp only [upd_apply]
              by_cases e : j = nx + 4
              · rw [if_pos e] at hj; rw [if_neg (by omega), if_pos e]; exact hj
              · rw [if_neg e] at hj; cases hj
    · skip
      refine awp_drop rfl ?_
      refine awp_exitN 0 rfl rfl ?_
      refine nx_ex_then (nx_ex_loop (nx_ex_blk ?_))
      refine nx_then ?_
      refine awp_seqP rfl ?_
      obtain rfl : k = D.length := by omega
      rw [List.take_length]
      refine awp_drwP (Γ := noEnv) (fun _ => 2) [4, 5, 6] mixed (noEnv_ok _ _) rfl rfl rfl (by kernel_rfl) (fun K hK => ?_)
      simp (disch := omega) only [Try.f14, go_sem, Nat.reduceAdd, Nat.reduceLT, ↓reduceIte, duC, List.head?_cons, List.drop_succ_cons, List.drop_zero]
      refine hK _ ?_
      clear hK K
      refine nx_then ?_
      refine awp_retP rfl ?_
      simp (disch := omega) only [pureQ, resA, resAL, resA1, Try.f14, go_sem, ↓reduceIte]
      rfl
  · rename_i cs
    replace hg := obind_inv hg; obtain ⟨cf, hcf, hg⟩ := hg
    have := cfOf_inv hcf; subst this
    obtain rfl := Option.some.inj hg
    refine ⟨Nat.le_of_ble_eq_true rfl, fun nx => ?_⟩
    have hno : noOwn (cfC cf) = true := rfl
    have hcl : 13 ≤ (cfC cf).length := Nat.le_of_ble_eq_true rfl
    have hct : List.take 13 (cfC cf) = cfC cf := rfl
    refine awp_seqP rfl ?_
    refine awp_regP (Γ := noEnv) [0, 3] (noEnv_ok _ _) rfl rfl rfl (fun K hK => ?_)
    simp (disch := omega) only [Try.f14, go_sem, Nat.reduceAdd, Int.reduceLE, Int.reduceLT, BitVec.reduceOfInt, ↓reduceIte]
    refine hK _ ?_
    clear hK K
    refine nx_then ?_
    refine awp_seqP rfl ?_
    refine awp_regP (Γ := noEnv) [0, 3, 7] (noEnv_ok _ _) rfl rfl rfl (fun K hK => ?_)
    simp (disch := omega) only [Try.f14, go_sem, ↓reduceIte]
    refine hK _ ?_
    clear hK K
    refine nx_then ?_
    refine awp_seqP rfl ?_
    refine awp_seqP rfl ?_
    refine awp_regP (Γ := envL [(27, .pure false alG)]) [7, 12, 13, 14] (envOK_cons okh27 envOK_nil) rfl rfl rfl (fun K hK => ?_)
    simp (disch := omega) only [Try.f14, go_sem, Nat.reduceAdd, Nat.reduceLeDiff, ↓reduceIte, hcl, hct, hcf]
    refine hK _ ?_
    clear hK K
    refine nx_then ?_
    refine awp_blockN 0 rfl rfl ?_
    refine awp_loopP (fun u : Unit => { fr := [(7, .op (nx + 4) 0), (12, .sl 0 []), (13, .i 0), (14, .i 0)], hp := upd (fun _ => none) (nx + 4) (.cells (duC du0) true), nx := 0, cx := nx + 4 + 20 }) (fun u => True) (fun u => 0) rfl ⟨(), trivial, ⟨fun _ => .inr rfl, fun j o hj => by { simp only [upd_apply] at hj ⊢; split at hj; · { rename_i e; rw [if_pos e]; exact hj }; · cases hj }, by simp only; omega⟩⟩ ?_
    rintro u hu n0
    simp only at hu ⊢
    refine awp_seqP rfl ?_
    refine awp_regP (Γ := noEnv) [15, 7, 12, 13, 14] (noEnv_ok _ _) rfl rfl rfl (fun K hK => ?_)
    simp (disch := omega) only [Try.f14, go_sem, Int.reduceLT, ↓reduceIte]
    refine hK _ ?_
    clear hK K
    refine nx_then ?_
    refine awp_seqP rfl ?_
    refine awp_ifB (.tmp 15) rfl rfl rfl (fun h => ?_) (fun h => ?_)
    · skip
      refine awp_drop rfl ?_
      cases h
    · skip
      refine awp_drop rfl ?_
      refine awp_exitN 0 rfl rfl ?_
      refine nx_ex_then (nx_ex_loop (nx_ex_blk ?_))
      refine nx_then ?_
      refine awp_seqP rfl ?_
      refine awp_drwP (Γ := noEnv) (fun _ => 2) [4, 5, 6] mixed (noEnv_ok _ _) rfl rfl rfl (by kernel_rfl) (fun K hK => ?_)
      simp (disch := omega) only [Try.f14, go_sem, Nat.reduceAdd, Nat.reduceLT, ↓reduceIte, duC, List.head?_cons, List.drop_succ_cons, List.drop_zero]
      refine hK _ ?_
      clear hK K
      refine nx_then ?_
      refine awp_retP rfl ?_
      simp (disch := omega) only [pureQ, resA, resAL, resA1, Try.f14, go_sem, ↓reduceIte]
      rfl
  · cases hg
theorem okh14 : EntOK Try.prog GLh 14 (.pure true nxG) := ⟨⟨_, Try.func14, rfl, rfl⟩, nx_ok⟩
end Go.AX

namespace Go.AX
open Go Go.Proofs
set_option maxRecDepth 8000

def ptrO : Option AO → Option Nat
  | some (.cells [.op d 0] _) => some d
  | _ => none
def w32O : Option AO → Option W32
  | some (.cells [.w32 n] _) => some n
  | _ => none
def osaO : Option AO → Option (Nat × Nat)
  | some (.cells [.os o 0 n 15 true] true) => some (o, n)
  | _ => none
noncomputable def kysO : Option AO → Option (List KY)
  | some (.cells xs true) => kysU xs
  | _ => none
theorem ptrO_c (d : Nat) (mt : Bool) : ptrO (some (.cells [.op d 0] mt)) = some d := (rfl)
theorem w32O_c (n : W32) (mt : Bool) : w32O (some (.cells [.w32 n] mt)) = some n := (rfl)
theorem osaO_c (o n : Nat) : osaO (some (.cells [.os o 0 n 15 true] true)) = some (o, n) := (rfl)
theorem kysO_c (L : List KY) : kysO (some (.cells (kysC L) true)) = some L := kysU_C L
attribute [go_sem] ptrO_c w32O_c osaO_c kysO_c
theorem ptrO_inv {x : Option AO} {d : Nat} (h : ptrO x = some d) : ∃ mt, x = some (.cells [.op d 0] mt) := by
  unfold ptrO at h; split at h
  · obtain rfl := Option.some.inj h; exact ⟨_, rfl⟩
  · cases h
theorem osaO_inv {x : Option AO} {p : Nat × Nat} (h : osaO x = some p) : x = some (.cells [.os p.1 0 p.2 15 true] true) := by
  unfold osaO at h; split at h
  · obtain rfl := Option.some.inj h; rfl
  · cases h
theorem kysO_inv {x : Option AO} {L : List KY} (h : kysO x = some L) : x = some (.cells (kysC L) true) := by
  unfold kysO at h; split at h
  · rw [kysU_inv h]
  · cases h
/-- A key, as it is told behind a turn. -/
def tkV (k : KY) (st : Int) (now : W32) : KY := { k with st := st, since := now }
noncomputable def stG : List AV → H → Nat → Option (AV × H × Nat)
  | [.w32 id, .i st, .op rp 0, .rp [.w32 now], .op po 0], hp, nx => obind (ptrO (hp rp)) fun d => obind (osaO (hp po)) fun on => obind (kysO (hp on.1)) fun out => obind (rngOf hp d) fun t => obind (getK id t.C.by') fun k =>
      guardO (on.2 = out.length ∧ on.2 ≤ 20000 ∧ (d ≠ rp ∧ d ≠ po ∧ d ≠ on.1) ∧ (t.s ≠ rp ∧ t.s ≠ po ∧ t.s ≠ on.1) ∧ (t.m ≠ rp ∧ t.m ≠ po ∧ t.m ≠ on.1) ∧ po ≠ on.1 ∧ rp ≠ po ∧ rp ≠ on.1)
        (some (.tup [], setR d t.s t.m (tnV t.C id st now).2 (upd (upd (del hp on.1) (nx + 173) (.cells (kysC (out ++ [tkV k st now])) true)) po (.cells [.os (nx + 173) 0 (on.2 + 1) 15 true] true)), nx + 300))
  | _, _, _ => none
theorem stG_eq (id now : W32) (st : Int) (rp po : Nat) (hp : H) (nx : Nat) : stG [.w32 id, .i st, .op rp 0, .rp [.w32 now], .op po 0] hp nx = obind (ptrO (hp rp)) fun d => obind (osaO (hp po)) fun on => obind (kysO (hp on.1)) fun out => obind (rngOf hp d) fun t => obind (getK id t.C.by') fun k =>
      guardO (on.2 = out.length ∧ on.2 ≤ 20000 ∧ (d ≠ rp ∧ d ≠ po ∧ d ≠ on.1) ∧ (t.s ≠ rp ∧ t.s ≠ po ∧ t.s ≠ on.1) ∧ (t.m ≠ rp ∧ t.m ≠ po ∧ t.m ≠ on.1) ∧ po ≠ on.1 ∧ rp ≠ po ∧ rp ≠ on.1)
        (some (.tup [], setR d t.s t.m (tnV t.C id st now).2 (upd (upd (del hp on.1) (nx + 173) (.cells (kysC (out ++ [tkV k st now])) true)) po (.cells [.os (nx + 173) 0 (on.2 + 1) 15 true] true)), nx + 300)) := (rfl)
attribute [go_sem] stG_eq
set_option maxHeartbeats 1000000 in
theorem st_ok : HeapOK Try.prog GLh 24 stG := by
  refine heap_of_awp Try.func24 (bodyOf_some rfl) ?_
  intro args hp nx r hp' nx' hg
  unfold stG at hg
  split at hg
  · rename_i id st rp now po
    replace hg := obind_inv hg; obtain ⟨d, h4, hg⟩ := hg
    obtain ⟨mt4, h4⟩ := ptrO_inv h4
    replace hg := obind_inv hg; obtain ⟨⟨o, n⟩, h6, hg⟩ := hg
    replace h6 := osaO_inv h6
    replace hg := obind_inv hg; obtain ⟨out, h7, hg⟩ := hg
    replace h7 := kysO_inv h7
    replace hg := obind_inv hg; obtain ⟨⟨s, m, C⟩, hD0, hg⟩ := hg
    have hD := rngOf_inv hD0
    replace hg := obind_inv hg; obtain ⟨k, hk, hg⟩ := hg
    replace hg := guardO_inv hg; obtain ⟨⟨hn, hbig, ⟨a1, a3, a4⟩, ⟨b1, b3, b4⟩, ⟨c1, c3, c4⟩, e1, e2, e4⟩, hg⟩ := hg
    simp only [Option.some.injEq, Prod.mk.injEq] at hg hD hk hn hbig h6 h7 a1 a3 a4 b1 b3 b4 c1 c3 c4 e1 e2 e4; obtain ⟨rfl, rfl, rfl⟩ := hg
    refine ⟨Nat.le_of_ble_eq_true rfl, by omega, fun hnone => ?_⟩
    have h1 := hD.hd; have h2 := hD.hs; have h3 := hD.hm
    obtain ⟨n1, n2, n3, n4, n5, n6⟩ := hD.ne
    have hlt : ∀ k o, hp k = some o → k < nx := fun k o hk => lt_of_none2 hnone hk
    have hd := hlt _ _ h1
    have hs := hlt _ _ h2
    have hm := hlt _ _ h3
    have hrp := hlt _ _ h4
    have hpo := hlt _ _ h6
    have ho := hlt _ _ h7
    have hkl := kysC_len out
    refine awp_seqP rfl ?_
    refine awp_regP (Γ := envL [(13, .heap keyG20)]) [0, 1, 2, 3, 4, 7] (envOK_cons okd17 envOK_nil) rfl rfl rfl (fun K hK => ?_)
    simp (disch := omega) only [Try.f24, go_sem, Nat.reduceAdd, Nat.reduceLeDiff, ↓reduceIte, hD0, h4, hk, kyR_y, encK_eq, List.head?_cons, List.drop_zero]
    refine hK _ ?_
    clear hK K
    refine nx_then ?_
    have hru := rng_upd hD
    refine awp_seqP rfl ?_
    refine awp_regP (Γ := envL [(25, .heap turnG20)]) [1, 3, 4, 7] (envOK_cons okd16 envOK_nil) rfl rfl rfl (fun K hK => ?_)
    simp (disch := omega) only [Try.f24, go_sem, Nat.reduceAdd, ↓reduceIte, hru, h4, List.drop_zero, List.head?_cons, List.drop_zero]
    refine hK _ ?_
    clear hK K
    refine nx_then ?_
    refine awp_seqP rfl ?_
    refine awp_drwP (Γ := noEnv) (fun k => if k = 1 then 1 else 2) [4, 7] mixed (noEnv_ok _ _) rfl rfl rfl (by kernel_rfl) (fun K hK => ?_)
    simp (disch := omega) only [Try.f24, go_sem, Nat.reduceAdd, Nat.reduceLeDiff, Nat.reduceLT, ↓reduceIte, List.head?_cons, List.set_cons_succ, List.set_cons_zero]
    refine hK _ ?_
    clear hK K
    refine nx_then ?_
    refine awp_regP (Γ := noEnv) [] (noEnv_ok _ _) rfl rfl rfl (fun K hK => ?_)
    simp (disch := omega) only [Try.f24, go_sem, Nat.reduceAdd, Nat.reduceLeDiff, ↓reduceIte, h6, h7, hn, hkl, splice, List.nil_append, List.cons_append, List.head?_cons, List.set_cons_zero, List.take_succ_cons, List.take_zero, List.drop_succ_cons, List.drop_zero]
    refine hK _ ?_
    clear hK K
    show HeapEnd _ _ _ _ _ _
    refine ⟨rfl, fun j oo hj => setR_mono (fun j oo hj => ?_) j oo hj, by simp only; omega⟩
    simp only [upd_apply, del_apply, Nat.add_assoc, Nat.reduceAdd] at hj ⊢
    by_cases q1 : j = po
    · rw [if_pos q1] at hj ⊢; rw [hn] at hj; exact hj
    · rw [if_neg q1] at hj ⊢
      by_cases q2 : j = nx + 173
      · rw [if_pos q2] at hj ⊢; rw [kysC_app, kysC_one] at hj; exact hj
      · rw [if_neg q2] at hj ⊢
        by_cases q3 : j = o
        · rw [if_pos q3] at hj; cases hj
        · rw [if_neg q3] at hj ⊢
          have := hlt j oo hj
          rw [if_neg (by omega), if_neg (by omega)]; exact hj
  · cases hg
theorem okh24 : EntOK Try.prog GLh 24 (.heap stG) := ⟨⟨_, Try.func24, rfl, rfl⟩, st_ok⟩
end Go.AX
