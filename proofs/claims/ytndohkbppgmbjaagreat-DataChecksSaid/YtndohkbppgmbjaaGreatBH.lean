/-
  Data, part O: whole data read, and what gives up caught. Data, part P: a SOA's data read. Data, part Q: Soa, Key, Target, Check. Data, part R: data checked.
-/
import Derived.Test.YtndohkbppgmbjaaGreatBG
namespace Go.AX
open Go Go.Proofs
def rdT (z : AV) (len : Nat) : Option (AV × List AV) → AV
 | some (v, [_, .i p]) => if p = (len : Int) then .tup [v, .i 0] else .tup [z, .i 50]
 | _ => .tup [z, .i 50]
theorem rdT_n (z : AV) (len : Nat) : rdT z len none = .tup [z, .i 50] := rfl
theorem fO {p : Int} {len : Nat} (z v s : AV) (h : p = (len : Int)) : rdT z len (some (v, [s, .i p])) = .tup [v, .i 0] := if_pos h
theorem iD {p : Int} {len : Nat} (z v s : AV) (h : ¬ p = (len : Int)) : rdT z len (some (v, [s, .i p])) = .tup [z, .i 50] := if_neg h
theorem idleG_2 (a b : AV) (hp : H) (nx : Nat) : fD 2 [a, b] hp nx = some (hp, nx) := cU _ rfl
theorem ids_t2 (a b : AV) : AV.ids (.tup [a, b]) = max a.ids (max b.ids 0) := (rfl)
attribute [go_sem] idleG_2
theorem upd2_sub {hp : H} {nx m i1 i2 : Nat} {a c1 c2 : AO} (hno : ∀ id, nx ≤ id → hp id = none) (hm : nx ≤ m) (id : Nat) (o : AO) (h : upd (upd hp i1 c1) i2 c2 id = some o) : upd (upd (upd hp m a) i1 c1) i2 c2 id = some o := by
 simp only [bJ] at h ⊢
 split
 ·rename_i e; rw [if_pos e] at h; exact h
 rename_i e; rw [if_neg e] at h
 split
 ·rename_i e; rw [if_pos e] at h; exact h
 rename_i e; rw [if_neg e] at h
 split
 ·rename_i e; rw [e, hno m hm] at h; cases h
 ·exact h
theorem upd2b_sub {hp : H} {nx m q i1 i2 : Nat} {a b c1 c2 : AO} (hno : ∀ id, nx ≤ id → hp id = none) (hm : nx ≤ m) (hq : nx ≤ q) (id : Nat) (o : AO) (h : upd (upd hp i1 c1) i2 c2 id = some o) : upd (upd (upd (upd hp m a) q b) i1 c1) i2 c2 id = some o := by
 simp only [bJ] at h ⊢
 split
 ·rename_i e; rw [if_pos e] at h; exact h
 rename_i e; rw [if_neg e] at h
 split
 ·rename_i e; rw [if_pos e] at h; exact h
 rename_i e; rw [if_neg e] at h
 split
 ·rename_i e; rw [e, hno q hq] at h; cases h
 split
 ·rename_i e; rw [e, hno m hm] at h; cases h
 ·exact h
def is4 : Option AO → Bool
 | some (.cells [_, _, _, _] true) => true
 | _ => false
theorem is4_inv {o : Option AO} (h : is4 o = true) : ∃ x0 x1 x2 x3, o = some (.cells [x0, x1, x2, x3] true) := by
 unfold is4 at h
 split at h
 ·exact ⟨_, _, _, _, rfl⟩
 ·cases h
theorem is4_c (x0 x1 x2 x3 : AV) : is4 (some (.cells [x0, x1, x2, x3] true)) = true := (rfl)
attribute [go_sem] is4_c
theorem ofv_fz : ofV (.agg #[]) = .agg [] := (rfl)
theorem isi100 : isIfT Tryz.prog 100 = false := by kernel_rfl
theorem zc100 : cG Tryz.prog 100 = some [] := by kernel_rfl
theorem stL_0 (ys : List AV) : dV ys 0 [] = ys := by simp [dV, cK]
attribute [go_sem] ofv_fz isi100 zc100
theorem rdint_cases (t : BitVec 16) (l : List B8) : chk1R l (shp t l) = none ∨ ∃ p : Nat, chk1R l (shp t l) = some (.i 0, [.sl l.length (c8 l), .i (p : Int)]) := by
 rcases shp t l with _ | p
 ·exact .inl rfl
 ·exact .inr ⟨p, rfl⟩
theorem rdnam_cases (t : BitVec 16) (l : List B8) : tgtR t l = none ∨ ∃ (v : Nm) (p : Nat), tgtR t l = some (.sl v.length (cS v), [.sl l.length (c8 l), .i (p : Int)]) := by
 unfold tgtR
 split
 ·rcases nmE_cases l (ahd t) with ⟨_, e⟩ | ⟨n, s, _, e⟩
  ·exact .inl e
  ·exact .inr ⟨n, _, e⟩
 ·exact .inl rfl
theorem rdkey_cases (l : List B8) : gE l = none ∨ ∃ (v1 : BitVec 16) (v2 v3 : B8) (v4 : List B8) (p : Nat), gE l = some (.agg [.w16 v1, .w8 v2, .w8 v3, .sl v4.length (c8 v4)], [.sl l.length (c8 l), .i (p : Int)]) := by
 unfold gE
 split
 ·exact .inr ⟨_, _, _, l.drop 4, l.length, by rw [List.length_drop]; rfl⟩
 ·exact .inl rfl
theorem idle68 (vals : Array Value) (w : World) (hs : vals.size = 2) : CallsD Tryz.prog 62 vals .returning w fun e u1 w' => e = .returned (.tuple #[]) ∧ u1 = .returning ∧ w' = w := by
 obtain ⟨l⟩ := vals
 match l, hs with
 | [a, b], _ =>
  refine callsD_of_wpS Tryz.func62 rfl fun c₀ cs hu => ?_
  apply wpS_seq
  apply wpS_region
  simp [wpOpsS, go_sem, recoverD, hu, Tryz.ntmps62, Exit.thenS]
  apply wpS_seq
  apply wpS_region
  simp [wpOpsS, go_sem, Exit.thenS]
  refine wpS_cond (t := false) (by simp [Act.eval, Array.replicate]) ?_
  simp only [Bool.false_eq_true, if_false]
  refine wpS_of_wp (wp_skip ?_)
  cases c₀
  simp_all [bodyPostS, results, Tryz.results62]
theorem c68_i : DefOK Tryz.prog GLh 62 .returning .returning (fD 2) := d_idle idle68
theorem call68 : cJ Tryz.prog 62 := ⟨_, Tryz.func62, rfl, rfl⟩
def c68P : List AV → H → Nat → Option (H × Nat)
 | [.op i1 0, .op i2 0], hp, nx => aN ((eS (hp i1) = true ∧ eS (hp i2) = true) ∧ i1 ≠ i2 ∧ i1 < nx ∧ i2 < nx) (some (upd (upd hp i1 (.cells [.i 0] true)) i2 (.cells [.i 50] true), nx + 30))
 | _, _, _ => none
theorem c68P_eq (i1 i2 nx : Nat) (hp : H) : c68P [.op i1 0, .op i2 0] hp nx = aN ((eS (hp i1) = true ∧ eS (hp i2) = true) ∧ i1 ≠ i2 ∧ i1 < nx ∧ i2 < nx) (some (upd (upd hp i1 (.cells [.i 0] true)) i2 (.cells [.i 50] true), nx + 30)) := (rfl)
attribute [go_sem] c68P_eq
set_option maxHeartbeats 4000000 in
theorem c68_pan : DefOK Tryz.prog GLh 62 (.panicking chM) (.panicking [{ v := .iface 100 (.agg #[]), recovered := true }]) c68P := by
 refine fZ (rest := (cr (aE Tryz.f62))) (rv := .iface 100 (.agg #[])) (a := 6) (b := 2) Tryz.func62 rfl (.inl rfl) ⟨Nat.le_of_ble_eq_true rfl, Nat.le_of_ble_eq_true rfl⟩ ?_
 intro args hp nx hp' nx' hg
 unfold c68P at hg
 split at hg
 ·rename_i i1 i2
  replace hg := aP hg; obtain ⟨⟨⟨o1, o2⟩, n12, l1, l2⟩, hg⟩ := hg
  simp only [Option.some.injEq, Prod.mk.injEq] at hg; obtain ⟨rfl, rfl⟩ := hg
  obtain ⟨x0, h1⟩ := eG o1
  obtain ⟨y, h2⟩ := eG o2
  refine ⟨Nat.le_of_ble_eq_true rfl, Nat.le_add_right _ _, fun hno => ?_⟩
  simp only [frOf]
  refine aA rfl ?_
  refine aC (Γ := aL) [8, 0, 1, 2] (aD _ _) rfl rfl rfl (fun K hK => ?_)
  simp (disch := omega) only [Tryz.f62, go_sem, Nat.reduceAdd, ↓reduceIte]
  refine hK _ ?_
  refine aB ?_
  refine bA (.tmp 8) rfl rfl rfl (fun h => ?_) (fun h => ?_)
  ·skip
   refine aI rfl ?_
   refine aA rfl ?_
   refine aA rfl ?_
   refine aC (Γ := aL) [0, 1, 2, 4] (aD _ _) rfl rfl rfl (fun K hK => ?_)
   simp (disch := omega) only [Tryz.f62, go_sem, Nat.reduceAdd, Nat.reduceLeDiff, ↓reduceIte]
   refine hK _ ?_
   refine aB ?_
   refine aA rfl ?_
   refine aC (Γ := aL) [15, 0, 1, 2] (aD _ _) rfl rfl rfl (fun K hK => ?_)
   simp (disch := omega) only [Tryz.f62, go_sem, Nat.reduceAdd, ↓reduceIte]
   refine hK _ ?_
   refine aB ?_
   refine bA (.tmp 15) rfl rfl rfl (fun h => ?_) (fun h => ?_)
   ·skip
    refine aI rfl ?_
    cases h
   ·skip
    refine aI rfl ?_
    clear h
    refine aQ rfl ?_
    refine aB ?_
    refine aA rfl ?_
    refine aC (Γ := aL) [0, 1, 5] (aD _ _) rfl rfl rfl (fun K hK => ?_)
    simp (disch := omega) only [Tryz.f62, go_sem, ↓reduceIte]
    refine hK _ ?_
    refine aB ?_
    refine aC (Γ := aL) [] (aD _ _) rfl rfl rfl (fun K hK => ?_)
    simp (disch := omega) only [Tryz.f62, go_sem, Nat.reduceAdd, Nat.reduceLeDiff, ↓reduceIte, h1, h2]
    refine hK _ ?_
    exact ⟨rfl, upd2_sub hno (by omega), by simp only; omega⟩
  ·skip
   refine aI rfl ?_
   cases h
 ·cases hg
def rdintG : List AV → Option AV
 | [.sl n xs, .fn 36 [.rp [.w16 t]]] => aK (cI xs) fun l => aN (l.length = n ∧ n ≤ 100000) (some (rdT (.i 0) l.length (chk1R l (shp t l))))
 | _ => none
theorem rdintG_eq (t : BitVec 16) (n : Nat) (xs : List AV) : rdintG [.sl n xs, .fn 36 [.rp [.w16 t]]] = aK (cI xs) fun l => aN (l.length = n ∧ n ≤ 100000) (some (rdT (.i 0) l.length (chk1R l (shp t l)))) := (rfl)
attribute [go_sem] rdintG_eq
set_option maxHeartbeats 4000000 in
theorem rdint_ok : cL Tryz.prog GLh 35 rdintG := by
 refine pure_def (r0 := (cl (aE Tryz.f35))) (C := (cr (cr (aE Tryz.f35)))) (k := 7) (d := 62) (caps := #[.tmp 4, .tmp 5]) Tryz.func35 rfl (Nat.le_of_ble_eq_true rfl) call68 c68_i c68_pan rfl ?_
 intro args r hg
 unfold rdintG at hg
 split at hg
 ·rename_i n xs t
  replace hg := aJ hg; obtain ⟨l, hl, hg⟩ := hg
  replace hg := aP hg; obtain ⟨⟨rfl, hnb⟩, hg⟩ := hg
  obtain rfl := Option.some.inj hg
  have := bW hl; subst this
  refine ⟨Nat.le_of_ble_eq_true rfl, fun nx => ⟨[.op nx 0, .op (nx + 1) 0], ?_⟩⟩
  clear hl hg
  have hcs := rdint_cases t l
  refine aC (Γ := aL) [0, 1, 4, 5] (aD _ _) rfl rfl rfl (fun K hK => ?_)
  simp (disch := omega) only [Tryz.f35, go_sem, Nat.reduceAdd, ↓reduceIte]
  refine hK _ ?_
  refine ⟨rfl, ?_⟩
  simp only [defS]
  refine aA rfl ?_
  refine aC (Γ := aL) [0, 1, 4, 5, 6] (aD _ _) rfl rfl rfl (fun K hK => ?_)
  simp (disch := omega) only [Tryz.f35, go_sem, Nat.reduceAdd, Nat.reduceLeDiff, ↓reduceIte]
  refine hK _ ?_
  refine aB ?_
  rcases hcs with e2 | ⟨p, e2⟩
  ·skip
   refine aA rfl ?_
   refine bH (Γ := aL) 2 (chk1_pan) call41 (aD _ _) rfl rfl rfl (fun Z hZ => ?_)
   simp (disch := omega) only [Tryz.f35, go_sem, Nat.reduceAdd, ↓reduceIte, bG, eq_self, true_and, bP, List.map_cons, List.map_nil, e2, List.take_succ_cons, List.take_zero]
   refine hZ _ ?_; clear hZ Z
   refine hX (gI := fD 2) (p := _) (by simp (disch := omega) only [go_sem, aV, de_app, bY, ↓reduceIte]; rfl) ?_
   rw [e2, rdT_n]
   simp (disch := omega) only [bV, bK, bQ, Tryz.f35, go_sem, aV, bY, ↓reduceIte]
  ·skip
   refine aA rfl ?_
   refine aC (Γ := bC [(36, .heap (rdH chk1G))]) [0, 4, 5, 6] (aH ok41 aO) rfl rfl rfl (fun K hK => ?_)
   simp (disch := omega) only [Tryz.f35, go_sem, Nat.reduceAdd, Nat.reduceLeDiff, ↓reduceIte, e2]
   refine hK _ ?_
   refine aB ?_
   by_cases hp : (p : Int) = (l.length : Int)
   ·skip
    have hd : decide ((p : Int) = (l.length : Int)) = true := decide_eq_true hp
    refine aA rfl ?_
    refine aC (Γ := bC [(56, .pure true eM)]) [4, 5] (aH ok60 aO) rfl rfl rfl (fun K hK => ?_)
    simp (disch := omega) only [Tryz.f35, go_sem, Nat.reduceAdd, Nat.reduceLT, ↓reduceIte, hd]
    refine hK _ ?_
    refine aB ?_
    refine aA rfl ?_
    refine aC (Γ := aL) [4, 5] (aD _ _) rfl rfl rfl (fun K hK => ?_)
    simp (disch := omega) only [Tryz.f35, go_sem, Nat.reduceAdd, Nat.reduceLeDiff, ↓reduceIte]
    refine hK _ ?_
    refine aB ?_
    refine aS rfl ?_
    refine defQ_ret (gP := c68P) (ch := chM) (p := _) (idleG_2 _ _ _ _) ?_
    rw [e2, fO _ _ _ hp]
    simp (disch := omega) only [bV, bK, bQ, Tryz.f35, go_sem, aV, bY, ↓reduceIte]
   ·skip
    have hd : decide ((p : Int) = (l.length : Int)) = false := decide_eq_false hp
    refine aA rfl ?_
    refine bH (Γ := bC [(56, .pure true eM)]) 7 (fC) call60 (aH ok60 aO) rfl rfl rfl (fun Z hZ => ?_)
    simp (disch := omega) only [Tryz.f35, go_sem, Nat.reduceAdd, Nat.reduceLT, ↓reduceIte, bG, eq_self, true_and, bP, List.map_cons, List.map_nil, List.append_nil, hd, List.take_succ_cons, List.take_zero]
    refine hZ _ ?_; clear hZ Z
    refine hX (gI := fD 2) (p := _) (by simp (disch := omega) only [go_sem, aV, bY, ↓reduceIte]; rfl) ?_
    rw [e2, iD _ _ _ hp]
    simp (disch := omega) only [bV, bK, bQ, Tryz.f35, go_sem, aV, bY, ↓reduceIte]
 ·cases hg
theorem ids_rdint (t : BitVec 16) (l : List B8) : AV.ids (rdT (.i 0) l.length (chk1R l (shp t l))) = 0 := by
 rcases rdint_cases t l with e2 | ⟨p, e2⟩
 ·rw [e2]; rfl
 ·rw [e2]
  by_cases hp : (p : Int) = (l.length : Int)
  ·rw [fO _ _ _ hp]; simp only [ids_t2]; rfl
  ·rw [iD _ _ _ hp]; rfl
theorem ok40 : bX Tryz.prog GLh 35 (.heap (capG2 36 rdintG)) := ⟨⟨_, Tryz.func35, rfl, rfl⟩, heap_cap2 rdint_ok⟩
theorem idle70 (vals : Array Value) (w : World) (hs : vals.size = 2) : CallsD Tryz.prog 55 vals .returning w fun e u1 w' => e = .returned (.tuple #[]) ∧ u1 = .returning ∧ w' = w := by
 obtain ⟨l⟩ := vals
 match l, hs with
 | [a, b], _ =>
  refine callsD_of_wpS Tryz.func55 rfl fun c₀ cs hu => ?_
  apply wpS_seq
  apply wpS_region
  simp [wpOpsS, go_sem, recoverD, hu, Tryz.ntmps55, Exit.thenS]
  apply wpS_seq
  apply wpS_region
  simp [wpOpsS, go_sem, Exit.thenS]
  refine wpS_cond (t := false) (by simp [Act.eval, Array.replicate]) ?_
  simp only [Bool.false_eq_true, if_false]
  refine wpS_of_wp (wp_skip ?_)
  cases c₀
  simp_all [bodyPostS, results, Tryz.results55]
theorem c70_i : DefOK Tryz.prog GLh 55 .returning .returning (fD 2) := d_idle idle70
theorem call70 : cJ Tryz.prog 55 := ⟨_, Tryz.func55, rfl, rfl⟩
def c70P : List AV → H → Nat → Option (H × Nat)
 | [.op i1 0, .op i2 0], hp, nx => aN ((eS (hp i1) = true ∧ eS (hp i2) = true) ∧ i1 ≠ i2 ∧ i1 < nx ∧ i2 < nx) (some (upd (upd hp i1 (.cells [.v (.slice none 0 0)] true)) i2 (.cells [.i 50] true), nx + 30))
 | _, _, _ => none
theorem c70P_eq (i1 i2 nx : Nat) (hp : H) : c70P [.op i1 0, .op i2 0] hp nx = aN ((eS (hp i1) = true ∧ eS (hp i2) = true) ∧ i1 ≠ i2 ∧ i1 < nx ∧ i2 < nx) (some (upd (upd hp i1 (.cells [.v (.slice none 0 0)] true)) i2 (.cells [.i 50] true), nx + 30)) := (rfl)
attribute [go_sem] c70P_eq
set_option maxHeartbeats 4000000 in
theorem c70_pan : DefOK Tryz.prog GLh 55 (.panicking chM) (.panicking [{ v := .iface 100 (.agg #[]), recovered := true }]) c70P := by
 refine fZ (rest := (cr (aE Tryz.f55))) (rv := .iface 100 (.agg #[])) (a := 6) (b := 2) Tryz.func55 rfl (.inl rfl) ⟨Nat.le_of_ble_eq_true rfl, Nat.le_of_ble_eq_true rfl⟩ ?_
 intro args hp nx hp' nx' hg
 unfold c70P at hg
 split at hg
 ·rename_i i1 i2
  replace hg := aP hg; obtain ⟨⟨⟨o1, o2⟩, n12, l1, l2⟩, hg⟩ := hg
  simp only [Option.some.injEq, Prod.mk.injEq] at hg; obtain ⟨rfl, rfl⟩ := hg
  obtain ⟨x0, h1⟩ := eG o1
  obtain ⟨y, h2⟩ := eG o2
  refine ⟨Nat.le_of_ble_eq_true rfl, Nat.le_add_right _ _, fun hno => ?_⟩
  simp only [frOf]
  refine aA rfl ?_
  refine aC (Γ := aL) [8, 0, 1, 2] (aD _ _) rfl rfl rfl (fun K hK => ?_)
  simp (disch := omega) only [Tryz.f55, go_sem, Nat.reduceAdd, ↓reduceIte]
  refine hK _ ?_
  refine aB ?_
  refine bA (.tmp 8) rfl rfl rfl (fun h => ?_) (fun h => ?_)
  ·skip
   refine aI rfl ?_
   refine aA rfl ?_
   refine aA rfl ?_
   refine aC (Γ := aL) [0, 1, 2, 4] (aD _ _) rfl rfl rfl (fun K hK => ?_)
   simp (disch := omega) only [Tryz.f55, go_sem, Nat.reduceAdd, Nat.reduceLeDiff, ↓reduceIte]
   refine hK _ ?_
   refine aB ?_
   refine aA rfl ?_
   refine aC (Γ := aL) [15, 0, 1, 2] (aD _ _) rfl rfl rfl (fun K hK => ?_)
   simp (disch := omega) only [Tryz.f55, go_sem, Nat.reduceAdd, ↓reduceIte]
   refine hK _ ?_
   refine aB ?_
   refine bA (.tmp 15) rfl rfl rfl (fun h => ?_) (fun h => ?_)
   ·skip
    refine aI rfl ?_
    cases h
   ·skip
    refine aI rfl ?_
    clear h
    refine aQ rfl ?_
    refine aB ?_
    refine aA rfl ?_
    refine aC (Γ := aL) [0, 1, 5] (aD _ _) rfl rfl rfl (fun K hK => ?_)
    simp (disch := omega) only [Tryz.f55, go_sem, ↓reduceIte]
    refine hK _ ?_
    refine aB ?_
    refine aC (Γ := aL) [] (aD _ _) rfl rfl rfl (fun K hK => ?_)
    simp (disch := omega) only [Tryz.f55, go_sem, Nat.reduceAdd, Nat.reduceLeDiff, ↓reduceIte, h1, h2]
    refine hK _ ?_
    exact ⟨rfl, upd2_sub hno (by omega), by simp only; omega⟩
  ·skip
   refine aI rfl ?_
   cases h
 ·cases hg
def rdnamG : List AV → Option AV
 | [.sl n xs, .fn 31 [.rp [.w16 t]]] => aK (cI xs) fun l => aN (l.length = n ∧ n ≤ 100000) (some (rdT (.sl 0 []) l.length (tgtR t l)))
 | _ => none
theorem rdnamG_eq (t : BitVec 16) (n : Nat) (xs : List AV) : rdnamG [.sl n xs, .fn 31 [.rp [.w16 t]]] = aK (cI xs) fun l => aN (l.length = n ∧ n ≤ 100000) (some (rdT (.sl 0 []) l.length (tgtR t l))) := (rfl)
attribute [go_sem] rdnamG_eq
set_option maxHeartbeats 4000000 in
theorem rdnam_ok : cL Tryz.prog GLh 30 rdnamG := by
 refine pure_def (r0 := (cl (aE Tryz.f30))) (C := (cr (cr (aE Tryz.f30)))) (k := 7) (d := 55) (caps := #[.tmp 4, .tmp 5]) Tryz.func30 rfl (Nat.le_of_ble_eq_true rfl) call70 c70_i c70_pan rfl ?_
 intro args r hg
 unfold rdnamG at hg
 split at hg
 ·rename_i n xs t
  replace hg := aJ hg; obtain ⟨l, hl, hg⟩ := hg
  replace hg := aP hg; obtain ⟨⟨rfl, hnb⟩, hg⟩ := hg
  obtain rfl := Option.some.inj hg
  have := bW hl; subst this
  refine ⟨Nat.le_of_ble_eq_true rfl, fun nx => ⟨[.op nx 0, .op (nx + 1) 0], ?_⟩⟩
  clear hl hg
  have hcs := rdnam_cases t l
  refine aC (Γ := aL) [0, 1, 4, 5] (aD _ _) rfl rfl rfl (fun K hK => ?_)
  simp (disch := omega) only [Tryz.f30, go_sem, Nat.reduceAdd, ↓reduceIte]
  refine hK _ ?_
  refine ⟨rfl, ?_⟩
  simp only [defS]
  refine aA rfl ?_
  refine aC (Γ := aL) [0, 1, 4, 5, 6] (aD _ _) rfl rfl rfl (fun K hK => ?_)
  simp (disch := omega) only [Tryz.f30, go_sem, Nat.reduceAdd, Nat.reduceLeDiff, ↓reduceIte]
  refine hK _ ?_
  refine aB ?_
  rcases hcs with e2 | ⟨v, p, e2⟩
  ·skip
   refine aA rfl ?_
   refine bH (Γ := aL) 2 (tgt_pan) call44 (aD _ _) rfl rfl rfl (fun Z hZ => ?_)
   simp (disch := omega) only [Tryz.f30, go_sem, Nat.reduceAdd, ↓reduceIte, bG, eq_self, true_and, bP, List.map_cons, List.map_nil, e2, List.take_succ_cons, List.take_zero]
   refine hZ _ ?_; clear hZ Z
   refine hX (gI := fD 2) (p := _) (by simp (disch := omega) only [go_sem, aV, de_app, bY, ↓reduceIte]; rfl) ?_
   rw [e2, rdT_n]
   simp (disch := omega) only [bV, bK, bQ, Tryz.f30, go_sem, aV, bY, ↓reduceIte]
  ·skip
   refine aA rfl ?_
   refine aC (Γ := bC [(31, .heap (rdH tgtG))]) [0, 4, 5, 6] (aH ok44 aO) rfl rfl rfl (fun K hK => ?_)
   simp (disch := omega) only [Tryz.f30, go_sem, Nat.reduceAdd, Nat.reduceLeDiff, ↓reduceIte, e2]
   refine hK _ ?_
   refine aB ?_
   by_cases hp : (p : Int) = (l.length : Int)
   ·skip
    have hd : decide ((p : Int) = (l.length : Int)) = true := decide_eq_true hp
    refine aA rfl ?_
    refine aC (Γ := bC [(56, .pure true eM)]) [4, 5] (aH ok60 aO) rfl rfl rfl (fun K hK => ?_)
    simp (disch := omega) only [Tryz.f30, go_sem, Nat.reduceAdd, Nat.reduceLT, ↓reduceIte, hd]
    refine hK _ ?_
    refine aB ?_
    refine aA rfl ?_
    refine aC (Γ := aL) [4, 5] (aD _ _) rfl rfl rfl (fun K hK => ?_)
    simp (disch := omega) only [Tryz.f30, go_sem, Nat.reduceAdd, Nat.reduceLeDiff, ↓reduceIte]
    refine hK _ ?_
    refine aB ?_
    refine aS rfl ?_
    refine defQ_ret (gP := c70P) (ch := chM) (p := _) (idleG_2 _ _ _ _) ?_
    rw [e2, fO _ _ _ hp]
    simp (disch := omega) only [bV, bK, bQ, Tryz.f30, go_sem, aV, bY, ↓reduceIte]
   ·skip
    have hd : decide ((p : Int) = (l.length : Int)) = false := decide_eq_false hp
    refine aA rfl ?_
    refine bH (Γ := bC [(56, .pure true eM)]) 7 (fC) call60 (aH ok60 aO) rfl rfl rfl (fun Z hZ => ?_)
    simp (disch := omega) only [Tryz.f30, go_sem, Nat.reduceAdd, Nat.reduceLT, ↓reduceIte, bG, eq_self, true_and, bP, List.map_cons, List.map_nil, List.append_nil, hd, List.take_succ_cons, List.take_zero]
    refine hZ _ ?_; clear hZ Z
    refine hX (gI := fD 2) (p := _) (by simp (disch := omega) only [go_sem, aV, bY, ↓reduceIte]; rfl) ?_
    rw [e2, iD _ _ _ hp]
    simp (disch := omega) only [bV, bK, bQ, Tryz.f30, go_sem, aV, bY, ↓reduceIte]
 ·cases hg
theorem ids_rdnam (t : BitVec 16) (l : List B8) : AV.ids (rdT (.sl 0 []) l.length (tgtR t l)) = 0 := by
 rcases rdnam_cases t l with e2 | ⟨v, p, e2⟩
 ·rw [e2]; rfl
 ·rw [e2]
  by_cases hp : (p : Int) = (l.length : Int)
  ·rw [fO _ _ _ hp]; simp only [ids_t2, ids_slS]; rfl
  ·rw [iD _ _ _ hp]; rfl
theorem ok43 : bX Tryz.prog GLh 30 (.heap (capG2 31 rdnamG)) := ⟨⟨_, Tryz.func30, rfl, rfl⟩, heap_cap2 rdnam_ok⟩
theorem idle78 (vals : Array Value) (w : World) (hs : vals.size = 2) : CallsD Tryz.prog 65 vals .returning w fun e u1 w' => e = .returned (.tuple #[]) ∧ u1 = .returning ∧ w' = w := by
 obtain ⟨l⟩ := vals
 match l, hs with
 | [a, b], _ =>
  refine callsD_of_wpS Tryz.func65 rfl fun c₀ cs hu => ?_
  apply wpS_seq
  apply wpS_region
  simp [wpOpsS, go_sem, recoverD, hu, Tryz.ntmps65, Exit.thenS]
  apply wpS_seq
  apply wpS_region
  simp [wpOpsS, go_sem, Exit.thenS]
  refine wpS_cond (t := false) (by simp [Act.eval, Array.replicate]) ?_
  simp only [Bool.false_eq_true, if_false]
  refine wpS_of_wp (wp_skip ?_)
  cases c₀
  simp_all [bodyPostS, results, Tryz.results65]
theorem c78_i : DefOK Tryz.prog GLh 65 .returning .returning (fD 2) := d_idle idle78
theorem call78 : cJ Tryz.prog 65 := ⟨_, Tryz.func65, rfl, rfl⟩
def c78P : List AV → H → Nat → Option (H × Nat)
 | [.op i1 0, .op i2 0], hp, nx => aN ((is4 (hp i1) = true ∧ eS (hp i2) = true) ∧ i1 ≠ i2 ∧ i1 < nx ∧ i2 < nx) (some (upd (upd hp i1 (.cells [.w16 0#16, .w8 0#8, .w8 0#8, .v (.slice none 0 0)] true)) i2 (.cells [.i 50] true), nx + 30))
 | _, _, _ => none
theorem c78P_eq (i1 i2 nx : Nat) (hp : H) : c78P [.op i1 0, .op i2 0] hp nx = aN ((is4 (hp i1) = true ∧ eS (hp i2) = true) ∧ i1 ≠ i2 ∧ i1 < nx ∧ i2 < nx) (some (upd (upd hp i1 (.cells [.w16 0#16, .w8 0#8, .w8 0#8, .v (.slice none 0 0)] true)) i2 (.cells [.i 50] true), nx + 30)) := (rfl)
attribute [go_sem] c78P_eq
set_option maxHeartbeats 4000000 in
theorem c78_pan : DefOK Tryz.prog GLh 65 (.panicking chM) (.panicking [{ v := .iface 100 (.agg #[]), recovered := true }]) c78P := by
 refine fZ (rest := (cr (aE Tryz.f65))) (rv := .iface 100 (.agg #[])) (a := 6) (b := 2) Tryz.func65 rfl (.inl rfl) ⟨Nat.le_of_ble_eq_true rfl, Nat.le_of_ble_eq_true rfl⟩ ?_
 intro args hp nx hp' nx' hg
 unfold c78P at hg
 split at hg
 ·rename_i i1 i2
  replace hg := aP hg; obtain ⟨⟨⟨o1, o2⟩, n12, l1, l2⟩, hg⟩ := hg
  simp only [Option.some.injEq, Prod.mk.injEq] at hg; obtain ⟨rfl, rfl⟩ := hg
  obtain ⟨x0, x1, x2, x3, h1⟩ := is4_inv o1
  obtain ⟨y, h2⟩ := eG o2
  refine ⟨Nat.le_of_ble_eq_true rfl, Nat.le_add_right _ _, fun hno => ?_⟩
  simp only [frOf]
  refine aA rfl ?_
  refine aC (Γ := aL) [8, 0, 1, 2] (aD _ _) rfl rfl rfl (fun K hK => ?_)
  simp (disch := omega) only [Tryz.f65, go_sem, Nat.reduceAdd, ↓reduceIte]
  refine hK _ ?_
  refine aB ?_
  refine bA (.tmp 8) rfl rfl rfl (fun h => ?_) (fun h => ?_)
  ·skip
   refine aI rfl ?_
   refine aA rfl ?_
   refine aA rfl ?_
   refine aC (Γ := aL) [0, 1, 2, 4] (aD _ _) rfl rfl rfl (fun K hK => ?_)
   simp (disch := omega) only [Tryz.f65, go_sem, Nat.reduceAdd, Nat.reduceLeDiff, ↓reduceIte]
   refine hK _ ?_
   refine aB ?_
   refine aA rfl ?_
   refine aC (Γ := aL) [15, 0, 1, 2] (aD _ _) rfl rfl rfl (fun K hK => ?_)
   simp (disch := omega) only [Tryz.f65, go_sem, Nat.reduceAdd, ↓reduceIte]
   refine hK _ ?_
   refine aB ?_
   refine bA (.tmp 15) rfl rfl rfl (fun h => ?_) (fun h => ?_)
   ·skip
    refine aI rfl ?_
    cases h
   ·skip
    refine aI rfl ?_
    clear h
    refine aQ rfl ?_
    refine aB ?_
    refine aA rfl ?_
    refine aC (Γ := aL) [0, 1, 5] (aD _ _) rfl rfl rfl (fun K hK => ?_)
    simp (disch := omega) only [Tryz.f65, go_sem, ↓reduceIte]
    refine hK _ ?_
    refine aB ?_
    refine aC (Γ := aL) [] (aD _ _) rfl rfl rfl (fun K hK => ?_)
    simp (disch := omega) only [Tryz.f65, go_sem, Nat.reduceAdd, Nat.reduceLeDiff, ↓reduceIte, h1, h2]
    refine hK _ ?_
    exact ⟨rfl, upd2b_sub hno (by omega) (by omega), by simp only; omega⟩
  ·skip
   refine aI rfl ?_
   cases h
 ·cases hg
def rdkeyG : List AV → Option AV
 | [.sl n xs, .fn 42 []] => aK (cI xs) fun l => aN (l.length = n ∧ n ≤ 100000) (some (rdT (.agg [.w16 0#16, .w8 0#8, .w8 0#8, .sl 0 []]) l.length (gE l)))
 | _ => none
theorem rdkeyG_eq (n : Nat) (xs : List AV) : rdkeyG [.sl n xs, .fn 42 []] = aK (cI xs) fun l => aN (l.length = n ∧ n ≤ 100000) (some (rdT (.agg [.w16 0#16, .w8 0#8, .w8 0#8, .sl 0 []]) l.length (gE l))) := (rfl)
attribute [go_sem] rdkeyG_eq
set_option maxHeartbeats 4000000 in
theorem rdkey_ok : cL Tryz.prog GLh 41 rdkeyG := by
 refine pure_def (r0 := (cl (aE Tryz.f41))) (C := (cr (cr (aE Tryz.f41)))) (k := 7) (d := 65) (caps := #[.tmp 4, .tmp 5]) Tryz.func41 rfl (Nat.le_of_ble_eq_true rfl) call78 c78_i c78_pan rfl ?_
 intro args r hg
 unfold rdkeyG at hg
 split at hg
 ·rename_i n xs
  replace hg := aJ hg; obtain ⟨l, hl, hg⟩ := hg
  replace hg := aP hg; obtain ⟨⟨rfl, hnb⟩, hg⟩ := hg
  obtain rfl := Option.some.inj hg
  have := bW hl; subst this
  refine ⟨Nat.le_of_ble_eq_true rfl, fun nx => ⟨[.op nx 0, .op (nx + 1) 0], ?_⟩⟩
  clear hl hg
  have hcs := rdkey_cases l
  refine aC (Γ := aL) [0, 1, 4, 5] (aD _ _) rfl rfl rfl (fun K hK => ?_)
  simp (disch := omega) only [Tryz.f41, go_sem, Nat.reduceAdd, ↓reduceIte]
  refine hK _ ?_
  refine ⟨rfl, ?_⟩
  simp only [defS]
  refine aA rfl ?_
  refine aC (Γ := aL) [0, 1, 4, 5, 6] (aD _ _) rfl rfl rfl (fun K hK => ?_)
  simp (disch := omega) only [Tryz.f41, go_sem, Nat.reduceAdd, Nat.reduceLeDiff, ↓reduceIte]
  refine hK _ ?_
  refine aB ?_
  rcases hcs with e2 | ⟨v1, v2, v3, v4, p, e2⟩
  ·skip
   refine aA rfl ?_
   refine bH (Γ := aL) 2 (key1_pan) call66 (aD _ _) rfl rfl rfl (fun Z hZ => ?_)
   simp (disch := omega) only [Tryz.f41, go_sem, Nat.reduceAdd, ↓reduceIte, bG, eq_self, true_and, bP, List.map_cons, List.map_nil, List.append_nil, e2, List.take_succ_cons, List.take_zero]
   refine hZ _ ?_; clear hZ Z
   refine hX (gI := fD 2) (p := _) (by simp (disch := omega) only [go_sem, aV, de_app, bY, ↓reduceIte]; rfl) ?_
   rw [e2, rdT_n]
   simp (disch := omega) only [bV, bK, bQ, Tryz.f41, go_sem, aV, bY, ↓reduceIte]
  ·skip
   refine aA rfl ?_
   refine aC (Γ := bC [(42, .heap (rdH key1G))]) [0, 4, 5, 6] (aH ok66 aO) rfl rfl rfl (fun K hK => ?_)
   simp (disch := omega) only [Tryz.f41, go_sem, Nat.reduceAdd, Nat.reduceLeDiff, ↓reduceIte, e2]
   refine hK _ ?_
   refine aB ?_
   by_cases hp : (p : Int) = (l.length : Int)
   ·skip
    have hd : decide ((p : Int) = (l.length : Int)) = true := decide_eq_true hp
    refine aA rfl ?_
    refine aC (Γ := bC [(56, .pure true eM)]) [4, 5] (aH ok60 aO) rfl rfl rfl (fun K hK => ?_)
    simp (disch := omega) only [Tryz.f41, go_sem, Nat.reduceAdd, Nat.reduceLT, ↓reduceIte, hd]
    refine hK _ ?_
    refine aB ?_
    refine aA rfl ?_
    refine aC (Γ := aL) [4, 5] (aD _ _) rfl rfl rfl (fun K hK => ?_)
    simp (disch := omega) only [Tryz.f41, go_sem, Nat.reduceAdd, Nat.reduceLeDiff, ↓reduceIte]
    refine hK _ ?_
    refine aB ?_
    refine aS rfl ?_
    refine defQ_ret (gP := c78P) (ch := chM) (p := _) (idleG_2 _ _ _ _) ?_
    rw [e2, fO _ _ _ hp]
    simp (disch := omega) only [bV, bK, bQ, Tryz.f41, go_sem, aV, bY, ↓reduceIte]
   ·skip
    have hd : decide ((p : Int) = (l.length : Int)) = false := decide_eq_false hp
    refine aA rfl ?_
    refine bH (Γ := bC [(56, .pure true eM)]) 7 (fC) call60 (aH ok60 aO) rfl rfl rfl (fun Z hZ => ?_)
    simp (disch := omega) only [Tryz.f41, go_sem, Nat.reduceAdd, Nat.reduceLT, ↓reduceIte, bG, eq_self, true_and, bP, List.map_cons, List.map_nil, List.append_nil, hd, List.take_succ_cons, List.take_zero]
    refine hZ _ ?_; clear hZ Z
    refine hX (gI := fD 2) (p := _) (by simp (disch := omega) only [go_sem, aV, bY, ↓reduceIte]; rfl) ?_
    rw [e2, iD _ _ _ hp]
    simp (disch := omega) only [bV, bK, bQ, Tryz.f41, go_sem, aV, bY, ↓reduceIte]
 ·cases hg
theorem ids_rdkey (l : List B8) : AV.ids (rdT (.agg [.w16 0#16, .w8 0#8, .w8 0#8, .sl 0 []]) l.length (gE l)) = 0 := by
 rcases rdkey_cases l with e2 | ⟨v1, v2, v3, v4, p, e2⟩
 ·rw [e2]; rfl
 ·rw [e2]
  by_cases hp : (p : Int) = (l.length : Int)
  ·rw [fO _ _ _ hp]; simp only [ids_a4, ids_t2, ids_sl]; rfl
  ·rw [iD _ _ _ hp]; rfl
theorem ok65 : bX Tryz.prog GLh 41 (.pure false rdkeyG) := ⟨⟨_, Tryz.func41, rfl, rfl⟩, rdkey_ok⟩
end Go.AX
namespace Go.AX
open Go Go.Proofs
def dX (l : List B8) (p : Nat) : BitVec 32 := eK ((l.drop p).take 4)
theorem num4_y {l : List B8} {p : Nat} (h : p + 4 ≤ l.length) : numR l 4 p = some (.w32 (dX l p), [.sl l.length (c8 l), .i ((p + 4 : Nat) : Int)]) := numR_y (by omega)
theorem num4_n {l : List B8} {p : Nat} (h : ¬ p + 4 ≤ l.length) (hp : p ≤ l.length) : numR l 4 p = none := fB (by omega)
theorem nameR_s {l : List B8} {a s : Nat} {n : Nm} (h : nmO (l.drop a) = some (n, s)) : nameR l a = some (.sl n.length (cS n), [.sl l.length (c8 l), .i ((a + s : Nat) : Int)]) := by unfold nameR; rw [h]
theorem nameR_n {l : List B8} {a : Nat} (h : nmO (l.drop a) = none) : nameR l a = none := by unfold nameR; rw [h]
theorem nmO_le {b : List B8} {n : Nm} {s : Nat} (h : nmO b = some (n, s)) : s ≤ b.length := by
 rcases iI b with ⟨h2, _⟩ | ⟨n2, s2, h2, h3, _⟩
 ·rw [h2] at h; cases h
 ·rw [h2] at h; simp only [Option.some.injEq, Prod.mk.injEq] at h; omega
def soaA (l : List B8) (n m : Nm) (p : Nat) : AV := .agg [.sl n.length (cS n), .sl m.length (cS m), .w32 (dX l p), .w32 (dX l (p + 4)), .w32 (dX l (p + 4 + 4)), .w32 (dX l (p + 4 + 4 + 4)), .w32 (dX l (p + 4 + 4 + 4 + 4))]
def soa1S (l : List B8) (n m : Nm) (p : Nat) : Option (AV × List AV) := if p + 4 + 4 + 4 + 4 + 4 ≤ l.length then some (soaA l n m p, [.sl l.length (c8 l), .i ((p + 4 + 4 + 4 + 4 + 4 : Nat) : Int)]) else none
def nm2 (l : List B8) : Option (Nm × Nm × Nat) := match nmO l with
 | none => none
 | some (n, s) => match nmO (l.drop s) with
  | none => none
  | some (m, s2) => some (n, m, s + s2)
def eX (l : List B8) : Option (AV × List AV) := match nm2 l with
 | none => none
 | some (n, m, p) => soa1S l n m p
def soa1G : List AV → List AV → Option (Option (AV × List AV))
 | [.op _ 0], [.sl n xs, .i 0] => aK (cI xs) fun l => aN (l.length = n ∧ n ≤ 100000) (some (eX l))
 | _, _ => none
theorem soa1G_eq (id n : Nat) (xs : List AV) : soa1G [.op id 0] [.sl n xs, .i 0] = aK (cI xs) fun l => aN (l.length = n ∧ n ≤ 100000) (some (eX l)) := (rfl)
attribute [go_sem] soa1G_eq
theorem st7 (a b c d e f g x y z u v w r : AV) : dV [a, b, c, d, e, f, g] 0 [x, y, z, u, v, w, r] = [x, y, z, u, v, w, r] := (rfl)
theorem tk7 (x y z u v w r : AV) : List.take 7 [x, y, z, u, v, w, r] = [x, y, z, u, v, w, r] := (rfl)
theorem ln7 (x y z u v w r : AV) : [x, y, z, u, v, w, r].length = 7 := (rfl)
theorem st7_2 (a b c d e f g x : AV) : [a, b, c, d, e, f, g].set 2 x = [a, b, x, d, e, f, g] := (rfl)
theorem st7_3 (a b c d e f g x : AV) : [a, b, c, d, e, f, g].set 3 x = [a, b, c, x, e, f, g] := (rfl)
theorem st7_4 (a b c d e f g x : AV) : [a, b, c, d, e, f, g].set 4 x = [a, b, c, d, x, f, g] := (rfl)
theorem st7_5 (a b c d e f g x : AV) : [a, b, c, d, e, f, g].set 5 x = [a, b, c, d, e, x, g] := (rfl)
theorem st7_6 (a b c d e f g x : AV) : [a, b, c, d, e, f, g].set 6 x = [a, b, c, d, e, f, x] := (rfl)
theorem st7_0 (a b c d e f g x : AV) : [a, b, c, d, e, f, g].set 0 x = [x, b, c, d, e, f, g] := (rfl)
theorem st7_1 (a b c d e f g x : AV) : [a, b, c, d, e, f, g].set 1 x = [a, x, c, d, e, f, g] := (rfl)
theorem ids_a7 (a b c d e f g : AV) : AV.ids (.agg [a, b, c, d, e, f, g]) = max a.ids (max b.ids (max c.ids (max d.ids (max e.ids (max f.ids (max g.ids 0)))))) := (rfl)
attribute [go_sem] st7 tk7 ln7 st7_0 st7_1 st7_2 st7_3 st7_4 st7_5 st7_6
def is7 : Option AO → Bool
 | some (.cells [_, _, _, _, _, _, _] true) => true
 | _ => false
theorem is7_inv {o : Option AO} (h : is7 o = true) : ∃ x0 x1 x2 x3 x4 x5 x6, o = some (.cells [x0, x1, x2, x3, x4, x5, x6] true) := by
 unfold is7 at h
 split at h
 ·exact ⟨_, _, _, _, _, _, _, rfl⟩
 ·cases h
theorem is7_c (x0 x1 x2 x3 x4 x5 x6 : AV) : is7 (some (.cells [x0, x1, x2, x3, x4, x5, x6] true)) = true := (rfl)
attribute [go_sem] is7_c
theorem rdsoa_cases (l : List B8) : eX l = none ∨ ∃ (v1 v2 : Nm) (v3 v4 v5 v6 v7 : BitVec 32) (p : Nat), eX l = some (.agg [.sl v1.length (cS v1), .sl v2.length (cS v2), .w32 v3, .w32 v4, .w32 v5, .w32 v6, .w32 v7], [.sl l.length (c8 l), .i (p : Int)]) := by
 unfold eX
 rcases nm2 l with _ | ⟨n, m, p⟩
 ·exact .inl rfl
 ·simp only [soa1S]
  split
  ·exact .inr ⟨_, _, _, _, _, _, _, _, rfl⟩
  ·exact .inl rfl
set_option maxHeartbeats 8000000 in
theorem soa1_both : cQ Tryz.prog GLh 48 (rdH soa1G) ∧ dE Tryz.prog GLh 48 chM (rdP soa1G) := by
 refine dT Tryz.func48 (aT rfl) ?_
 intro id off rest nx xs o hg
 unfold soa1G at hg
 split at hg
 ·rename_i id2 n xs2 heq
  simp only [List.cons.injEq, AV.op.injEq] at heq
  obtain ⟨⟨rfl, rfl⟩, rfl⟩ := heq
  replace hg := aJ hg; obtain ⟨l, hl, hg⟩ := hg
  replace hg := aP hg; obtain ⟨⟨rfl, hnb⟩, hg⟩ := hg
  obtain rfl := Option.some.inj hg
  have := bW hl; subst this
  refine ⟨Nat.le_of_ble_eq_true rfl, fun hid => ?_⟩
  clear hl hg
  obtain ⟨ans, hans⟩ : ∃ a, eX l = a := ⟨_, rfl⟩
  rw [hans]
  unfold eX nm2 at hans
  refine aA rfl ?_
  refine aC (Γ := aL) [0, 2] (aD _ _) rfl rfl rfl (fun K hK => ?_)
  simp (disch := omega) only [Tryz.f48, go_sem, ↓reduceIte]
  refine hK _ ?_
  refine aB ?_
  rcases h1 : nmO l with _ | ⟨n, s⟩
  ·skip
   rw [h1] at hans; subst hans
   refine aA rfl ?_
   refine bH (Γ := bC [(33, .heap (rdH gD))]) 1 (name_pan) call46 (aH ok46 aO) rfl rfl rfl (fun Z hZ => ?_)
   simp (disch := omega) only [Tryz.f48, go_sem, Nat.reduceAdd, Int.reduceLE, Int.reduceToNat, ↓reduceIte, bG, eq_self, true_and, bP, List.map_cons, List.map_nil, List.append_nil, nameR_n (l := l) (a := 0) h1, List.take_succ_cons, List.take_zero]
   refine hZ _ ?_; clear hZ Z
   exact rfl
  ·skip
   have e1 : nameR l 0 = some (.sl n.length (cS n), [.sl l.length (c8 l), .i (s : Int)]) := by have := nameR_s (l := l) (a := 0) h1; rw [Nat.zero_add] at this; exact this
   have hs := nmO_le h1
   rw [h1] at hans
   simp only at hans
   rcases h2 : nmO (l.drop s) with _ | ⟨m, s2⟩
   ·skip
    rw [h2] at hans; subst hans
    refine aA rfl ?_
    refine bH (Γ := bC [(33, .heap (rdH gD))]) 3 (name_pan) call46 (aH ok46 aO) rfl rfl rfl (fun Z hZ => ?_)
    simp (disch := omega) only [Tryz.f48, go_sem, Nat.reduceAdd, Int.reduceLE, Int.reduceToNat, ↓reduceIte, bG, eq_self, true_and, bP, List.map_cons, List.map_nil, List.append_nil, e1, Int.toNat_natCast, nameR_n h2, List.take_succ_cons, List.take_zero]
    refine hZ _ ?_; clear hZ Z
    exact rfl
   ·skip
    have e2 := nameR_s h2
    have hs2 := nmO_le h2
    rw [List.length_drop] at hs2
    rw [h2] at hans
    simp only at hans
    refine aA rfl ?_
    refine aC (Γ := bC [(33, .heap (rdH gD))]) [0, 2, 3] (aH ok46 aO) rfl rfl rfl (fun K hK => ?_)
    simp (disch := omega) only [Tryz.f48, go_sem, Nat.reduceAdd, Nat.reduceLeDiff, Int.reduceLE, Int.reduceToNat, ↓reduceIte, e1, Int.toNat_natCast, e2]
    refine hK _ ?_
    refine aB ?_
    obtain ⟨p, hp⟩ : ∃ p, s + s2 = p := ⟨_, rfl⟩
    have hpl : p ≤ l.length := by omega
    rw [hp] at hans ⊢
    unfold soa1S at hans
    by_cases q1 : p + 4 ≤ l.length
    ·skip
     have n1 := num4_y q1
     by_cases q2 : p + 4 + 4 ≤ l.length
     ·skip
      have n2 := num4_y q2
      by_cases q3 : p + 4 + 4 + 4 ≤ l.length
      ·skip
       have n3 := num4_y q3
       refine aA rfl ?_
       refine aC (Γ := bC [(43, .heap (rdH eN))]) [0, 2, 3] (aH fL aO) rfl rfl rfl (fun K hK => ?_)
       simp (disch := omega) only [Tryz.f48, go_sem, Nat.reduceAdd, Nat.reduceLeDiff, Nat.reduceLT, Int.reduceLE, Int.reduceToNat, ↓reduceIte, Int.toNat_natCast, n1, n2, n3]
       refine hK _ ?_
       refine aB ?_
       by_cases q4 : p + 4 + 4 + 4 + 4 ≤ l.length
       ·skip
        have n4 := num4_y q4
        by_cases q5 : p + 4 + 4 + 4 + 4 + 4 ≤ l.length
        ·skip
         have n5 := num4_y q5
         rw [if_pos q5] at hans; subst hans
         refine aA rfl ?_
         refine aC (Γ := bC [(43, .heap (rdH eN))]) [2, 3] (aH fL aO) rfl rfl rfl (fun K hK => ?_)
         simp (disch := omega) only [Tryz.f48, go_sem, Nat.reduceAdd, Nat.reduceLeDiff, Nat.reduceLT, Int.reduceLE, Int.reduceToNat, ↓reduceIte, Int.toNat_natCast, n4, n5]
         refine hK _ ?_
         refine aB ?_
         unfold soaA
         refine aA rfl ?_
         refine aC (Γ := aL) [2] (aD _ _) rfl rfl rfl (fun K hK => ?_)
         simp (disch := omega) only [Tryz.f48, go_sem, Nat.reduceAdd, Nat.reduceLeDiff, ↓reduceIte]
         refine hK _ ?_
         refine aB ?_
         refine aS rfl ?_
         refine ⟨by simp (disch := omega) only [bV, bK, bQ, Tryz.f48, go_sem, aV, eq_self, Nat.reduceAdd, Nat.reduceLeDiff, ↓reduceIte], by simp (disch := omega) only [aV, bY, ↓reduceIte, eq_self], ?_, ?_⟩
         ·simp only [ids_a7, ids_slS]; rfl
         ·exact eD _ _ _
        ·skip
         rw [if_neg (by omega)] at hans; subst hans
         refine aA rfl ?_
         refine bH (Γ := bC [(43, .heap (rdH eN))]) 3 (dK) eI (aH fL aO) rfl rfl rfl (fun Z hZ => ?_)
         simp (disch := omega) only [Tryz.f48, go_sem, Nat.reduceAdd, Int.reduceLE, Int.reduceToNat, ↓reduceIte, bG, eq_self, true_and, bP, List.map_cons, List.map_nil, List.append_nil, Int.toNat_natCast, n4, num4_n q5 (by omega), List.take_succ_cons, List.take_zero]
         refine hZ _ ?_; clear hZ Z
         exact rfl
       ·skip
        rw [if_neg (by omega)] at hans; subst hans
        refine aA rfl ?_
        refine bH (Γ := bC [(43, .heap (rdH eN))]) 1 (dK) eI (aH fL aO) rfl rfl rfl (fun Z hZ => ?_)
        simp (disch := omega) only [Tryz.f48, go_sem, Nat.reduceAdd, Int.reduceLE, Int.reduceToNat, ↓reduceIte, bG, eq_self, true_and, bP, List.map_cons, List.map_nil, List.append_nil, Int.toNat_natCast, num4_n q4 (by omega), List.take_succ_cons, List.take_zero]
        refine hZ _ ?_; clear hZ Z
        exact rfl
      ·skip
       rw [if_neg (by omega)] at hans; subst hans
       refine aA rfl ?_
       refine bH (Γ := bC [(43, .heap (rdH eN))]) 5 (dK) eI (aH fL aO) rfl rfl rfl (fun Z hZ => ?_)
       simp (disch := omega) only [Tryz.f48, go_sem, Nat.reduceAdd, Int.reduceLE, Int.reduceToNat, ↓reduceIte, bG, eq_self, true_and, bP, List.map_cons, List.map_nil, List.append_nil, Int.toNat_natCast, n1, n2, num4_n q3 (by omega), List.take_succ_cons, List.take_zero]
       refine hZ _ ?_; clear hZ Z
       exact rfl
     ·skip
      rw [if_neg (by omega)] at hans; subst hans
      refine aA rfl ?_
      refine bH (Γ := bC [(43, .heap (rdH eN))]) 3 (dK) eI (aH fL aO) rfl rfl rfl (fun Z hZ => ?_)
      simp (disch := omega) only [Tryz.f48, go_sem, Nat.reduceAdd, Int.reduceLE, Int.reduceToNat, ↓reduceIte, bG, eq_self, true_and, bP, List.map_cons, List.map_nil, List.append_nil, Int.toNat_natCast, n1, num4_n q2 (by omega), List.take_succ_cons, List.take_zero]
      refine hZ _ ?_; clear hZ Z
      exact rfl
    ·skip
     rw [if_neg (by omega)] at hans; subst hans
     refine aA rfl ?_
     refine bH (Γ := bC [(43, .heap (rdH eN))]) 1 (dK) eI (aH fL aO) rfl rfl rfl (fun Z hZ => ?_)
     simp (disch := omega) only [Tryz.f48, go_sem, Nat.reduceAdd, Int.reduceLE, Int.reduceToNat, ↓reduceIte, bG, eq_self, true_and, bP, List.map_cons, List.map_nil, List.append_nil, Int.toNat_natCast, num4_n q1 (by omega), List.take_succ_cons, List.take_zero]
     refine hZ _ ?_; clear hZ Z
     exact rfl
 ·cases hg
theorem soa1_pan : dE Tryz.prog GLh 48 chM (rdP soa1G) := soa1_both.2
theorem call48 : cJ Tryz.prog 48 := ⟨_, Tryz.func48, rfl, rfl⟩
theorem ok48 : bX Tryz.prog GLh 48 (.heap (rdH soa1G)) := ⟨⟨_, Tryz.func48, rfl, rfl⟩, soa1_both.1⟩
theorem idle72 (vals : Array Value) (w : World) (hs : vals.size = 2) : CallsD Tryz.prog 66 vals .returning w fun e u1 w' => e = .returned (.tuple #[]) ∧ u1 = .returning ∧ w' = w := by
 obtain ⟨l⟩ := vals
 match l, hs with
 | [a, b], _ =>
  refine callsD_of_wpS Tryz.func66 rfl fun c₀ cs hu => ?_
  apply wpS_seq
  apply wpS_region
  simp [wpOpsS, go_sem, recoverD, hu, Tryz.ntmps66, Exit.thenS]
  apply wpS_seq
  apply wpS_region
  simp [wpOpsS, go_sem, Exit.thenS]
  refine wpS_cond (t := false) (by simp [Act.eval, Array.replicate]) ?_
  simp only [Bool.false_eq_true, if_false]
  refine wpS_of_wp (wp_skip ?_)
  cases c₀
  simp_all [bodyPostS, results, Tryz.results66]
theorem c72_i : DefOK Tryz.prog GLh 66 .returning .returning (fD 2) := d_idle idle72
theorem call72 : cJ Tryz.prog 66 := ⟨_, Tryz.func66, rfl, rfl⟩
def c72P : List AV → H → Nat → Option (H × Nat)
 | [.op i1 0, .op i2 0], hp, nx => aN ((is7 (hp i1) = true ∧ eS (hp i2) = true) ∧ i1 ≠ i2 ∧ i1 < nx ∧ i2 < nx) (some (upd (upd hp i1 (.cells [.v (.slice none 0 0), .v (.slice none 0 0), .w32 0#32, .w32 0#32, .w32 0#32, .w32 0#32, .w32 0#32] true)) i2 (.cells [.i 50] true), nx + 30))
 | _, _, _ => none
theorem c72P_eq (i1 i2 nx : Nat) (hp : H) : c72P [.op i1 0, .op i2 0] hp nx = aN ((is7 (hp i1) = true ∧ eS (hp i2) = true) ∧ i1 ≠ i2 ∧ i1 < nx ∧ i2 < nx) (some (upd (upd hp i1 (.cells [.v (.slice none 0 0), .v (.slice none 0 0), .w32 0#32, .w32 0#32, .w32 0#32, .w32 0#32, .w32 0#32] true)) i2 (.cells [.i 50] true), nx + 30)) := (rfl)
attribute [go_sem] c72P_eq
set_option maxHeartbeats 4000000 in
theorem c72_pan : DefOK Tryz.prog GLh 66 (.panicking chM) (.panicking [{ v := .iface 100 (.agg #[]), recovered := true }]) c72P := by
 refine fZ (rest := (cr (aE Tryz.f66))) (rv := .iface 100 (.agg #[])) (a := 6) (b := 2) Tryz.func66 rfl (.inl rfl) ⟨Nat.le_of_ble_eq_true rfl, Nat.le_of_ble_eq_true rfl⟩ ?_
 intro args hp nx hp' nx' hg
 unfold c72P at hg
 split at hg
 ·rename_i i1 i2
  replace hg := aP hg; obtain ⟨⟨⟨o1, o2⟩, n12, l1, l2⟩, hg⟩ := hg
  simp only [Option.some.injEq, Prod.mk.injEq] at hg; obtain ⟨rfl, rfl⟩ := hg
  obtain ⟨x0, x1, x2, x3, x4, x5, x6, h1⟩ := is7_inv o1
  obtain ⟨y, h2⟩ := eG o2
  refine ⟨Nat.le_of_ble_eq_true rfl, Nat.le_add_right _ _, fun hno => ?_⟩
  simp only [frOf]
  refine aA rfl ?_
  refine aC (Γ := aL) [8, 0, 1, 2] (aD _ _) rfl rfl rfl (fun K hK => ?_)
  simp (disch := omega) only [Tryz.f66, go_sem, Nat.reduceAdd, ↓reduceIte]
  refine hK _ ?_
  refine aB ?_
  refine bA (.tmp 8) rfl rfl rfl (fun h => ?_) (fun h => ?_)
  ·skip
   refine aI rfl ?_
   refine aA rfl ?_
   refine aA rfl ?_
   refine aC (Γ := aL) [0, 1, 2, 4] (aD _ _) rfl rfl rfl (fun K hK => ?_)
   simp (disch := omega) only [Tryz.f66, go_sem, Nat.reduceAdd, Nat.reduceLeDiff, ↓reduceIte]
   refine hK _ ?_
   refine aB ?_
   refine aA rfl ?_
   refine aC (Γ := aL) [15, 0, 1, 2] (aD _ _) rfl rfl rfl (fun K hK => ?_)
   simp (disch := omega) only [Tryz.f66, go_sem, Nat.reduceAdd, ↓reduceIte]
   refine hK _ ?_
   refine aB ?_
   refine bA (.tmp 15) rfl rfl rfl (fun h => ?_) (fun h => ?_)
   ·skip
    refine aI rfl ?_
    cases h
   ·skip
    refine aI rfl ?_
    clear h
    refine aQ rfl ?_
    refine aB ?_
    refine aA rfl ?_
    refine aC (Γ := aL) [0, 1, 5] (aD _ _) rfl rfl rfl (fun K hK => ?_)
    simp (disch := omega) only [Tryz.f66, go_sem, ↓reduceIte]
    refine hK _ ?_
    refine aB ?_
    refine aC (Γ := aL) [] (aD _ _) rfl rfl rfl (fun K hK => ?_)
    simp (disch := omega) only [Tryz.f66, go_sem, Nat.reduceAdd, Nat.reduceLeDiff, ↓reduceIte, h1, h2]
    refine hK _ ?_
    exact ⟨rfl, upd2b_sub hno (by omega) (by omega), by simp only; omega⟩
  ·skip
   refine aI rfl ?_
   cases h
 ·cases hg
def rdsoaG : List AV → Option AV
 | [.sl n xs, .fn 48 []] => aK (cI xs) fun l => aN (l.length = n ∧ n ≤ 100000) (some (rdT (.agg [.sl 0 [], .sl 0 [], .w32 0#32, .w32 0#32, .w32 0#32, .w32 0#32, .w32 0#32]) l.length (eX l)))
 | _ => none
theorem rdsoaG_eq (n : Nat) (xs : List AV) : rdsoaG [.sl n xs, .fn 48 []] = aK (cI xs) fun l => aN (l.length = n ∧ n ≤ 100000) (some (rdT (.agg [.sl 0 [], .sl 0 [], .w32 0#32, .w32 0#32, .w32 0#32, .w32 0#32, .w32 0#32]) l.length (eX l))) := (rfl)
attribute [go_sem] rdsoaG_eq
set_option maxHeartbeats 4000000 in
theorem rdsoa_ok : cL Tryz.prog GLh 47 rdsoaG := by
 refine pure_def (r0 := (cl (aE Tryz.f47))) (C := (cr (cr (aE Tryz.f47)))) (k := 7) (d := 66) (caps := #[.tmp 4, .tmp 5]) Tryz.func47 rfl (Nat.le_of_ble_eq_true rfl) call72 c72_i c72_pan rfl ?_
 intro args r hg
 unfold rdsoaG at hg
 split at hg
 ·rename_i n xs
  replace hg := aJ hg; obtain ⟨l, hl, hg⟩ := hg
  replace hg := aP hg; obtain ⟨⟨rfl, hnb⟩, hg⟩ := hg
  obtain rfl := Option.some.inj hg
  have := bW hl; subst this
  refine ⟨Nat.le_of_ble_eq_true rfl, fun nx => ⟨[.op nx 0, .op (nx + 1) 0], ?_⟩⟩
  clear hl hg
  have hcs := rdsoa_cases l
  refine aC (Γ := aL) [0, 1, 4, 5] (aD _ _) rfl rfl rfl (fun K hK => ?_)
  simp (disch := omega) only [Tryz.f47, go_sem, Nat.reduceAdd, ↓reduceIte]
  refine hK _ ?_
  refine ⟨rfl, ?_⟩
  simp only [defS]
  refine aA rfl ?_
  refine aC (Γ := aL) [0, 1, 4, 5, 6] (aD _ _) rfl rfl rfl (fun K hK => ?_)
  simp (disch := omega) only [Tryz.f47, go_sem, Nat.reduceAdd, Nat.reduceLeDiff, ↓reduceIte]
  refine hK _ ?_
  refine aB ?_
  rcases hcs with e2 | ⟨v1, v2, v3, v4, v5, v6, v7, p, e2⟩
  ·skip
   refine aA rfl ?_
   refine bH (Γ := aL) 2 (soa1_pan) call48 (aD _ _) rfl rfl rfl (fun Z hZ => ?_)
   simp (disch := omega) only [Tryz.f47, go_sem, Nat.reduceAdd, ↓reduceIte, bG, eq_self, true_and, bP, List.map_cons, List.map_nil, List.append_nil, e2, List.take_succ_cons, List.take_zero]
   refine hZ _ ?_; clear hZ Z
   refine hX (gI := fD 2) (p := _) (by simp (disch := omega) only [go_sem, aV, de_app, bY, ↓reduceIte]; rfl) ?_
   rw [e2, rdT_n]
   simp (disch := omega) only [bV, bK, bQ, Tryz.f47, go_sem, aV, bY, ↓reduceIte]
  ·skip
   refine aA rfl ?_
   refine aC (Γ := bC [(48, .heap (rdH soa1G))]) [0, 4, 5, 6] (aH ok48 aO) rfl rfl rfl (fun K hK => ?_)
   simp (disch := omega) only [Tryz.f47, go_sem, Nat.reduceAdd, Nat.reduceLeDiff, ↓reduceIte, e2]
   refine hK _ ?_
   refine aB ?_
   by_cases hp : (p : Int) = (l.length : Int)
   ·skip
    have hd : decide ((p : Int) = (l.length : Int)) = true := decide_eq_true hp
    refine aA rfl ?_
    refine aC (Γ := bC [(56, .pure true eM)]) [4, 5] (aH ok60 aO) rfl rfl rfl (fun K hK => ?_)
    simp (disch := omega) only [Tryz.f47, go_sem, Nat.reduceAdd, Nat.reduceLT, ↓reduceIte, hd]
    refine hK _ ?_
    refine aB ?_
    refine aA rfl ?_
    refine aC (Γ := aL) [4, 5] (aD _ _) rfl rfl rfl (fun K hK => ?_)
    simp (disch := omega) only [Tryz.f47, go_sem, Nat.reduceAdd, Nat.reduceLeDiff, ↓reduceIte]
    refine hK _ ?_
    refine aB ?_
    refine aS rfl ?_
    refine defQ_ret (gP := c72P) (ch := chM) (p := _) (idleG_2 _ _ _ _) ?_
    rw [e2, fO _ _ _ hp]
    simp (disch := omega) only [bV, bK, bQ, Tryz.f47, go_sem, aV, bY, ↓reduceIte]
   ·skip
    have hd : decide ((p : Int) = (l.length : Int)) = false := decide_eq_false hp
    refine aA rfl ?_
    refine bH (Γ := bC [(56, .pure true eM)]) 7 (fC) call60 (aH ok60 aO) rfl rfl rfl (fun Z hZ => ?_)
    simp (disch := omega) only [Tryz.f47, go_sem, Nat.reduceAdd, Nat.reduceLT, ↓reduceIte, bG, eq_self, true_and, bP, List.map_cons, List.map_nil, List.append_nil, hd, List.take_succ_cons, List.take_zero]
    refine hZ _ ?_; clear hZ Z
    refine hX (gI := fD 2) (p := _) (by simp (disch := omega) only [go_sem, aV, bY, ↓reduceIte]; rfl) ?_
    rw [e2, iD _ _ _ hp]
    simp (disch := omega) only [bV, bK, bQ, Tryz.f47, go_sem, aV, bY, ↓reduceIte]
 ·cases hg
theorem ids_rdsoa (l : List B8) : AV.ids (rdT (.agg [.sl 0 [], .sl 0 [], .w32 0#32, .w32 0#32, .w32 0#32, .w32 0#32, .w32 0#32]) l.length (eX l)) = 0 := by
 rcases rdsoa_cases l with e2 | ⟨v1, v2, v3, v4, v5, v6, v7, p, e2⟩
 ·rw [e2]; rfl
 ·rw [e2]
  by_cases hp : (p : Int) = (l.length : Int)
  ·rw [fO _ _ _ hp]; simp only [ids_a7, ids_t2, ids_slS]; rfl
  ·rw [iD _ _ _ hp]; rfl
theorem ok47 : bX Tryz.prog GLh 47 (.pure false rdsoaG) := ⟨⟨_, Tryz.func47, rfl, rfl⟩, rdsoa_ok⟩
end Go.AX
namespace Go.AX
open Go Go.Proofs
theorem fz_fn (hp : H) (f : FuncId) (l : List AV) : dW hp (.fn f l) = some (.fn f l, hp) := (rfl)
attribute [go_sem] fz_fn
def rdE (len : Nat) : Option (AV × List AV) → Int
 | some (_, [_, .i p]) => if p = (len : Int) then 0 else 50
 | _ => 50
theorem rdE_n (len : Nat) : rdE len none = 50 := rfl
theorem rdE_y {p : Int} {len : Nat} (v s : AV) (h : p = (len : Int)) : rdE len (some (v, [s, .i p])) = 0 := if_pos h
theorem rdE_x {p : Int} {len : Nat} (v s : AV) (h : ¬ p = (len : Int)) : rdE len (some (v, [s, .i p])) = 50 := if_neg h
theorem rdT_int (t : BitVec 16) (l : List B8) : rdT (.i 0) l.length (chk1R l (shp t l)) = .tup [.i 0, .i (rdE l.length (chk1R l (shp t l)))] := by
 rcases rdint_cases t l with e | ⟨p, e⟩
 ·rw [e]; rfl
 ·rw [e]
  by_cases hp : (p : Int) = (l.length : Int)
  ·rw [fO _ _ _ hp, rdE_y _ _ hp]
  ·rw [iD _ _ _ hp, rdE_x _ _ hp]
theorem rdT_nam (t : BitVec 16) (l : List B8) : ∃ v : Nm, rdT (.sl 0 []) l.length (tgtR t l) = .tup [.sl v.length (cS v), .i (rdE l.length (tgtR t l))] := by
 rcases rdnam_cases t l with e | ⟨v, p, e⟩
 ·exact ⟨[], by rw [e]; rfl⟩
 ·rw [e]
  by_cases hp : (p : Int) = (l.length : Int)
  ·exact ⟨v, by rw [fO _ _ _ hp, rdE_y _ _ hp]⟩
  ·exact ⟨[], by rw [iD _ _ _ hp, rdE_x _ _ hp]; rfl⟩
theorem rdT_key (l : List B8) : ∃ (v1 : BitVec 16) (v2 v3 : B8) (v4 : List B8), rdT (.agg [.w16 0#16, .w8 0#8, .w8 0#8, .sl 0 []]) l.length (gE l) = .tup [.agg [.w16 v1, .w8 v2, .w8 v3, .sl v4.length (c8 v4)], .i (rdE l.length (gE l))] := by
 rcases rdkey_cases l with e | ⟨v1, v2, v3, v4, p, e⟩
 ·exact ⟨0, 0, 0, [], by rw [e]; rfl⟩
 ·rw [e]
  by_cases hp : (p : Int) = (l.length : Int)
  ·exact ⟨v1, v2, v3, v4, by rw [fO _ _ _ hp, rdE_y _ _ hp]⟩
  ·exact ⟨0, 0, 0, [], by rw [iD _ _ _ hp, rdE_x _ _ hp]; rfl⟩
theorem rdT_soa (l : List B8) : ∃ (v1 v2 : Nm) (v3 v4 v5 v6 v7 : BitVec 32), rdT (.agg [.sl 0 [], .sl 0 [], .w32 0#32, .w32 0#32, .w32 0#32, .w32 0#32, .w32 0#32]) l.length (eX l) = .tup [.agg [.sl v1.length (cS v1), .sl v2.length (cS v2), .w32 v3, .w32 v4, .w32 v5, .w32 v6, .w32 v7], .i (rdE l.length (eX l))] := by
 rcases rdsoa_cases l with e | ⟨v1, v2, v3, v4, v5, v6, v7, p, e⟩
 ·exact ⟨[], [], 0, 0, 0, 0, 0, by rw [e]; rfl⟩
 ·rw [e]
  by_cases hp : (p : Int) = (l.length : Int)
  ·exact ⟨v1, v2, v3, v4, v5, v6, v7, by rw [fO _ _ _ hp, rdE_y _ _ hp]⟩
  ·exact ⟨[], [], 0, 0, 0, 0, 0, by rw [iD _ _ _ hp, rdE_x _ _ hp]; rfl⟩
def keyT (l : List B8) : AV := rdT (.agg [.w16 0#16, .w8 0#8, .w8 0#8, .sl 0 []]) l.length (gE l)
def soaT (l : List B8) : AV := rdT (.agg [.sl 0 [], .sl 0 [], .w32 0#32, .w32 0#32, .w32 0#32, .w32 0#32, .w32 0#32]) l.length (eX l)
def keyG : List AV → Option AV
 | [.sl n xs] => aK (cI xs) fun l => aN (l.length = n ∧ n ≤ 100000) (some (keyT l))
 | _ => none
theorem keyG_eq (n : Nat) (xs : List AV) : keyG [.sl n xs] = aK (cI xs) fun l => aN (l.length = n ∧ n ≤ 100000) (some (keyT l)) := (rfl)
def soaG : List AV → Option AV
 | [.sl n xs] => aK (cI xs) fun l => aN (l.length = n ∧ n ≤ 100000) (some (soaT l))
 | _ => none
theorem soaG_eq (n : Nat) (xs : List AV) : soaG [.sl n xs] = aK (cI xs) fun l => aN (l.length = n ∧ n ≤ 100000) (some (soaT l)) := (rfl)
attribute [go_sem] keyG_eq soaG_eq
set_option maxHeartbeats 4000000 in
theorem key_ok : cL Tryz.prog GLh 13 keyG := by
 refine cC Tryz.func13 (aT rfl) ?_
 intro args r hg
 unfold keyG at hg
 split at hg
 ·rename_i n xs
  replace hg := aJ hg; obtain ⟨l, hl, hg⟩ := hg
  replace hg := aP hg; obtain ⟨⟨rfl, hn⟩, hg⟩ := hg
  obtain rfl := Option.some.inj hg
  have := bW hl; subst this
  refine ⟨Nat.le_of_ble_eq_true rfl, fun nx => ?_⟩
  clear hl hg
  obtain ⟨v1, v2, v3, v4, hv⟩ := rdT_key l
  unfold keyT
  obtain ⟨e, he⟩ : ∃ e, rdE l.length (gE l) = e := ⟨_, rfl⟩
  rw [he] at hv
  rw [hv]
  refine aA rfl ?_
  refine aC (Γ := aL) [0, 2] (aD _ _) rfl rfl rfl (fun K hK => ?_)
  simp (disch := omega) only [Tryz.f13, go_sem, Nat.reduceAdd, ↓reduceIte]
  refine hK _ ?_
  refine aB ?_
  refine aA rfl ?_
  refine aC (Γ := bC [(41, .pure false rdkeyG), (42, .heap (rdH key1G))]) [2, 3] (aH ok65 (aH ok66 aO)) rfl rfl rfl (fun K hK => ?_)
  simp (disch := omega) only [Tryz.f13, go_sem, Nat.reduceAdd, Nat.reduceLeDiff, ↓reduceIte, hv]
  refine hK _ ?_
  refine aB ?_
  refine aS rfl ?_
  simp (disch := omega) only [cN, bV, bK, bQ, Tryz.f13, go_sem, Nat.reduceAdd, Nat.reduceLeDiff, ↓reduceIte]
 ·cases hg
theorem ok31 : bX Tryz.prog GLh 13 (.pure false keyG) := ⟨⟨_, Tryz.func13, rfl, rfl⟩, key_ok⟩
set_option maxHeartbeats 4000000 in
theorem soa_ok : cL Tryz.prog GLh 19 soaG := by
 refine cC Tryz.func19 (aT rfl) ?_
 intro args r hg
 unfold soaG at hg
 split at hg
 ·rename_i n xs
  replace hg := aJ hg; obtain ⟨l, hl, hg⟩ := hg
  replace hg := aP hg; obtain ⟨⟨rfl, hn⟩, hg⟩ := hg
  obtain rfl := Option.some.inj hg
  have := bW hl; subst this
  refine ⟨Nat.le_of_ble_eq_true rfl, fun nx => ?_⟩
  clear hl hg
  obtain ⟨v1, v2, v3, v4, v5, v6, v7, hv⟩ := rdT_soa l
  unfold soaT
  obtain ⟨e, he⟩ : ∃ e, rdE l.length (eX l) = e := ⟨_, rfl⟩
  rw [he] at hv
  rw [hv]
  refine aA rfl ?_
  refine aC (Γ := aL) [0, 2] (aD _ _) rfl rfl rfl (fun K hK => ?_)
  simp (disch := omega) only [Tryz.f19, go_sem, Nat.reduceAdd, ↓reduceIte]
  refine hK _ ?_
  refine aB ?_
  refine aA rfl ?_
  refine aC (Γ := bC [(47, .pure false rdsoaG), (48, .heap (rdH soa1G))]) [2, 3] (aH ok47 (aH ok48 aO)) rfl rfl rfl (fun K hK => ?_)
  simp (disch := omega) only [Tryz.f19, go_sem, Nat.reduceAdd, Nat.reduceLeDiff, ↓reduceIte, hv]
  refine hK _ ?_
  refine aB ?_
  refine aS rfl ?_
  simp (disch := omega) only [cN, bV, bK, bQ, Tryz.f19, go_sem, Nat.reduceAdd, Nat.reduceLeDiff, ↓reduceIte]
 ·cases hg
theorem ok18 : bX Tryz.prog GLh 19 (.pure false soaG) := ⟨⟨_, Tryz.func19, rfl, rfl⟩, soa_ok⟩
theorem ids_tSI (v : Nm) (e : Int) : AV.ids (.tup [.sl v.length (cS v), .i e]) = 0 := by rw [ids_t2, ids_slS]; rfl
theorem ids_tII (a e : Int) : AV.ids (.tup [.i a, .i e]) = 0 := (rfl)
attribute [go_sem] ids_tSI ids_tII
def tgT (t : BitVec 16) : Prop := t = 2#16 ∨ t = 5#16 ∨ t = 15#16
instance (t : BitVec 16) : Decidable (tgT t) := by unfold tgT; infer_instance
def tgtT (t : BitVec 16) (l : List B8) : AV := if tgT t then rdT (.sl 0 []) l.length (tgtR t l) else .tup [.sl 0 [], .i 50]
def tgG : List AV → Option AV
 | [.w16 t, .sl n xs] => aK (cI xs) fun l => aN (l.length = n ∧ n ≤ 100000) (some (tgtT t l))
 | _ => none
theorem tgG_eq (t : BitVec 16) (n : Nat) (xs : List AV) : tgG [.w16 t, .sl n xs] = aK (cI xs) fun l => aN (l.length = n ∧ n ≤ 100000) (some (tgtT t l)) := (rfl)
attribute [go_sem] tgG_eq
set_option maxHeartbeats 4000000 in
theorem tg_ok : cL Tryz.prog GLh 7 tgG := by
 refine cC Tryz.func7 (aT rfl) ?_
 intro args r hg
 unfold tgG at hg
 split at hg
 ·rename_i t n xs
  replace hg := aJ hg; obtain ⟨l, hl, hg⟩ := hg
  replace hg := aP hg; obtain ⟨⟨rfl, hn⟩, hg⟩ := hg
  obtain rfl := Option.some.inj hg
  have := bW hl; subst this
  refine ⟨Nat.le_of_ble_eq_true rfl, fun nx => ?_⟩
  clear hl hg
  obtain ⟨v, hv⟩ := rdT_nam t l
  obtain ⟨e, he⟩ : ∃ e, rdE l.length (tgtR t l) = e := ⟨_, rfl⟩
  rw [he] at hv
  unfold tgtT
  refine aA rfl ?_
  refine aC (Γ := aL) [1, 2] (aD _ _) rfl rfl rfl (fun K hK => ?_)
  simp (disch := omega) only [Tryz.f7, go_sem, Nat.reduceAdd, ↓reduceIte]
  refine hK _ ?_
  refine aB ?_
  refine aA rfl ?_
  refine aA rfl ?_
  refine aC (Γ := aL) [1, 2, 6] (aD _ _) rfl rfl rfl (fun K hK => ?_)
  simp (disch := omega) only [Tryz.f7, go_sem, ↓reduceIte]
  refine hK _ ?_
  refine aB ?_
  refine aR 0 rfl rfl ?_
  refine aA rfl ?_
  refine aA rfl ?_
  refine aC (Γ := aL) [1, 2, 6, 7] (aD _ _) rfl rfl rfl (fun K hK => ?_)
  simp (disch := omega) only [Tryz.f7, go_sem, Nat.reduceAdd, Int.reduceLE, Int.reduceLT, BitVec.reduceOfInt, ↓reduceIte]
  refine hK _ ?_
  refine aB ?_
  refine aW (.tmp 7) rfl rfl rfl (fun h => ?_) (fun h => ?_)
  ·skip
   have h2 := h
   rw [if_pos (.inl h), hv]
   refine aQ rfl ?_
   refine aB ?_
   refine aW (.tmp 7) rfl rfl rfl (fun h => ?_) (fun h => ?_)
   ·skip
    refine aA rfl ?_
    refine aC (Γ := bC [(31, .heap (rdH tgtG)), (30, .heap (capG2 31 rdnamG))]) [4, 5] (aH ok44 (aH ok43 aO)) rfl rfl rfl (fun K hK => ?_)
    simp (disch := omega) only [Tryz.f7, go_sem, Nat.reduceAdd, ↓reduceIte, hv]
    refine hK _ ?_
    refine aB ?_
    refine aS rfl ?_
    refine bN (bI ?_)
    simp (disch := omega) only [cN, bV, bK, bQ, Tryz.f7, go_sem, ↓reduceIte]
   ·skip
    exact absurd h2 h
  ·skip
   have h2 := h
   refine aA rfl ?_
   refine aC (Γ := aL) [1, 2, 6, 7] (aD _ _) rfl rfl rfl (fun K hK => ?_)
   simp (disch := omega) only [Tryz.f7, go_sem, Nat.reduceAdd, Int.reduceLE, Int.reduceLT, BitVec.reduceOfInt, ↓reduceIte]
   refine hK _ ?_
   refine aB ?_
   refine aW (.tmp 7) rfl rfl rfl (fun h => ?_) (fun h => ?_)
   ·skip
    have h5 := h
    rw [if_pos (.inr (.inl h)), hv]
    refine aQ rfl ?_
    refine aB ?_
    refine aW (.tmp 7) rfl rfl rfl (fun h => ?_) (fun h => ?_)
    ·skip
     refine aA rfl ?_
     refine aC (Γ := bC [(31, .heap (rdH tgtG)), (30, .heap (capG2 31 rdnamG))]) [4, 5] (aH ok44 (aH ok43 aO)) rfl rfl rfl (fun K hK => ?_)
     simp (disch := omega) only [Tryz.f7, go_sem, Nat.reduceAdd, ↓reduceIte, hv]
     refine hK _ ?_
     refine aB ?_
     refine aS rfl ?_
     refine bN (bI ?_)
     simp (disch := omega) only [cN, bV, bK, bQ, Tryz.f7, go_sem, ↓reduceIte]
    ·skip
     exact absurd h5 h
   ·skip
    have h5 := h
    refine aC (Γ := aL) [7, 1, 2] (aD _ _) rfl rfl rfl (fun K hK => ?_)
    simp (disch := omega) only [Tryz.f7, go_sem, Nat.reduceAdd, Int.reduceLE, Int.reduceLT, BitVec.reduceOfInt, ↓reduceIte]
    refine hK _ ?_
    refine aB ?_
    refine aW (.tmp 7) rfl rfl rfl (fun h => ?_) (fun h => ?_)
    ·skip
     refine aI rfl ?_
     rw [if_pos (.inr (.inr h)), hv]
     refine aA rfl ?_
     refine aC (Γ := bC [(31, .heap (rdH tgtG)), (30, .heap (capG2 31 rdnamG))]) [4, 5] (aH ok44 (aH ok43 aO)) rfl rfl rfl (fun K hK => ?_)
     simp (disch := omega) only [Tryz.f7, go_sem, Nat.reduceAdd, ↓reduceIte, hv]
     refine hK _ ?_
     refine aB ?_
     refine aS rfl ?_
     refine bN (bI ?_)
     simp (disch := omega) only [cN, bV, bK, bQ, Tryz.f7, go_sem, ↓reduceIte]
    ·skip
     refine aI rfl ?_
     rw [if_neg (fun q => q.elim h2 fun q => q.elim h5 h)]
     refine aQ rfl ?_
     refine bU (aB ?_)
     refine aA rfl ?_
     refine aC (Γ := aL) [4, 5] (aD _ _) rfl rfl rfl (fun K hK => ?_)
     simp (disch := omega) only [Tryz.f7, go_sem, Nat.reduceAdd, ↓reduceIte]
     refine hK _ ?_
     refine aB ?_
     refine aS rfl ?_
     simp (disch := omega) only [cN, bV, bK, bQ, Tryz.f7, go_sem, ↓reduceIte]
 ·cases hg
theorem ok17 : bX Tryz.prog GLh 7 (.pure false tgG) := ⟨⟨_, Tryz.func7, rfl, rfl⟩, tg_ok⟩
end Go.AX
namespace Go.AX
open Go Go.Proofs
def chkE (t : BitVec 16) (l : List B8) : Int := if 8192 < l.length then 50 else if t = 6#16 then rdE l.length (eX l) else if t = 48#16 then rdE l.length (gE l) else rdE l.length (chk1R l (shp t l))
def chkDG : List AV → Option AV
 | [.w16 t, .sl n xs] => aK (cI xs) fun l => aN (l.length = n ∧ n ≤ 100000 ∧ ¬ t = 46#16 ∧ ¬ t = 50#16) (some (.i (chkE t l)))
 | _ => none
theorem chkDG_eq (t : BitVec 16) (n : Nat) (xs : List AV) : chkDG [.w16 t, .sl n xs] = aK (cI xs) fun l => aN (l.length = n ∧ n ≤ 100000 ∧ ¬ t = 46#16 ∧ ¬ t = 50#16) (some (.i (chkE t l))) := (rfl)
attribute [go_sem] chkDG_eq
end Go.AX
