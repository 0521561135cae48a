/-
  Data, part H: a name read, or what is wrong with it. Data, part I: a name read, its ends caught. Data, part J: name.Open, and a reader's name. Data, part K: a name taken off a reader. Data, part L: texts taken off a reader. Data, part M: the shape of data that is asked nothing more. Data, part N: what reads whole data, of the kinds that have no sort.
-/
import Derived.Test.YtndohkbppgmbjaaGreatBF
import Derived.Test.YtndohkbppgmbjaaGreatBE
namespace Go.AX
open Go Go.Proofs
theorem d_idle {f : FuncId} {n : Nat} (h : ∀ (vals : Array Value) (w : World), vals.size = n → CallsD Tryz.prog f vals .returning w fun e u1 w' => e = .returned (.tuple #[]) ∧ u1 = .returning ∧ w' = w) : DefOK Tryz.prog GLh f .returning .returning (fun args hp nx => aN (args.length = n) (some (hp, nx))) := by
 intro c σ I w hp nx args vals hp' nx' _ hi hs hr hg
 replace hg := aP hg; obtain ⟨hn, hg⟩ := hg
 simp only [Option.some.injEq, Prod.mk.injEq] at hg; obtain ⟨rfl, rfl⟩ := hg
 refine ⟨Nat.le_refl _, fun c₀ cs hm => ?_⟩
 obtain ⟨e, u1, w', fr, ⟨rfl, rfl, rfl⟩, hst⟩ := h vals w (by rw [hs, hn]) c₀ cs hm
 exact ⟨_, _, _, fr, ⟨_, σ, I, rfl, rfl, hi, Grow.refl _ _ _, fun _ _ h => h⟩, hst⟩
theorem run_nif {t : TypeId} {n : Array (String × TypeId)} (hu : Tryz.prog.underlying t = some (.interface n)) (w : World) : (binOp .neq t .nilIface .nilIface).run Tryz.prog w = .ok (.bool false) w := by
 have k : (Op.equal t .nilIface .nilIface).run Tryz.prog w = .ok true w := by
  show (Op.equalIn (9999 + 1) t _ _).run Tryz.prog w = _
  rw [Op.equalIn, Sem.run_bind, run_underlying hu]; rfl
 simp only [binOp, Sem.run_bind, k, Result.andThen_ok, Sem.run_pure]; rfl
set_option maxRecDepth 100000 in
theorem c85_idle (vals : Array Value) (w : World) (hs : vals.size = 3) : CallsD Tryz.prog 76 vals .returning w fun e u1 w' => e = .returned (.tuple #[]) ∧ u1 = .returning ∧ w' = w := by
 obtain ⟨l⟩ := vals
 match l, hs with
 | [a, b, c], _ =>
  refine callsD_of_wpS Tryz.func76 rfl fun c₀ cs hu => ?_
  apply wpS_seq
  apply wpS_region
  simp [wpOpsS, go_sem, recoverD, hu, Tryz.ntmps76, Exit.thenS]
  apply wpS_seq
  apply wpS_region
  simp [wpOpsS, go_sem, Exit.thenS]
  refine wpS_cond (t := false) (by simp [Act.eval, Array.replicate]) ?_
  simp only [Bool.false_eq_true, if_false]
  refine wpS_of_wp (wp_skip ?_)
  cases c₀
  simp_all [bodyPostS, results, Tryz.results76]
theorem st1_0 (x z : AV) : [x].set 0 z = [z] := (rfl)
theorem cellsV_nil : dC (.v (.slice none 0 0)) = some [.v (.slice none 0 0)] := (rfl)
attribute [go_sem] st1_0 cellsV_nil
def eS : Option AO → Bool
 | some (.cells [_] true) => true
 | _ => false
theorem eG {o : Option AO} (h : eS o = true) : ∃ x, o = some (.cells [x] true) := by
 unfold eS at h
 split at h
 ·exact ⟨_, rfl⟩
 ·cases h
theorem isOne_c (x : AV) : eS (some (.cells [x] true)) = true := (rfl)
attribute [go_sem] isOne_c
theorem upd3_sub {hp : H} {nx m i1 i2 i3 : Nat} {a c1 c2 c3 : AO} (hno : ∀ id, nx ≤ id → hp id = none) (hm : nx ≤ m) (id : Nat) (o : AO) (h : upd (upd (upd hp i1 c1) i2 c2) i3 c3 id = some o) : upd (upd (upd (upd hp m a) i1 c1) i2 c2) i3 c3 id = some o := by
 simp only [bJ] at h ⊢
 split
 ·rename_i e; rw [if_pos e] at h; exact h
 rename_i e; rw [if_neg e] at h
 split
 ·rename_i e; rw [if_pos e] at h; exact h
 rename_i e; rw [if_neg e] at h
 split
 ·rename_i e; rw [if_pos e] at h; exact h
 rename_i e; rw [if_neg e] at h
 split
 ·rename_i e; rw [e, hno m hm] at h; cases h
 ·exact h
def c85P (k : Int) : List AV → H → Nat → Option (H × Nat)
 | [.op i1 0, .op i2 0, .op i3 0], hp, nx => aN ((eS (hp i1) = true ∧ eS (hp i2) = true ∧ eS (hp i3) = true) ∧ i1 ≠ i2 ∧ i1 ≠ i3 ∧ i2 ≠ i3 ∧ i1 < nx ∧ i2 < nx ∧ i3 < nx)
   (some (upd (upd (upd hp i1 (.cells [.v (.slice none 0 0)] true)) i2 (.cells [.i 0] true)) i3 (.cells [.i k] true), nx + 17))
 | _, _, _ => none
theorem ofv_if (t : TypeId) (v : Value) : ofV (.iface t v) = .v (.iface t v) := (rfl)
theorem ofv_agi (k : Int) : ofV (.agg #[.int .i64 k]) = .agg [.i k] := (rfl)
theorem isi20 : isIfT Tryz.prog 20 = true := by kernel_rfl
theorem isi122 : isIfT Tryz.prog 122 = false := by kernel_rfl
theorem iss_s {α : Type} (x : α) : (some x).isSome = true := (rfl)
attribute [go_sem] iss_s ofv_if ofv_agi isi20 isi122
set_option maxHeartbeats 4000000 in
theorem c85_pan (k : Int) : DefOK Tryz.prog GLh 76 (.panicking (chF k)) (.panicking [{ v := .iface 122 (.agg #[.int .i64 k]), recovered := true }]) (c85P k) := by
 refine fZ (rest := (cr (aE Tryz.f76))) (rv := .iface 122 (.agg #[.int .i64 k])) (a := 6) (b := 3) Tryz.func76 rfl (.inl rfl) ⟨Nat.le_of_ble_eq_true rfl, Nat.le_of_ble_eq_true rfl⟩ ?_
 intro args hp nx hp' nx' hg
 unfold c85P at hg
 split at hg
 ·rename_i i1 i2 i3
  replace hg := aP hg; obtain ⟨⟨⟨o1, o2, o3⟩, n12, n13, n23, l1, l2, l3⟩, hg⟩ := hg
  simp only [Option.some.injEq, Prod.mk.injEq] at hg; obtain ⟨rfl, rfl⟩ := hg
  obtain ⟨x, h1⟩ := eG o1
  obtain ⟨y, h2⟩ := eG o2
  obtain ⟨z, h3⟩ := eG o3
  refine ⟨Nat.le_of_ble_eq_true rfl, Nat.le_add_right _ _, fun hno => ?_⟩
  simp only [frOf]
  refine aA rfl ?_
  refine aC (Γ := aL) [8, 0, 1, 2, 3] (aD _ _) rfl rfl rfl (fun K hK => ?_)
  simp (disch := omega) only [Tryz.f76, go_sem, Nat.reduceAdd, ↓reduceIte]
  refine hK _ ?_
  refine aB ?_
  refine bA (.tmp 8) rfl rfl rfl (fun h => ?_) (fun h => ?_)
  ·skip
   refine aI rfl ?_
   refine aA rfl ?_
   refine aC (Γ := aL) [0, 1, 2, 3, 4, 5] (aD _ _) rfl rfl rfl (fun K hK => ?_)
   simp (disch := omega) only [Tryz.f76, go_sem, Nat.reduceAdd, Nat.reduceLeDiff, ↓reduceIte]
   refine hK _ ?_
   refine aB ?_
   refine aA rfl ?_
   refine aA rfl ?_
   refine aC (Γ := aL) [15, 0, 1, 2, 3, 4] (aD _ _) rfl rfl rfl (fun K hK => ?_)
   simp (disch := omega) only [Tryz.f76, go_sem, Nat.reduceAdd, ↓reduceIte]
   refine hK _ ?_
   refine aB ?_
   refine bA (.tmp 15) rfl rfl rfl (fun h => ?_) (fun h => ?_)
   ·skip
    refine aI rfl ?_
    cases h
   ·skip
    refine aI rfl ?_
    clear h
    refine aQ rfl ?_
    refine aB ?_
    refine awp_ordP (Γ := aL) [[0, 1, 2, 3, 4], [0, 2, 1, 3, 4], [0, 2, 3, 1, 4], [2, 0, 1, 3, 4], [2, 0, 3, 1, 4], [2, 3, 0, 1, 4]] [] bZ (aD _ _) rfl rfl rfl (by kernel_rfl) (fun K hK => ?_)
    simp (disch := omega) only [Tryz.f76, go_sem, Nat.reduceAdd, runI_nil, runI_cons, hS, List.getElem?_cons_zero, List.getElem?_cons_succ, and_self, and_true, Nat.reduceLeDiff, Nat.reduceLT, ↓reduceIte, h1, h2, h3, List.getElem?_toArray, allO_cons, allO_nil]
    refine hK _ ?_
    exact ⟨rfl, upd3_sub hno (by omega), by simp only; omega⟩
  ·skip
   refine aI rfl ?_
   cases h
 ·cases hg
end Go.AX
namespace Go.AX
open Go Go.Proofs
theorem hX {P : Program} {rs : List ResultVar} {ch : List PanicEntry} {gI gP : List AV → H → Nat → Option (H × Nat)} {capsA : List AV} {r : AV} {t : S} {p : H × Nat} (h1 : gP capsA t.hp t.cx = some p) (h2 : aK (bV P rs { t with hp := p.1 }) (cO 4 p.1) = some r) : defQ P rs ch gI gP capsA r (.panic ch) t := ⟨rfl, p, h1, h2⟩
theorem defQ_ret {P : Program} {rs : List ResultVar} {ch : List PanicEntry} {gI gP : List AV → H → Nat → Option (H × Nat)} {capsA : List AV} {r : AV} {t : S} {p : H × Nat} (h1 : gI capsA t.hp t.cx = some p) (h2 : aK (bV P rs { t with hp := p.1 }) (cO 4 p.1) = some r) : defQ P rs ch gI gP capsA r .ret t := ⟨p, h1, h2⟩
theorem c85P_eq (k : Int) (i1 i2 i3 nx : Nat) (hp : H) : c85P k [.op i1 0, .op i2 0, .op i3 0] hp nx = aN ((eS (hp i1) = true ∧ eS (hp i2) = true ∧ eS (hp i3) = true) ∧ i1 ≠ i2 ∧ i1 ≠ i3 ∧ i2 ≠ i3 ∧ i1 < nx ∧ i2 < nx ∧ i3 < nx)
   (some (upd (upd (upd hp i1 (.cells [.v (.slice none 0 0)] true)) i2 (.cells [.i 0] true)) i3 (.cells [.i k] true), nx + 17)) := (rfl)
def fD (n : Nat) (args : List AV) (hp : H) (nx : Nat) : Option (H × Nat) := aN (args.length = n) (some (hp, nx))
theorem idleG_3 (a b c : AV) (hp : H) (nx : Nat) : fD 3 [a, b, c] hp nx = some (hp, nx) := cU _ rfl
theorem o1T_n : o1T none = none := (rfl)
attribute [go_sem] c85P_eq idleG_3 o1T_n
theorem len_wl (n : Nm) : n.length ≤ wl n := by
 induction n with
 | nil => exact Nat.zero_le _
 | cons l r ih => rw [wl_cons, List.length_cons]; omega
theorem ldV_F (P : Program) (t : TypeId) (ys : List AV) : ldV P t ys = ldF P t ys (cH P t) := by simp only [ldV, ldF]; cases cH P t with | none => rfl | some b => cases b <;> rfl
attribute [go_sem] ldV_F
def cauR : Option (Nm × Nat) → AV
 | none => .tup [.sl 0 [], .i 0, .i 30]
 | some (n, s) => if 255 < wl n then .tup [.sl 0 [], .i 0, .i 31] else .tup [.sl n.length (cS n), .i (s : Int), .i 0]
def cauK : Option (Nm × Nat) → Int
 | none => 30
 | some _ => 31
def cauGk (k : Int) : List AV → Option AV
 | [.fn 71 [.rp [.sl n xs]]] => aK (cI xs) fun b => aN ((b.length = n ∧ n ≤ 100000) ∧ cauK (opN (b.length + 1) b) = k) (some (cauR (opN (b.length + 1) b)))
 | _ => none
def cauG : List AV → Option AV
 | [.fn 71 [.rp [.sl n xs]]] => aK (cI xs) fun b => aN (b.length = n ∧ n ≤ 100000) (some (cauR (opN (b.length + 1) b)))
 | _ => none
theorem call85 : cJ Tryz.prog 76 := ⟨_, Tryz.func76, rfl, rfl⟩
theorem c85_i : DefOK Tryz.prog GLh 76 .returning .returning (fD 3) := d_idle c85_idle
theorem fail31 : dE Tryz.prog GLh 72 (chF 31) (failP 31) := fail_pan 31
set_option maxHeartbeats 2000000 in
theorem caught_k (k : Int) : cL Tryz.prog GLh 70 (cauGk k) := by
 refine pure_def (r0 := (cl (aE Tryz.f70))) (C := (cr (cr (aE Tryz.f70)))) (k := 6) (d := 76) (caps := #[.tmp 2, .tmp 3, .tmp 4]) Tryz.func70 rfl (Nat.le_of_ble_eq_true rfl) call85 c85_i (c85_pan k) rfl ?_
 intro args r hg
 unfold cauGk at hg
 split at hg
 ·rename_i n xs
  replace hg := aJ hg; obtain ⟨b, hb, hg⟩ := hg
  replace hg := aP hg; obtain ⟨⟨⟨rfl, hn⟩, hk⟩, hg⟩ := hg
  obtain rfl := Option.some.inj hg
  have := bW hb; subst this
  refine ⟨Nat.le_of_ble_eq_true rfl, fun nx => ⟨[.op nx 0, .op (nx + 1) 0, .op (nx + 2) 0], ?_⟩⟩
  refine aC (Γ := aL) [0, 2, 3, 4] (aD _ _) rfl rfl rfl (fun K hK => ?_)
  simp (disch := omega) only [Tryz.f70, go_sem, Nat.reduceAdd, ↓reduceIte]
  refine hK _ ?_
  refine ⟨rfl, ?_⟩
  simp only [defS]
  rcases hop : opN (b.length + 1) b with _ | ⟨n, s⟩
  ·skip
   rw [hop] at hk
   subst hk
   refine aA rfl ?_
   refine bH (Γ := aL) 1 (o1_pan) call80 (aD _ _) rfl rfl rfl (fun Z hZ => ?_)
   simp (disch := omega) only [Tryz.f70, go_sem, Nat.reduceAdd, ↓reduceIte, bG, eq_self, true_and, bP, List.map_nil, hop, List.take_succ_cons, List.take_zero]
   refine hZ _ ?_; clear hZ Z
   refine hX (gI := fD 3) (p := _) (by simp (disch := omega) only [go_sem, aV, bY, ↓reduceIte]; rfl) ?_
   simp (disch := omega) only [bV, bK, bQ, Tryz.f70, go_sem, cauR, cauK, ↓reduceIte]
  ·skip
   rw [hop] at hk
   subst hk
   obtain ⟨hlab, hwl, hsb⟩ := opN_ok _ _ _ _ hop
   have hlen := len_wl n
   refine aA rfl ?_
   refine aC (Γ := bC [(71, .pure false (ppG o1G))]) [2, 3, 4] (aH ok80 aO) rfl rfl rfl (fun K hK => ?_)
   simp (disch := omega) only [Tryz.f70, go_sem, Nat.reduceAdd, Nat.reduceLeDiff, ↓reduceIte, hop]
   refine hK _ ?_
   refine aB ?_
   have hgd : ∀ x : Option AV, aN (List.length n ≤ 1000000 ∧ ∀ l ∈ n, gZ l) x = x := fun x => cU x ⟨by omega, hlab⟩
   by_cases hw : 255 < wl n
   ·skip
    refine aA rfl ?_
    refine aA rfl ?_
    refine aC (Γ := bC [(77, .pure true chkG)]) [2, 3, 4, 5] (aH ok86 aO) rfl rfl rfl (fun K hK => ?_)
    simp (disch := omega) only [Tryz.f70, go_sem, Nat.reduceAdd, ↓reduceIte, unS_cS, hgd, if_pos hw]
    refine hK _ ?_
    refine aB ?_
    refine aA rfl ?_
    refine aC (Γ := aL) [15, 2, 3, 4, 5] (aD _ _) rfl rfl rfl (fun K hK => ?_)
    simp (disch := omega) only [Tryz.f70, go_sem, Nat.reduceAdd, Int.reduceEq, ↓reduceIte]
    refine hK _ ?_
    refine aB ?_
    refine bA (.tmp 15) rfl rfl rfl (fun h => ?_) (fun h => ?_)
    ·skip
     refine aI rfl ?_
     refine bH (Γ := aL) 1 (fail31) call81 (aD _ _) rfl rfl rfl (fun Z hZ => ?_)
     simp (disch := omega) only [Tryz.f70, go_sem, Nat.reduceAdd, ↓reduceIte, bG, eq_self, true_and, bP, List.map_cons, List.map_nil, List.append_nil, List.take_succ_cons, List.take_zero]
     refine hZ _ ?_; clear hZ Z
     refine hX (gI := fD 3) (p := _) (by simp (disch := omega) only [go_sem, aV, bY, ↓reduceIte]; rfl) ?_
     simp (disch := omega) only [bV, bK, bQ, Tryz.f70, go_sem, cauR, cauK, ↓reduceIte, if_pos hw]
    ·skip
     refine aI rfl ?_
     exact absurd h (by decide)
   ·skip
    refine aA rfl ?_
    refine aA rfl ?_
    refine aC (Γ := bC [(77, .pure true chkG)]) [2, 3, 4, 5] (aH ok86 aO) rfl rfl rfl (fun K hK => ?_)
    simp (disch := omega) only [Tryz.f70, go_sem, Nat.reduceAdd, ↓reduceIte, unS_cS, hgd, if_neg hw]
    refine hK _ ?_
    refine aB ?_
    refine aA rfl ?_
    refine aC (Γ := aL) [15, 2, 3, 4, 5] (aD _ _) rfl rfl rfl (fun K hK => ?_)
    simp (disch := omega) only [Tryz.f70, go_sem, Nat.reduceAdd, ↓reduceIte]
    refine hK _ ?_
    refine aB ?_
    refine bA (.tmp 15) rfl rfl rfl (fun h => ?_) (fun h => ?_)
    ·skip
     refine aI rfl ?_
     exact absurd h (by decide)
    ·skip
     refine aI rfl ?_
     refine aQ rfl ?_
     refine aB ?_
     refine aA rfl ?_
     refine awp_ordP (Γ := aL) [[0, 1, 2, 3, 4], [0, 2, 1, 3, 4], [1, 0, 2, 3, 4]] [2, 3, 4] bZ (aD _ _) rfl rfl rfl (by kernel_rfl) (fun K hK => ?_)
     simp (disch := omega) only [Tryz.f70, go_sem, Nat.reduceAdd, runI_nil, runI_cons, hS, List.getElem?_cons_zero, List.getElem?_cons_succ, and_self, and_true, Nat.reduceLeDiff, ↓reduceIte, allO_cons, allO_nil]
     refine hK _ ?_
     refine aB ?_
     refine aS rfl ?_
     refine defQ_ret (gP := c85P 0) (ch := chF 0) (p := _) (idleG_3 _ _ _ _ _) ?_
     simp (disch := omega) only [bV, bK, bQ, Tryz.f70, go_sem, cauR, ↓reduceIte, if_neg hw]
 ·cases hg
end Go.AX
namespace Go.AX
open Go Go.Proofs
theorem caught_ok : cL Tryz.prog GLh 70 cauG := by
 intro σ I w nx args vals r h1 h2 h3 hs hr hg
 have : ∃ k, cauGk k args = some r := by
  unfold cauG at hg
  split at hg
  ·replace hg := aJ hg; obtain ⟨b, hb, hg⟩ := hg
   replace hg := aP hg; obtain ⟨h1, hg⟩ := hg
   exact ⟨cauK (opN (b.length + 1) b), by show aK (cI _) _ = _; rw [hb, aX, cU _ ⟨h1, rfl⟩]; exact hg⟩
  ·cases hg
 obtain ⟨k, hk⟩ := this
 exact caught_k k σ I w nx args vals r h1 h2 h3 hs hr hk
theorem ids_cS (ps : List (List B8)) : AV.ids.idsL (cS ps) = 0 := by
 induction ps with
 | nil => rfl
 | cons x l ih => show max (AV.ids (.s x)) (AV.ids.idsL (cS l)) = 0; rw [ih]; rfl
theorem ids_slS (n : Nat) (ps : List (List B8)) : AV.ids (.sl n (cS ps)) = 0 := ids_cS ps
theorem ids_t3 (a b c : AV) : AV.ids (.tup [a, b, c]) = max a.ids (max b.ids (max c.ids 0)) := (rfl)
theorem ids_cauR (o : Option (Nm × Nat)) : AV.ids (cauR o) = 0 := by
 unfold cauR
 split
 ·rfl
 ·split
  ·rfl
  ·rw [ids_t3, ids_slS]; rfl
theorem cauG_eq (n : Nat) (xs : List AV) : cauG [.fn 71 [.rp [.sl n xs]]] = aK (cI xs) fun b => aN (b.length = n ∧ n ≤ 100000) (some (cauR (opN (b.length + 1) b))) := (rfl)
attribute [go_sem] cauG_eq
theorem ok79 : bX Tryz.prog GLh 70 (.heap (capG 71 cauG)) := ⟨⟨_, Tryz.func70, rfl, rfl⟩, heap_cap caught_ok⟩
def iH : List AV → Option AV
 | [.sl n xs] => aK (cI xs) fun b => aN (b.length = n ∧ n ≤ 100000) (some (cauR (opN (b.length + 1) b)))
 | _ => none
theorem openG_eq (n : Nat) (xs : List AV) : iH [.sl n xs] = aK (cI xs) fun b => aN (b.length = n ∧ n ≤ 100000) (some (cauR (opN (b.length + 1) b))) := (rfl)
attribute [go_sem] openG_eq
def cauA : Option (Nm × Nat) → AV
 | none => .sl 0 []
 | some (n, _) => if 255 < wl n then .sl 0 [] else .sl n.length (cS n)
def cauB : Option (Nm × Nat) → AV
 | none => .i 0
 | some (n, s) => if 255 < wl n then .i 0 else .i (s : Int)
def cauC : Option (Nm × Nat) → AV
 | none => .i 30
 | some (n, _) => if 255 < wl n then .i 31 else .i 0
theorem cauR_t (o : Option (Nm × Nat)) : cauR o = .tup [cauA o, cauB o, cauC o] := by
 rcases o with _ | ⟨n, s⟩
 ·rfl
 ·simp only [cauR, cauA, cauB, cauC]; split <;> rfl
theorem noOwn_cau (o : Option (Nm × Nat)) : dB [cauA o, cauB o, cauC o] = true := by
 rcases o with _ | ⟨n, s⟩
 ·rfl
 ·simp only [cauA, cauB, cauC]; split <;> rfl
theorem ea_mkf {P : Program} {Γ : Env} {ρ : Operand → AV} {m nx n id cx : Nat} {hp : H} {f : FuncId} {caps : Array Operand} : eff P Γ (.makeFunc (.func f) #[] caps) ρ m nx n hp id cx = some (.fn f (caps.toList.map ρ), hp, cx) := (rfl)
attribute [go_sem] ea_mkf
set_option maxHeartbeats 2000000 in
theorem open_ok : cL Tryz.prog GLh 57 iH := by
 refine cC Tryz.func57 (aT rfl) ?_
 intro args r hg
 unfold iH at hg
 split at hg
 ·rename_i n xs
  replace hg := aJ hg; obtain ⟨b, hb, hg⟩ := hg
  replace hg := aP hg; obtain ⟨⟨rfl, hn⟩, hg⟩ := hg
  obtain rfl := Option.some.inj hg
  have := bW hb; subst this
  refine ⟨Nat.le_of_ble_eq_true rfl, fun nx => ?_⟩
  clear hb hg
  obtain ⟨o, ho⟩ : ∃ o, opN (b.length + 1) b = o := ⟨_, rfl⟩
  have hi := ids_cauR o
  rw [ho]
  rw [cauR_t] at hi ⊢
  refine aA rfl ?_
  refine aC (Γ := aL) [1] (aD _ _) rfl rfl rfl (fun K hK => ?_)
  simp (disch := omega) only [Tryz.f57, go_sem, Nat.reduceAdd, ↓reduceIte]
  refine hK _ ?_
  refine aB ?_
  refine aA rfl ?_
  refine aC (Γ := bC [(71, .pure false (ppG o1G)), (70, .heap (capG 71 cauG))]) [2, 3, 4] (aH ok80 (aH ok79 aO)) rfl rfl rfl (fun K hK => ?_)
  simp (disch := omega) only [Tryz.f57, go_sem, Nat.reduceAdd, ↓reduceIte, ho, cauR_t, hi, List.map_cons, List.map_nil]
  refine hK _ ?_
  refine aB ?_
  refine aS rfl ?_
  simp (disch := omega) only [cN, bV, bK, bQ, Tryz.f57, go_sem, ↓reduceIte, noOwn_cau]
 ·cases hg
theorem ok71 : bX Tryz.prog GLh 57 (.pure false iH) := ⟨⟨_, Tryz.func57, rfl, rfl⟩, open_ok⟩
end Go.AX
namespace Go.AX
open Go Go.Proofs
def nmO (b : List B8) : Option (Nm × Nat) := match opN (b.length + 1) b with
 | none => none
 | some (n, s) => if 255 < wl n then none else some (n, s)
def nameR (l : List B8) (a : Nat) : Option (AV × List AV) := match nmO (l.drop a) with
 | none => none
 | some (n, s) => some (.sl n.length (cS n), [.sl l.length (c8 l), .i ((a + s : Nat) : Int)])
def gD : List AV → List AV → Option (Option (AV × List AV))
 | [.op _ 0], [.sl n xs, .i a] => aK (cI xs) fun l => aN (l.length = n ∧ 0 ≤ a ∧ a ≤ n ∧ n ≤ 100000) (some (nameR l a.toNat))
 | _, _ => none
theorem nameG_eq (id n : Nat) (a : Int) (xs : List AV) : gD [.op id 0] [.sl n xs, .i a] = aK (cI xs) fun l => aN (l.length = n ∧ 0 ≤ a ∧ a ≤ n ∧ n ≤ 100000) (some (nameR l a.toNat)) := (rfl)
attribute [go_sem] nameG_eq
theorem iI (b : List B8) : (nmO b = none ∧ ∃ k : Int, k ≠ 0 ∧ cauR (opN (b.length + 1) b) = .tup [.sl 0 [], .i 0, .i k]) ∨ ∃ n s, nmO b = some (n, s) ∧ s ≤ b.length ∧ cauR (opN (b.length + 1) b) = .tup [.sl n.length (cS n), .i (s : Int), .i 0] := by
 unfold nmO
 rcases h : opN (b.length + 1) b with _ | ⟨n, s⟩
 ·exact .inl ⟨rfl, 30, by decide, rfl⟩
 ·by_cases hw : 255 < wl n
  ·exact .inl ⟨if_pos hw, 31, by decide, if_pos hw⟩
  ·exact .inr ⟨n, s, if_neg hw, (opN_ok _ _ _ _ h).2.2, if_neg hw⟩
set_option maxHeartbeats 4000000 in
theorem name_both : cQ Tryz.prog GLh 33 (rdH gD) ∧ dE Tryz.prog GLh 33 chM (rdP gD) := by
 refine dT Tryz.func33 (aT rfl) ?_
 intro id off rest nx xs o hg
 unfold gD at hg
 split at hg
 ·rename_i id2 n xs2 a0 heq
  simp only [List.cons.injEq, AV.op.injEq] at heq
  obtain ⟨⟨rfl, rfl⟩, rfl⟩ := heq
  replace hg := aJ hg; obtain ⟨l, hl, hg⟩ := hg
  replace hg := aP hg; obtain ⟨⟨rfl, ha, han, hnb⟩, hg⟩ := hg
  obtain rfl := Option.some.inj hg
  have := bW hl; subst this
  obtain ⟨a, rfl⟩ := Int.eq_ofNat_of_zero_le ha
  simp only [Int.toNat_natCast] at *
  refine ⟨Nat.le_of_ble_eq_true rfl, fun hid => ?_⟩
  clear hl hg
  have hdl : (l.drop a).length = l.length - a := List.length_drop ..
  unfold nameR
  obtain ⟨d, hd⟩ : ∃ d, l.drop a = d := ⟨_, rfl⟩
  rw [hd] at hdl
  rw [hd]
  have et : d.take (l.length - a) = d := List.take_of_length_le (by omega)
  have hc := iI d
  refine aA rfl ?_
  refine aC (Γ := aL) [0] (aD _ _) rfl rfl rfl (fun K hK => ?_)
  simp (disch := omega) only [Tryz.f33, go_sem, ↓reduceIte]
  refine hK _ ?_
  refine aB ?_
  rcases hc with ⟨hn, k, hk, hc⟩ | ⟨n, s, hn, hsb, hc⟩
  ·skip
   rw [hdl] at hc
   refine aA rfl ?_
   refine bB (Γ := bC [(57, .pure false iH)]) (fun k => if k = 9 then 0 else 2) [0, 3, 4, 5] bZ (aH ok71 aO) rfl rfl rfl (by kernel_rfl) (fun K hK => ?_)
   simp (disch := omega) only [Tryz.f33, go_sem, Nat.reduceAdd, Nat.reduceLT, ↓reduceIte, Int.toNat_natCast, hd, et, hc, hdl]
   refine hK _ ?_
   refine aB ?_
   rw [hn]
   have hd0 : decide (k = 0) = false := decide_eq_false hk
   refine aA rfl ?_
   refine bH (Γ := bC [(56, .pure true eM)]) 2 (fC) call60 (aH ok60 aO) rfl rfl rfl (fun Z hZ => ?_)
   simp (disch := omega) only [Tryz.f33, go_sem, Nat.reduceAdd, ↓reduceIte, bG, eq_self, true_and, bP, List.map_cons, List.map_nil, List.append_nil, hd0, List.take_succ_cons, List.take_zero]
   refine hZ _ ?_; clear hZ Z
   exact rfl
  ·skip
   rw [hdl] at hc
   refine aA rfl ?_
   refine bB (Γ := bC [(57, .pure false iH)]) (fun k => if k = 9 then 0 else 2) [0, 3, 4, 5] bZ (aH ok71 aO) rfl rfl rfl (by kernel_rfl) (fun K hK => ?_)
   simp (disch := omega) only [Tryz.f33, go_sem, Nat.reduceAdd, Nat.reduceLT, ↓reduceIte, Int.toNat_natCast, hd, et, hc, hdl]
   refine hK _ ?_
   refine aB ?_
   rw [hn]
   refine aA rfl ?_
   refine aC (Γ := bC [(56, .pure true eM)]) [0, 3, 4] (aH ok60 aO) rfl rfl rfl (fun K hK => ?_)
   simp (disch := omega) only [Tryz.f33, go_sem, Nat.reduceAdd, ↓reduceIte]
   refine hK _ ?_
   refine aB ?_
   have ea : (a : Int) + (s : Int) = ((a + s : Nat) : Int) := rfl
   refine aA rfl ?_
   refine aC (Γ := aL) [3] (aD _ _) rfl rfl rfl (fun K hK => ?_)
   simp (disch := omega) only [Tryz.f33, go_sem, Nat.reduceAdd, Nat.reduceLeDiff, Nat.reduceLT, ↓reduceIte, ea]
   refine hK _ ?_
   refine aB ?_
   refine aA rfl ?_
   refine aC (Γ := aL) [2] (aD _ _) rfl rfl rfl (fun K hK => ?_)
   simp (disch := omega) only [Tryz.f33, go_sem, Nat.reduceAdd, ↓reduceIte]
   refine hK _ ?_
   refine aB ?_
   refine aS rfl ?_
   refine ⟨by simp (disch := omega) only [bV, bK, bQ, Tryz.f33, go_sem, eq_self, ↓reduceIte], by simp (disch := omega) only [aV, ↓reduceIte, eq_self], ?_, ?_⟩
   ·exact ids_slS _ _
   ·exact eD _ _ _
 ·cases hg
theorem name_pan : dE Tryz.prog GLh 33 chM (rdP gD) := name_both.2
theorem call46 : cJ Tryz.prog 33 := ⟨_, Tryz.func33, rfl, rfl⟩
theorem ok46 : bX Tryz.prog GLh 33 (.heap (rdH gD)) := ⟨⟨_, Tryz.func33, rfl, rfl⟩, name_both.1⟩
end Go.AX
namespace Go.AX
open Go Go.Proofs
def txE (l : List B8) (a : Nat) : Option Nat := if a < l.length ∧ (l.getD a 0#8).toNat ≤ l.length - (a + 1) then some (a + 1 + (l.getD a 0#8).toNat) else none
def txF : Nat → List B8 → Nat → Bool
 | 0, _, _ => false
 | f + 1, l, a => if a < l.length then match txE l a with
  | none => false
  | some p => txF f l p
 else true
theorem textR_E (l : List B8) (a : Nat) : (txE l a = none ∧ textR l a = none) ∨ ∃ p d, txE l a = some p ∧ a < p ∧ p ≤ l.length ∧ textR l a = some (.sl d.length (c8 d), [.sl l.length (c8 l), .i (p : Int)]) := by
 unfold txE textR
 by_cases h : a < l.length ∧ (l.getD a 0#8).toNat ≤ l.length - (a + 1)
 ·refine .inr ⟨a + 1 + (l.getD a 0#8).toNat, (l.drop (a + 1)).take (l.getD a 0#8).toNat, if_pos h, by omega, by omega, ?_⟩
  rw [if_pos h]
  have : ((l.drop (a + 1)).take (l.getD a 0#8).toNat).length = (l.getD a 0#8).toNat := by rw [List.length_take, List.length_drop]; omega
  rw [this]
 ·exact .inl ⟨if_neg h, if_neg h⟩
def txsB (l : List B8) (a : Nat) : Bool := match txE l a with
 | none => false
 | some p => txF (l.length + 1) l p
def txsR (l : List B8) (a : Nat) : Option (AV × List AV) := if txsB l a = true then some (.tup [], [.sl l.length (c8 l), .i (l.length : Int)]) else none
def txsG : List AV → List AV → Option (Option (AV × List AV))
 | [.op _ 0], [.sl n xs, .i a] => aK (cI xs) fun l => aN (l.length = n ∧ 0 ≤ a ∧ a ≤ n ∧ n ≤ 100000) (some (txsR l a.toNat))
 | _, _ => none
theorem txsG_eq (id n : Nat) (a : Int) (xs : List AV) : txsG [.op id 0] [.sl n xs, .i a] = aK (cI xs) fun l => aN (l.length = n ∧ 0 ≤ a ∧ a ≤ n ∧ n ≤ 100000) (some (txsR l a.toNat)) := (rfl)
attribute [go_sem] txsG_eq
theorem tx_end {f a : Nat} {l : List B8} (h : ¬ a < l.length) : txF (f + 1) l a = true := if_neg h
theorem tx_no {f a : Nat} {l : List B8} (h : a < l.length) (h2 : txE l a = none) : txF (f + 1) l a = false := by rw [txF, if_pos h, h2]
theorem tx_go {f a p : Nat} {l : List B8} (h : a < l.length) (h2 : txE l a = some p) : txF (f + 1) l a = txF f l p := by rw [txF, if_pos h, h2]
structure KFC where
 k : Nat
 f : Nat
 c : Nat
set_option maxHeartbeats 4000000 in
theorem txs_both : cQ Tryz.prog GLh 63 (rdH txsG) ∧ dE Tryz.prog GLh 63 chM (rdP txsG) := by
 refine dT Tryz.func63 (aT rfl) ?_
 intro id off rest nx xs o hg
 unfold txsG at hg
 split at hg
 ·rename_i id2 n xs2 a0 heq
  simp only [List.cons.injEq, AV.op.injEq] at heq
  obtain ⟨⟨rfl, rfl⟩, rfl⟩ := heq
  replace hg := aJ hg; obtain ⟨l, hl, hg⟩ := hg
  replace hg := aP hg; obtain ⟨⟨rfl, ha, han, hnb⟩, hg⟩ := hg
  obtain rfl := Option.some.inj hg
  have := bW hl; subst this
  obtain ⟨a, rfl⟩ := Int.eq_ofNat_of_zero_le ha
  simp only [Int.toNat_natCast] at *
  refine ⟨Nat.le_of_ble_eq_true rfl, fun hid => ?_⟩
  clear hl hg
  rcases textR_E l a with ⟨h1, h2⟩ | ⟨p0, d, h1, h0, h3, h2⟩
  ·skip
   have hans : txsR l a = none := by unfold txsR txsB; rw [h1]; exact if_neg (by simp)
   rw [hans]
   refine aA rfl ?_
   refine bH (Γ := bC [(60, .heap (rdH textG))]) 1 (text_pan) call59 (aH ok59 aO) rfl rfl rfl (fun Z hZ => ?_)
   simp (disch := omega) only [Tryz.f63, go_sem, Nat.reduceAdd, ↓reduceIte, bG, eq_self, true_and, bP, List.map_cons, List.map_nil, List.append_nil, Int.toNat_natCast, h2, List.take_succ_cons, List.take_zero]
   refine hZ _ ?_; clear hZ Z
   exact rfl
  ·skip
   obtain ⟨ans, hans⟩ : ∃ b, txF (l.length + 1) l p0 = b := ⟨_, rfl⟩
   have hans2 : txsR l a = if ans = true then some (.tup [], [.sl l.length (c8 l), .i (l.length : Int)]) else none := by unfold txsR txsB; rw [h1]; simp only [hans]
   rw [hans2]
   refine aA rfl ?_
   refine aC (Γ := bC [(60, .heap (rdH textG))]) [0] (aH ok59 aO) rfl rfl rfl (fun K hK => ?_)
   simp (disch := omega) only [Tryz.f63, go_sem, Nat.reduceAdd, ↓reduceIte, Int.toNat_natCast, h2]
   refine hK _ ?_
   refine aB ?_
   refine aR 0 rfl rfl ?_
   refine bR (fun p : KFC => { fr := [(0, .op id 0)], hp := upd (fun _ => none) id (.cells [.sl l.length (c8 l), .i (p.k : Int)] true), nx := 0, cx := p.c }) (fun p => p.k ≤ l.length ∧ l.length < p.k + p.f ∧ txF p.f l p.k = ans ∧ id < p.c) (fun p => l.length - p.k) rfl ⟨⟨p0, l.length + 1, _⟩, ⟨h3, by simp only; omega, hans, by simp only; omega⟩, bD rfl rfl (Nat.le_refl _)⟩ ?_
   rintro ⟨k, f, c⟩ ⟨hk, hf, ht, hc⟩ n0
   simp only at hk hf ht hc ⊢
   obtain ⟨g, rfl⟩ : ∃ g, f = g + 1 := ⟨f - 1, by omega⟩
   refine aA rfl ?_
   refine aA rfl ?_
   refine bB (Γ := aL) (fun _ => 2) [13, 0] bZ (aD _ _) rfl rfl rfl (by kernel_rfl) (fun K hK => ?_)
   simp (disch := omega) only [Tryz.f63, go_sem, Nat.reduceAdd, Nat.reduceLT, ↓reduceIte]
   refine hK _ ?_
   refine aB ?_
   refine aW (.tmp 13) rfl rfl rfl (fun h => ?_) (fun h => ?_)
   ·skip
    refine aI rfl ?_
    have hkl : k < l.length := by omega
    rcases textR_E l k with ⟨q1, q2⟩ | ⟨p, e, q1, q0, q3, q2⟩
    ·skip
     rw [tx_no hkl q1] at ht
     subst ht
     refine aQ rfl ?_
     refine aB ?_
     refine aR 1 rfl rfl ?_
     refine bH (Γ := bC [(60, .heap (rdH textG))]) 1 (text_pan) call59 (aH ok59 aO) rfl rfl rfl (fun Z hZ => ?_)
     simp (disch := omega) only [Tryz.f63, go_sem, Nat.reduceAdd, ↓reduceIte, bG, eq_self, true_and, bP, List.map_cons, List.map_nil, List.append_nil, Int.toNat_natCast, q2, List.take_succ_cons, List.take_zero]
     refine hZ _ ?_; clear hZ Z
     exact rfl
    ·skip
     rw [tx_go hkl q1] at ht
     refine aQ rfl ?_
     refine aB ?_
     refine aR 1 rfl rfl ?_
     refine aC (Γ := bC [(60, .heap (rdH textG))]) [0] (aH ok59 aO) rfl rfl rfl (fun K hK => ?_)
     simp (disch := omega) only [Tryz.f63, go_sem, Nat.reduceAdd, ↓reduceIte, Int.toNat_natCast, q2]
     refine hK _ ?_
     refine bU (bT ?_)
     refine ⟨⟨p, g, _⟩, ⟨q3, by simp only; omega, ht, by simp only; omega⟩, by simp only; omega, bD rfl rfl (Nat.le_refl _)⟩
   ·skip
    refine aI rfl ?_
    rw [tx_end (by omega)] at ht
    subst ht
    have ek : k = l.length := by omega
    subst ek
    refine bF 0 rfl rfl ?_
    refine aY (aZ (bE ?_))
    rw [if_pos rfl]
    refine ⟨by simp (disch := omega) only [bV, bK, Tryz.f63, go_sem, eq_self], by simp (disch := omega) only [aV, ↓reduceIte, eq_self], ?_, ?_⟩
    ·rfl
    ·exact eD _ _ _
 ·cases hg
theorem txs_pan : dE Tryz.prog GLh 63 chM (rdP txsG) := txs_both.2
theorem call69 : cJ Tryz.prog 63 := ⟨_, Tryz.func63, rfl, rfl⟩
theorem ok69 : bX Tryz.prog GLh 63 (.heap (rdH txsG)) := ⟨⟨_, Tryz.func63, rfl, rfl⟩, txs_both.1⟩
end Go.AX
namespace Go.AX
open Go Go.Proofs
def nmE (l : List B8) (a : Nat) : Option Nat := (nmO (l.drop a)).map fun p => a + p.2
def shp (t : BitVec 16) (l : List B8) : Option Nat :=
 if t = 1#16 then (if 4 ≤ l.length then some 4 else none)
 else if t = 28#16 then (if 16 ≤ l.length then some 16 else none)
 else if t = 2#16 ∨ t = 5#16 then nmE l 0
 else if t = 15#16 then (if 2 ≤ l.length then nmE l 2 else none)
 else if t = 16#16 then (if txsB l 0 = true then some l.length else none)
 else if t = 43#16 then (if 5 ≤ l.length then some l.length else none)
 else if t = 51#16 then (if 4 ≤ l.length then txE l 4 else none)
 else some l.length
def shpO (l : List B8) : Option Nat → Option (AV × List AV)
 | none => none
 | some p => some (.tup [], [.sl l.length (c8 l), .i (p : Int)])
theorem shpO_n (l : List B8) : shpO l none = none := rfl
theorem shpO_s (l : List B8) (p : Nat) : shpO l (some p) = some (.tup [], [.sl l.length (c8 l), .i (p : Int)]) := rfl
def shapeG : List AV → List AV → Option (Option (AV × List AV))
 | [.op _ 0, .w16 t], [.sl n xs, .i 0] => aK (cI xs) fun l => aN (l.length = n ∧ n ≤ 100000) (some (shpO l (shp t l)))
 | _, _ => none
theorem shapeG_eq (id n : Nat) (t : BitVec 16) (xs : List AV) : shapeG [.op id 0, .w16 t] [.sl n xs, .i 0] = aK (cI xs) fun l => aN (l.length = n ∧ n ≤ 100000) (some (shpO l (shp t l))) := (rfl)
attribute [go_sem] shapeG_eq
theorem tak0 {l : List B8} {k : Nat} (h : k ≤ l.length) : takR l k 0 = some (.sl k (c8 (l.take k)), [.sl l.length (c8 l), .i (k : Int)]) := by rw [takR_y (by omega), List.drop_zero, Nat.zero_add]
theorem tak0n {l : List B8} {k : Nat} (h : ¬ k ≤ l.length) : takR l k 0 = none := takR_n (by omega)
theorem nmE_cases (l : List B8) (a : Nat) : (nmE l a = none ∧ nameR l a = none) ∨ ∃ n s, nmE l a = some (a + s) ∧ nameR l a = some (.sl n.length (cS n), [.sl l.length (c8 l), .i ((a + s : Nat) : Int)]) := by
 unfold nmE nameR
 rcases nmO (l.drop a) with _ | ⟨n, s⟩
 ·exact .inl ⟨rfl, rfl⟩
 ·exact .inr ⟨n, s, rfl, rfl⟩
set_option maxHeartbeats 4000000 in
theorem shape_both : cQ Tryz.prog GLh 37 (rdH shapeG) ∧ dE Tryz.prog GLh 37 chM (rdP shapeG) := by
 refine dT Tryz.func37 (aT rfl) ?_
 intro id off rest nx xs o hg
 unfold shapeG at hg
 split at hg
 ·rename_i id2 t n xs2 heq
  simp only [List.cons.injEq, AV.op.injEq] at heq
  obtain ⟨⟨rfl, rfl⟩, rfl⟩ := heq
  replace hg := aJ hg; obtain ⟨l, hl, hg⟩ := hg
  replace hg := aP hg; obtain ⟨⟨rfl, hnb⟩, hg⟩ := hg
  obtain rfl := Option.some.inj hg
  have := bW hl; subst this
  refine ⟨Nat.le_of_ble_eq_true rfl, fun hid => ?_⟩
  clear hl hg
  obtain ⟨ans, hans⟩ : ∃ a, shpO l (shp t l) = a := ⟨_, rfl⟩
  rw [hans]
  unfold shp at hans
  refine aA rfl ?_
  refine aC (Γ := aL) [0, 4] (aD _ _) rfl rfl rfl (fun K hK => ?_)
  simp (disch := omega) only [Tryz.f37, go_sem, ↓reduceIte]
  refine hK _ ?_
  refine aB ?_
  refine aR 0 rfl rfl ?_
  refine aA rfl ?_
  refine aC (Γ := aL) [7, 0, 4] (aD _ _) rfl rfl rfl (fun K hK => ?_)
  simp (disch := omega) only [Tryz.f37, go_sem, Nat.reduceAdd, Int.reduceLE, Int.reduceLT, BitVec.reduceOfInt, ↓reduceIte]
  refine hK _ ?_
  refine aB ?_
  refine aW (.tmp 7) rfl rfl rfl (fun h => ?_) (fun h => ?_)
  ·skip
   refine aI rfl ?_
   rw [if_pos h] at hans
   by_cases hk : 4 ≤ l.length
   ·skip
    rw [if_pos hk] at hans; subst hans
    refine aC (Γ := bC [(32, .heap (rdH fJ))]) [] (aH ok45 aO) rfl rfl rfl (fun K hK => ?_)
    simp (disch := omega) only [Tryz.f37, go_sem, Nat.reduceAdd, Int.reduceLE, Int.reduceToNat, ↓reduceIte, tak0 hk]
    refine hK _ ?_
    refine bU ?_
    refine ⟨by simp (disch := omega) only [bV, bK, Tryz.f37, go_sem, eq_self], by simp (disch := omega) only [aV, ↓reduceIte, eq_self], ?_, ?_⟩
    ·rfl
    ·exact eD _ _ _
   ·skip
    rw [if_neg hk] at hans; subst hans
    refine bH (Γ := bC [(32, .heap (rdH fJ))]) 1 (take_pan) call45 (aH ok45 aO) rfl rfl rfl (fun Z hZ => ?_)
    simp (disch := omega) only [Tryz.f37, go_sem, Nat.reduceAdd, Int.reduceLE, Int.reduceToNat, ↓reduceIte, bG, eq_self, true_and, bP, List.map_cons, List.map_nil, List.append_nil, tak0n hk, List.take_succ_cons, List.take_zero]
    refine hZ _ ?_; clear hZ Z
    exact rfl
  ·skip
   refine aI rfl ?_
   rw [if_neg h] at hans
   refine aA rfl ?_
   refine aC (Γ := aL) [11, 0, 4] (aD _ _) rfl rfl rfl (fun K hK => ?_)
   simp (disch := omega) only [Tryz.f37, go_sem, Nat.reduceAdd, Int.reduceLE, Int.reduceLT, BitVec.reduceOfInt, ↓reduceIte]
   refine hK _ ?_
   refine aB ?_
   refine aW (.tmp 11) rfl rfl rfl (fun h => ?_) (fun h => ?_)
   ·skip
    refine aI rfl ?_
    rw [if_pos h] at hans
    by_cases hk : 16 ≤ l.length
    ·skip
     rw [if_pos hk] at hans; subst hans
     refine aC (Γ := bC [(32, .heap (rdH fJ))]) [] (aH ok45 aO) rfl rfl rfl (fun K hK => ?_)
     simp (disch := omega) only [Tryz.f37, go_sem, Nat.reduceAdd, Int.reduceLE, Int.reduceToNat, ↓reduceIte, tak0 hk]
     refine hK _ ?_
     refine bU ?_
     refine ⟨by simp (disch := omega) only [bV, bK, Tryz.f37, go_sem, eq_self], by simp (disch := omega) only [aV, ↓reduceIte, eq_self], ?_, ?_⟩
     ·rfl
     ·exact eD _ _ _
    ·skip
     rw [if_neg hk] at hans; subst hans
     refine bH (Γ := bC [(32, .heap (rdH fJ))]) 1 (take_pan) call45 (aH ok45 aO) rfl rfl rfl (fun Z hZ => ?_)
     simp (disch := omega) only [Tryz.f37, go_sem, Nat.reduceAdd, Int.reduceLE, Int.reduceToNat, ↓reduceIte, bG, eq_self, true_and, bP, List.map_cons, List.map_nil, List.append_nil, tak0n hk, List.take_succ_cons, List.take_zero]
     refine hZ _ ?_; clear hZ Z
     exact rfl
   ·skip
    refine aI rfl ?_
    rw [if_neg h] at hans
    refine aA rfl ?_
    refine aA rfl ?_
    refine aC (Γ := aL) [0, 4, 15] (aD _ _) rfl rfl rfl (fun K hK => ?_)
    simp (disch := omega) only [Tryz.f37, go_sem, Nat.reduceAdd, Int.reduceLE, Int.reduceLT, BitVec.reduceOfInt, ↓reduceIte]
    refine hK _ ?_
    refine aB ?_
    refine aW (.tmp 15) rfl rfl rfl (fun h => ?_) (fun h => ?_)
    ·skip
     have h2 := h
     refine aQ rfl ?_
     refine aB ?_
     refine aW (.tmp 15) rfl rfl rfl (fun h => ?_) (fun h => ?_)
     ·skip
      rw [if_pos (.inl h2)] at hans
      rcases nmE_cases l 0 with ⟨e1, e2⟩ | ⟨n, s, e1, e2⟩
      ·skip
       rw [e1] at hans; subst hans
       refine bH (Γ := bC [(33, .heap (rdH gD))]) 1 (name_pan) call46 (aH ok46 aO) rfl rfl rfl (fun Z hZ => ?_)
       simp (disch := omega) only [Tryz.f37, go_sem, Nat.reduceAdd, Int.reduceLE, Int.reduceToNat, ↓reduceIte, bG, eq_self, true_and, bP, List.map_cons, List.map_nil, List.append_nil, e2, List.take_succ_cons, List.take_zero]
       refine hZ _ ?_; clear hZ Z
       exact rfl
      ·skip
       rw [Nat.zero_add] at e1 e2
       rw [e1] at hans; subst hans
       refine aC (Γ := bC [(33, .heap (rdH gD))]) [] (aH ok46 aO) rfl rfl rfl (fun K hK => ?_)
       simp (disch := omega) only [Tryz.f37, go_sem, Nat.reduceAdd, Int.reduceLE, Int.reduceToNat, ↓reduceIte, e2]
       refine hK _ ?_
       refine bU ?_
       refine ⟨by simp (disch := omega) only [bV, bK, Tryz.f37, go_sem, eq_self], by simp (disch := omega) only [aV, ↓reduceIte, eq_self], ?_, ?_⟩
       ·rfl
       ·exact eD _ _ _
     ·skip
      exact absurd h2 h
    ·skip
     have h2 := h
     refine aC (Γ := aL) [15, 0, 4] (aD _ _) rfl rfl rfl (fun K hK => ?_)
     simp (disch := omega) only [Tryz.f37, go_sem, Nat.reduceAdd, Int.reduceLE, Int.reduceLT, BitVec.reduceOfInt, ↓reduceIte]
     refine hK _ ?_
     refine aB ?_
     refine aW (.tmp 15) rfl rfl rfl (fun h => ?_) (fun h => ?_)
     ·skip
      refine aI rfl ?_
      rw [if_pos (.inr h)] at hans
      rcases nmE_cases l 0 with ⟨e1, e2⟩ | ⟨n, s, e1, e2⟩
      ·skip
       rw [e1] at hans; subst hans
       refine bH (Γ := bC [(33, .heap (rdH gD))]) 1 (name_pan) call46 (aH ok46 aO) rfl rfl rfl (fun Z hZ => ?_)
       simp (disch := omega) only [Tryz.f37, go_sem, Nat.reduceAdd, Int.reduceLE, Int.reduceToNat, ↓reduceIte, bG, eq_self, true_and, bP, List.map_cons, List.map_nil, List.append_nil, e2, List.take_succ_cons, List.take_zero]
       refine hZ _ ?_; clear hZ Z
       exact rfl
      ·skip
       rw [Nat.zero_add] at e1 e2
       rw [e1] at hans; subst hans
       refine aC (Γ := bC [(33, .heap (rdH gD))]) [] (aH ok46 aO) rfl rfl rfl (fun K hK => ?_)
       simp (disch := omega) only [Tryz.f37, go_sem, Nat.reduceAdd, Int.reduceLE, Int.reduceToNat, ↓reduceIte, e2]
       refine hK _ ?_
       refine bU ?_
       refine ⟨by simp (disch := omega) only [bV, bK, Tryz.f37, go_sem, eq_self], by simp (disch := omega) only [aV, ↓reduceIte, eq_self], ?_, ?_⟩
       ·rfl
       ·exact eD _ _ _
     ·skip
      refine aI rfl ?_
      rw [if_neg (fun q => q.elim h2 h)] at hans
      refine aA rfl ?_
      refine aC (Γ := aL) [20, 0, 4] (aD _ _) rfl rfl rfl (fun K hK => ?_)
      simp (disch := omega) only [Tryz.f37, go_sem, Nat.reduceAdd, Int.reduceLE, Int.reduceLT, BitVec.reduceOfInt, ↓reduceIte]
      refine hK _ ?_
      refine aB ?_
      refine aW (.tmp 20) rfl rfl rfl (fun h => ?_) (fun h => ?_)
      ·skip
       refine aI rfl ?_
       rw [if_pos h] at hans
       by_cases hk : 2 ≤ l.length
       ·skip
        rw [if_pos hk] at hans
        obtain ⟨x, hx⟩ : ∃ x, numR l 2 0 = some (.w32 x, [.sl l.length (c8 l), .i 2]) := ⟨_, numR_y (by omega)⟩
        refine aA rfl ?_
        refine aC (Γ := bC [(43, .heap (rdH eN))]) [0] (aH fL aO) rfl rfl rfl (fun K hK => ?_)
        simp (disch := omega) only [Tryz.f37, go_sem, Nat.reduceAdd, Int.reduceLE, Int.reduceToNat, ↓reduceIte, hx]
        refine hK _ ?_
        refine aB ?_
        rcases nmE_cases l 2 with ⟨e1, e2⟩ | ⟨n, s, e1, e2⟩
        ·skip
         rw [e1] at hans; subst hans
         refine bH (Γ := bC [(33, .heap (rdH gD))]) 1 (name_pan) call46 (aH ok46 aO) rfl rfl rfl (fun Z hZ => ?_)
         simp (disch := omega) only [Tryz.f37, go_sem, Nat.reduceAdd, Int.reduceLE, Int.reduceToNat, ↓reduceIte, bG, eq_self, true_and, bP, List.map_cons, List.map_nil, List.append_nil, e2, List.take_succ_cons, List.take_zero]
         refine hZ _ ?_; clear hZ Z
         exact rfl
        ·skip
         rw [e1] at hans; subst hans
         refine aC (Γ := bC [(33, .heap (rdH gD))]) [] (aH ok46 aO) rfl rfl rfl (fun K hK => ?_)
         simp (disch := omega) only [Tryz.f37, go_sem, Nat.reduceAdd, Int.reduceLE, Int.reduceToNat, ↓reduceIte, e2]
         refine hK _ ?_
         refine bU ?_
         refine ⟨by simp (disch := omega) only [bV, bK, Tryz.f37, go_sem, eq_self], by simp (disch := omega) only [aV, ↓reduceIte, eq_self], ?_, ?_⟩
         ·rfl
         ·exact eD _ _ _
       ·skip
        rw [if_neg hk] at hans; subst hans
        refine aA rfl ?_
        refine bH (Γ := bC [(43, .heap (rdH eN))]) 1 (dK) eI (aH fL aO) rfl rfl rfl (fun Z hZ => ?_)
        simp (disch := omega) only [Tryz.f37, go_sem, Nat.reduceAdd, Int.reduceLE, Int.reduceToNat, ↓reduceIte, bG, eq_self, true_and, bP, List.map_cons, List.map_nil, List.append_nil, fB (l := l) (k := 2) (a := 0) (by omega), List.take_succ_cons, List.take_zero]
        refine hZ _ ?_; clear hZ Z
        exact rfl
      ·skip
       refine aI rfl ?_
       rw [if_neg h] at hans
       refine aA rfl ?_
       refine aC (Γ := aL) [26, 0, 4] (aD _ _) rfl rfl rfl (fun K hK => ?_)
       simp (disch := omega) only [Tryz.f37, go_sem, Nat.reduceAdd, Int.reduceLE, Int.reduceLT, BitVec.reduceOfInt, ↓reduceIte]
       refine hK _ ?_
       refine aB ?_
       refine aW (.tmp 26) rfl rfl rfl (fun h => ?_) (fun h => ?_)
       ·skip
        refine aI rfl ?_
        rw [if_pos h] at hans
        by_cases hb : txsB l 0 = true
        ·skip
         have e2 : txsR l 0 = some (.tup [], [.sl l.length (c8 l), .i (l.length : Int)]) := if_pos hb
         rw [if_pos hb] at hans; subst hans
         refine aC (Γ := bC [(63, .heap (rdH txsG))]) [] (aH ok69 aO) rfl rfl rfl (fun K hK => ?_)
         simp (disch := omega) only [Tryz.f37, go_sem, Nat.reduceAdd, Int.reduceLE, Int.reduceToNat, ↓reduceIte, e2]
         refine hK _ ?_
         refine bU ?_
         refine ⟨by simp (disch := omega) only [bV, bK, Tryz.f37, go_sem, eq_self], by simp (disch := omega) only [aV, ↓reduceIte, eq_self], ?_, ?_⟩
         ·rfl
         ·exact eD _ _ _
        ·skip
         have e2 : txsR l 0 = none := if_neg hb
         rw [if_neg hb] at hans; subst hans
         refine bH (Γ := bC [(63, .heap (rdH txsG))]) 1 (txs_pan) call69 (aH ok69 aO) rfl rfl rfl (fun Z hZ => ?_)
         simp (disch := omega) only [Tryz.f37, go_sem, Nat.reduceAdd, Int.reduceLE, Int.reduceToNat, ↓reduceIte, bG, eq_self, true_and, bP, List.map_cons, List.map_nil, List.append_nil, e2, List.take_succ_cons, List.take_zero]
         refine hZ _ ?_; clear hZ Z
         exact rfl
       ·skip
        refine aI rfl ?_
        rw [if_neg h] at hans
        refine aA rfl ?_
        refine aC (Γ := aL) [30, 0, 4] (aD _ _) rfl rfl rfl (fun K hK => ?_)
        simp (disch := omega) only [Tryz.f37, go_sem, Nat.reduceAdd, Int.reduceLE, Int.reduceLT, BitVec.reduceOfInt, ↓reduceIte]
        refine hK _ ?_
        refine aB ?_
        refine aW (.tmp 30) rfl rfl rfl (fun h => ?_) (fun h => ?_)
        ·skip
         refine aI rfl ?_
         rw [if_pos h] at hans
         by_cases hk : 4 ≤ l.length
         ·skip
          refine aA rfl ?_
          refine aC (Γ := bC [(32, .heap (rdH fJ))]) [0] (aH ok45 aO) rfl rfl rfl (fun K hK => ?_)
          simp (disch := omega) only [Tryz.f37, go_sem, Nat.reduceAdd, Int.reduceLE, Int.reduceToNat, ↓reduceIte, tak0 hk]
          refine hK _ ?_
          refine aB ?_
          have hdl : (l.drop 4).length = l.length - 4 := List.length_drop ..
          by_cases hk5 : 5 ≤ l.length
          ·skip
           rw [if_pos hk5] at hans; subst hans
           have hd : decide ((0 : Int) < ((l.length - 4 : Nat) : Int)) = true := decide_eq_true (by omega)
           refine aC (Γ := bC [(44, .heap (rdH restG)), (56, .pure true eM)]) [] (aH ok56 (aH ok60 aO)) rfl rfl rfl (fun K hK => ?_)
           simp (disch := omega) only [Tryz.f37, go_sem, Nat.reduceAdd, ↓reduceIte, restR_eq, hd]
           refine hK _ ?_
           refine bU ?_
           refine ⟨by simp (disch := omega) only [bV, bK, Tryz.f37, go_sem, eq_self], by simp (disch := omega) only [aV, ↓reduceIte, eq_self], ?_, ?_⟩
           ·rfl
           ·exact eD _ _ _
          ·skip
           rw [if_neg hk5] at hans; subst hans
           have hd : decide ((0 : Int) < ((l.length - 4 : Nat) : Int)) = false := decide_eq_false (by omega)
           refine bH (Γ := bC [(44, .heap (rdH restG)), (56, .pure true eM)]) 4 (fC) call60 (aH ok56 (aH ok60 aO)) rfl rfl rfl (fun Z hZ => ?_)
           simp (disch := omega) only [Tryz.f37, go_sem, Nat.reduceAdd, ↓reduceIte, bG, eq_self, true_and, bP, List.map_cons, List.map_nil, List.append_nil, restR_eq, hd, List.take_succ_cons, List.take_zero]
           refine hZ _ ?_; clear hZ Z
           exact rfl
         ·skip
          rw [if_neg (by omega)] at hans; subst hans
          refine aA rfl ?_
          refine bH (Γ := bC [(32, .heap (rdH fJ))]) 1 (take_pan) call45 (aH ok45 aO) rfl rfl rfl (fun Z hZ => ?_)
          simp (disch := omega) only [Tryz.f37, go_sem, Nat.reduceAdd, Int.reduceLE, Int.reduceToNat, ↓reduceIte, bG, eq_self, true_and, bP, List.map_cons, List.map_nil, List.append_nil, tak0n hk, List.take_succ_cons, List.take_zero]
          refine hZ _ ?_; clear hZ Z
          exact rfl
        ·skip
         refine aI rfl ?_
         rw [if_neg h] at hans
         refine aA rfl ?_
         refine aC (Γ := aL) [39, 0] (aD _ _) rfl rfl rfl (fun K hK => ?_)
         simp (disch := omega) only [Tryz.f37, go_sem, Nat.reduceAdd, Int.reduceLE, Int.reduceLT, BitVec.reduceOfInt, ↓reduceIte]
         refine hK _ ?_
         refine aB ?_
         refine aW (.tmp 39) rfl rfl rfl (fun h => ?_) (fun h => ?_)
         ·skip
          refine aI rfl ?_
          rw [if_pos h] at hans
          by_cases hk : 4 ≤ l.length
          ·skip
           rw [if_pos hk] at hans
           refine aA rfl ?_
           refine aC (Γ := bC [(32, .heap (rdH fJ))]) [0] (aH ok45 aO) rfl rfl rfl (fun K hK => ?_)
           simp (disch := omega) only [Tryz.f37, go_sem, Nat.reduceAdd, Int.reduceLE, Int.reduceToNat, ↓reduceIte, tak0 hk]
           refine hK _ ?_
           refine aB ?_
           rcases textR_E l 4 with ⟨q1, q2⟩ | ⟨p, e, q1, q0, q3, q2⟩
           ·skip
            rw [q1] at hans; subst hans
            refine bH (Γ := bC [(60, .heap (rdH textG))]) 1 (text_pan) call59 (aH ok59 aO) rfl rfl rfl (fun Z hZ => ?_)
            simp (disch := omega) only [Tryz.f37, go_sem, Nat.reduceAdd, ↓reduceIte, bG, eq_self, true_and, bP, List.map_cons, List.map_nil, List.append_nil, q2, List.take_succ_cons, List.take_zero]
            refine hZ _ ?_; clear hZ Z
            exact rfl
           ·skip
            rw [q1] at hans; subst hans
            refine aC (Γ := bC [(60, .heap (rdH textG))]) [] (aH ok59 aO) rfl rfl rfl (fun K hK => ?_)
            simp (disch := omega) only [Tryz.f37, go_sem, Nat.reduceAdd, ↓reduceIte, q2]
            refine hK _ ?_
            refine bU ?_
            refine ⟨by simp (disch := omega) only [bV, bK, Tryz.f37, go_sem, eq_self], by simp (disch := omega) only [aV, ↓reduceIte, eq_self], ?_, ?_⟩
            ·rfl
            ·exact eD _ _ _
          ·skip
           rw [if_neg (by omega)] at hans; subst hans
           refine aA rfl ?_
           refine bH (Γ := bC [(32, .heap (rdH fJ))]) 1 (take_pan) call45 (aH ok45 aO) rfl rfl rfl (fun Z hZ => ?_)
           simp (disch := omega) only [Tryz.f37, go_sem, Nat.reduceAdd, Int.reduceLE, Int.reduceToNat, ↓reduceIte, bG, eq_self, true_and, bP, List.map_cons, List.map_nil, List.append_nil, tak0n hk, List.take_succ_cons, List.take_zero]
           refine hZ _ ?_; clear hZ Z
           exact rfl
         ·skip
          refine aI rfl ?_
          rw [if_neg h] at hans; subst hans
          refine aC (Γ := bC [(44, .heap (rdH restG))]) [] (aH ok56 aO) rfl rfl rfl (fun K hK => ?_)
          simp (disch := omega) only [Tryz.f37, go_sem, Nat.reduceAdd, Int.reduceLE, Int.reduceToNat, ↓reduceIte, restR_eq]
          refine hK _ ?_
          refine bU ?_
          refine ⟨by simp (disch := omega) only [bV, bK, Tryz.f37, go_sem, eq_self], by simp (disch := omega) only [aV, ↓reduceIte, eq_self], ?_, ?_⟩
          ·rfl
          ·exact eD _ _ _
 ·cases hg
theorem shape_pan : dE Tryz.prog GLh 37 chM (rdP shapeG) := shape_both.2
theorem call42 : cJ Tryz.prog 37 := ⟨_, Tryz.func37, rfl, rfl⟩
theorem ok42 : bX Tryz.prog GLh 37 (.heap (rdH shapeG)) := ⟨⟨_, Tryz.func37, rfl, rfl⟩, shape_both.1⟩
end Go.AX
namespace Go.AX
open Go Go.Proofs
def ahd (t : BitVec 16) : Nat := if t = 15#16 then 2 else 0
def aheadG : List AV → Option AV
 | [.w16 t] => some (.i (ahd t : Int))
 | _ => none
theorem aheadG_eq (t : BitVec 16) : aheadG [.w16 t] = some (.i (ahd t : Int)) := (rfl)
attribute [go_sem] aheadG_eq
theorem ahead_ok : cL Tryz.prog GLh 16 aheadG := by
 refine cC Tryz.func16 (aT rfl) ?_
 intro args r hg
 unfold aheadG at hg
 split at hg
 ·rename_i t
  obtain rfl := Option.some.inj hg
  refine ⟨Nat.le_of_ble_eq_true rfl, fun nx => ?_⟩
  clear hg
  refine aA rfl ?_
  refine aC (Γ := aL) [0] (aD _ _) rfl rfl rfl (fun K hK => ?_)
  simp (disch := omega) only [Tryz.f16, go_sem, ↓reduceIte]
  refine hK _ ?_
  refine aB ?_
  refine aA rfl ?_
  refine aA rfl ?_
  refine aC (Γ := aL) [4] (aD _ _) rfl rfl rfl (fun K hK => ?_)
  simp (disch := omega) only [Tryz.f16, go_sem, Nat.reduceAdd, Int.reduceLE, Int.reduceLT, BitVec.reduceOfInt, ↓reduceIte]
  refine hK _ ?_
  refine aB ?_
  refine aW (.tmp 4) rfl rfl rfl (fun h => ?_) (fun h => ?_)
  ·skip
   refine aI rfl ?_
   have e : ahd t = 2 := if_pos h
   refine aA rfl ?_
   refine aC (Γ := aL) [2] (aD _ _) rfl rfl rfl (fun K hK => ?_)
   simp (disch := omega) only [Tryz.f16, go_sem, ↓reduceIte]
   refine hK _ ?_
   refine aB ?_
   refine aS rfl ?_
   refine bI ?_
   simp (disch := omega) only [cN, bV, bK, bQ, Tryz.f16, go_sem, ↓reduceIte, e]
   rfl
  ·skip
   refine aI rfl ?_
   have e : ahd t = 0 := if_neg h
   refine aQ rfl ?_
   refine aB ?_
   refine aA rfl ?_
   refine aC (Γ := aL) [2] (aD _ _) rfl rfl rfl (fun K hK => ?_)
   simp (disch := omega) only [Tryz.f16, go_sem, ↓reduceIte]
   refine hK _ ?_
   refine aB ?_
   refine aS rfl ?_
   simp (disch := omega) only [cN, bV, bK, bQ, Tryz.f16, go_sem, ↓reduceIte, e]
   rfl
 ·cases hg
theorem ok37 : bX Tryz.prog GLh 16 (.pure true aheadG) := ⟨⟨_, Tryz.func16, rfl, rfl⟩, ahead_ok⟩
def chk1R (l : List B8) : Option Nat → Option (AV × List AV)
 | none => none
 | some p => some (.i 0, [.sl l.length (c8 l), .i (p : Int)])
def chk1G : List AV → List AV → Option (Option (AV × List AV))
 | [.op _ 0, .rp [.w16 t]], [.sl n xs, .i 0] => aK (cI xs) fun l => aN (l.length = n ∧ n ≤ 100000) (some (chk1R l (shp t l)))
 | _, _ => none
theorem chk1G_eq (id n : Nat) (t : BitVec 16) (xs : List AV) : chk1G [.op id 0, .rp [.w16 t]] [.sl n xs, .i 0] = aK (cI xs) fun l => aN (l.length = n ∧ n ≤ 100000) (some (chk1R l (shp t l))) := (rfl)
attribute [go_sem] chk1G_eq
set_option maxHeartbeats 4000000 in
theorem chk1_both : cQ Tryz.prog GLh 36 (rdH chk1G) ∧ dE Tryz.prog GLh 36 chM (rdP chk1G) := by
 refine dT Tryz.func36 (aT rfl) ?_
 intro id off rest nx xs o hg
 unfold chk1G at hg
 split at hg
 ·rename_i id2 t n xs2 heq
  simp only [List.cons.injEq, AV.op.injEq] at heq
  obtain ⟨⟨rfl, rfl⟩, rfl⟩ := heq
  replace hg := aJ hg; obtain ⟨l, hl, hg⟩ := hg
  replace hg := aP hg; obtain ⟨⟨rfl, hnb⟩, hg⟩ := hg
  obtain rfl := Option.some.inj hg
  have := bW hl; subst this
  refine ⟨Nat.le_of_ble_eq_true rfl, fun hid => ?_⟩
  clear hl hg
  refine aA rfl ?_
  refine aC (Γ := aL) [0, 1] (aD _ _) rfl rfl rfl (fun K hK => ?_)
  simp (disch := omega) only [Tryz.f36, go_sem, ↓reduceIte]
  refine hK _ ?_
  refine aB ?_
  rcases hs : shp t l with _ | p
  ·skip
   refine aA rfl ?_
   refine bH (Γ := bC [(37, .heap (rdH shapeG))]) 2 (shape_pan) call42 (aH ok42 aO) rfl rfl rfl (fun Z hZ => ?_)
   simp (disch := omega) only [Tryz.f36, go_sem, Nat.reduceAdd, ↓reduceIte, bG, eq_self, true_and, bP, List.map_cons, List.map_nil, List.append_nil, hs, shpO_n, List.take_succ_cons, List.take_zero]
   refine hZ _ ?_; clear hZ Z
   exact rfl
  ·skip
   refine aA rfl ?_
   refine aC (Γ := bC [(37, .heap (rdH shapeG))]) [] (aH ok42 aO) rfl rfl rfl (fun K hK => ?_)
   simp (disch := omega) only [Tryz.f36, go_sem, Nat.reduceAdd, ↓reduceIte, hs, shpO_s]
   refine hK _ ?_
   refine aB ?_
   refine aA rfl ?_
   refine aC (Γ := aL) [3] (aD _ _) rfl rfl rfl (fun K hK => ?_)
   simp (disch := omega) only [Tryz.f36, go_sem, ↓reduceIte]
   refine hK _ ?_
   refine aB ?_
   refine aS rfl ?_
   refine ⟨by simp (disch := omega) only [bV, bK, bQ, Tryz.f36, go_sem, eq_self, ↓reduceIte], by simp (disch := omega) only [aV, ↓reduceIte, eq_self], ?_, ?_⟩
   ·rfl
   ·exact eD _ _ _
 ·cases hg
theorem chk1_pan : dE Tryz.prog GLh 36 chM (rdP chk1G) := chk1_both.2
theorem call41 : cJ Tryz.prog 36 := ⟨_, Tryz.func36, rfl, rfl⟩
theorem ok41 : bX Tryz.prog GLh 36 (.heap (rdH chk1G)) := ⟨⟨_, Tryz.func36, rfl, rfl⟩, chk1_both.1⟩
def tgtR (t : BitVec 16) (l : List B8) : Option (AV × List AV) := if ahd t ≤ l.length then nameR l (ahd t) else none
def tgtG : List AV → List AV → Option (Option (AV × List AV))
 | [.op _ 0, .rp [.w16 t]], [.sl n xs, .i 0] => aK (cI xs) fun l => aN (l.length = n ∧ n ≤ 100000) (some (tgtR t l))
 | _, _ => none
theorem tgtG_eq (id n : Nat) (t : BitVec 16) (xs : List AV) : tgtG [.op id 0, .rp [.w16 t]] [.sl n xs, .i 0] = aK (cI xs) fun l => aN (l.length = n ∧ n ≤ 100000) (some (tgtR t l)) := (rfl)
attribute [go_sem] tgtG_eq
theorem ahd_le (t : BitVec 16) : ahd t ≤ 2 := by unfold ahd; split <;> omega
set_option maxHeartbeats 4000000 in
theorem tgt_both : cQ Tryz.prog GLh 31 (rdH tgtG) ∧ dE Tryz.prog GLh 31 chM (rdP tgtG) := by
 refine dT Tryz.func31 (aT rfl) ?_
 intro id off rest nx xs o hg
 unfold tgtG at hg
 split at hg
 ·rename_i id2 t n xs2 heq
  simp only [List.cons.injEq, AV.op.injEq] at heq
  obtain ⟨⟨rfl, rfl⟩, rfl⟩ := heq
  replace hg := aJ hg; obtain ⟨l, hl, hg⟩ := hg
  replace hg := aP hg; obtain ⟨⟨rfl, hnb⟩, hg⟩ := hg
  obtain rfl := Option.some.inj hg
  have := bW hl; subst this
  refine ⟨Nat.le_of_ble_eq_true rfl, fun hid => ?_⟩
  clear hl hg
  have ha := ahd_le t
  unfold tgtR
  obtain ⟨a, ea⟩ : ∃ a, ahd t = a := ⟨_, rfl⟩
  rw [ea] at ha ⊢
  refine aA rfl ?_
  refine aC (Γ := aL) [0, 1] (aD _ _) rfl rfl rfl (fun K hK => ?_)
  simp (disch := omega) only [Tryz.f31, go_sem, ↓reduceIte]
  refine hK _ ?_
  refine aB ?_
  by_cases hk : a ≤ l.length
  ·skip
   rw [if_pos hk]
   refine aA rfl ?_
   refine aC (Γ := bC [(16, .pure true aheadG), (32, .heap (rdH fJ))]) [0] (aH ok37 (aH ok45 aO)) rfl rfl rfl (fun K hK => ?_)
   simp (disch := omega) only [Tryz.f31, go_sem, Nat.reduceAdd, Int.reduceLE, Int.reduceToNat, ↓reduceIte, ea, Int.toNat_natCast, tak0 hk]
   refine hK _ ?_
   refine aB ?_
   rcases nmE_cases l a with ⟨e1, e2⟩ | ⟨n, s, e1, e2⟩
   ·skip
    refine aA rfl ?_
    refine bH (Γ := bC [(33, .heap (rdH gD))]) 1 (name_pan) call46 (aH ok46 aO) rfl rfl rfl (fun Z hZ => ?_)
    simp (disch := omega) only [Tryz.f31, go_sem, Nat.reduceAdd, ↓reduceIte, bG, eq_self, true_and, bP, List.map_cons, List.map_nil, List.append_nil, Int.toNat_natCast, e2, List.take_succ_cons, List.take_zero]
    refine hZ _ ?_; clear hZ Z
    rw [e2]
    exact rfl
   ·skip
    refine aA rfl ?_
    refine aC (Γ := bC [(33, .heap (rdH gD))]) [3] (aH ok46 aO) rfl rfl rfl (fun K hK => ?_)
    simp (disch := omega) only [Tryz.f31, go_sem, Nat.reduceAdd, ↓reduceIte, Int.toNat_natCast, e2]
    refine hK _ ?_
    refine aB ?_
    rw [e2]
    refine aS rfl ?_
    refine ⟨by simp (disch := omega) only [bV, bK, bQ, Tryz.f31, go_sem, eq_self, ↓reduceIte], by simp (disch := omega) only [aV, ↓reduceIte, eq_self], ?_, ?_⟩
    ·exact ids_slS _ _
    ·exact eD _ _ _
  ·skip
   rw [if_neg hk]
   refine aA rfl ?_
   refine bH (Γ := bC [(16, .pure true aheadG), (32, .heap (rdH fJ))]) 3 (take_pan) call45 (aH ok37 (aH ok45 aO)) rfl rfl rfl (fun Z hZ => ?_)
   simp (disch := omega) only [Tryz.f31, go_sem, Nat.reduceAdd, Int.reduceLE, Int.reduceToNat, ↓reduceIte, bG, eq_self, true_and, bP, List.map_cons, List.map_nil, List.append_nil, ea, Int.toNat_natCast, tak0n hk, List.take_succ_cons, List.take_zero]
   refine hZ _ ?_; clear hZ Z
   exact rfl
 ·cases hg
theorem tgt_pan : dE Tryz.prog GLh 31 chM (rdP tgtG) := tgt_both.2
theorem call44 : cJ Tryz.prog 31 := ⟨_, Tryz.func31, rfl, rfl⟩
theorem ok44 : bX Tryz.prog GLh 31 (.heap (rdH tgtG)) := ⟨⟨_, Tryz.func31, rfl, rfl⟩, tgt_both.1⟩
theorem spl1_0 (a x : AV) (r : List AV) : cK (a :: r) 0 [x] = x :: r := (rfl)
theorem spl1_s (a x : AV) (r : List AV) (k : Nat) : cK (a :: r) (k + 1) [x] = a :: cK r k [x] := (rfl)
theorem arr_0 {α : Type} (a : α) (r : List α) : (a :: r).toArray[0]? = some a := by simp
theorem arr_s {α : Type} (a : α) (r : List α) (k : Nat) : (a :: r).toArray[k + 1]? = r.toArray[k]? := by simp
theorem all_c {α : Type} (p : α → Bool) (a : α) (r : List α) : (a :: r).all p = (p a && r.all p) := (rfl)
theorem all_n {α : Type} (p : α → Bool) : List.all ([] : List α) p = true := (rfl)
theorem and_tt : (true && true) = true := (rfl)
theorem st4 (a b c d x y z u : AV) : dV [a, b, c, d] 0 [x, y, z, u] = [x, y, z, u] := (rfl)
theorem tk4 (x y z u : AV) : List.take 4 [x, y, z, u] = [x, y, z, u] := (rfl)
theorem ln4 (x y z u : AV) : [x, y, z, u].length = 4 := (rfl)
theorem ids_a4 (a b c d : AV) : AV.ids (.agg [a, b, c, d]) = max a.ids (max b.ids (max c.ids (max d.ids 0))) := (rfl)
attribute [go_sem] st4 tk4 ln4
attribute [go_sem] spl1_0 spl1_s arr_0 arr_s all_c all_n and_tt
def keyA (l : List B8) : AV := .agg [.w16 ((eK (l.take 2)).setWidth 16), .w8 (l.getD 2 0#8), .w8 (l.getD 3 0#8), .sl (l.length - 4) (c8 (l.drop 4))]
def gE (l : List B8) : Option (AV × List AV) := if 4 ≤ l.length then some (keyA l, [.sl l.length (c8 l), .i (l.length : Int)]) else none
def key1G : List AV → List AV → Option (Option (AV × List AV))
 | [.op _ 0], [.sl n xs, .i 0] => aK (cI xs) fun l => aN (l.length = n ∧ n ≤ 100000) (some (gE l))
 | _, _ => none
theorem key1G_eq (id n : Nat) (xs : List AV) : key1G [.op id 0] [.sl n xs, .i 0] = aK (cI xs) fun l => aN (l.length = n ∧ n ≤ 100000) (some (gE l)) := (rfl)
attribute [go_sem] key1G_eq
theorem num0 {l : List B8} {k : Nat} (h : k ≤ l.length) : numR l k 0 = some (.w32 (eK (l.take k)), [.sl l.length (c8 l), .i (k : Int)]) := by rw [numR_y (by omega), List.drop_zero, Nat.zero_add]
theorem num0n {l : List B8} {k : Nat} (h : ¬ k ≤ l.length) : numR l k 0 = none := fB (by omega)
theorem num1 {l : List B8} {a : Nat} (h : a < l.length) : numR l 1 a = some (.w32 ((l.getD a 0#8).setWidth 32), [.sl l.length (c8 l), .i ((a + 1 : Nat) : Int)]) := by rw [numR_y (by omega), get1 l a h]
theorem sw8 (x : B8) : (x.setWidth 32).setWidth 8 = x := by simp
set_option maxHeartbeats 4000000 in
theorem key1_both : cQ Tryz.prog GLh 42 (rdH key1G) ∧ dE Tryz.prog GLh 42 chM (rdP key1G) := by
 refine dT Tryz.func42 (aT rfl) ?_
 intro id off rest nx xs o hg
 unfold key1G at hg
 split at hg
 ·rename_i id2 n xs2 heq
  simp only [List.cons.injEq, AV.op.injEq] at heq
  obtain ⟨⟨rfl, rfl⟩, rfl⟩ := heq
  replace hg := aJ hg; obtain ⟨l, hl, hg⟩ := hg
  replace hg := aP hg; obtain ⟨⟨rfl, hnb⟩, hg⟩ := hg
  obtain rfl := Option.some.inj hg
  have := bW hl; subst this
  refine ⟨Nat.le_of_ble_eq_true rfl, fun hid => ?_⟩
  clear hl hg
  have hdl : (l.drop 4).length = l.length - 4 := List.length_drop ..
  unfold gE
  refine aA rfl ?_
  refine aC (Γ := aL) [0, 2] (aD _ _) rfl rfl rfl (fun K hK => ?_)
  simp (disch := omega) only [Tryz.f42, go_sem, ↓reduceIte]
  refine hK _ ?_
  refine aB ?_
  by_cases h2 : 2 ≤ l.length
  ·skip
   have n2 : numR l 2 0 = some (.w32 (eK (l.take 2)), [.sl l.length (c8 l), .i 2]) := num0 h2
   by_cases h3 : 3 ≤ l.length
   ·skip
    have n3 : numR l 1 2 = some (.w32 ((l.getD 2 0#8).setWidth 32), [.sl l.length (c8 l), .i 3]) := num1 (by omega)
    by_cases h4 : 4 ≤ l.length
    ·skip
     have n4 : numR l 1 3 = some (.w32 ((l.getD 3 0#8).setWidth 32), [.sl l.length (c8 l), .i 4]) := num1 (by omega)
     rw [if_pos h4]
     refine aA rfl ?_
     refine aC (Γ := bC [(43, .heap (rdH eN)), (44, .heap (rdH restG))]) [2] (aH fL (aH ok56 aO)) rfl rfl rfl (fun K hK => ?_)
     simp (disch := omega) only [Tryz.f42, go_sem, Nat.reduceAdd, Nat.reduceLeDiff, Int.reduceLE, Int.reduceToNat, ↓reduceIte, n2, n3, n4, restR_eq, sw8]
     refine hK _ ?_
     refine aB ?_
     unfold keyA
     refine aS rfl ?_
     refine ⟨by simp (disch := omega) only [bV, bK, bQ, Tryz.f42, go_sem, aV, eq_self, Nat.reduceAdd, Nat.reduceLeDiff, ↓reduceIte], by simp (disch := omega) only [aV, bY, ↓reduceIte, eq_self], ?_, ?_⟩
     ·rw [ids_a4, ids_sl]; rfl
     ·exact eD _ _ _
    ·skip
     rw [if_neg h4]
     refine aA rfl ?_
     refine bH (Γ := bC [(43, .heap (rdH eN)), (44, .heap (rdH restG))]) 7 (dK) eI (aH fL (aH ok56 aO)) rfl rfl rfl (fun Z hZ => ?_)
     simp (disch := omega) only [Tryz.f42, go_sem, Nat.reduceAdd, Int.reduceLE, Int.reduceToNat, ↓reduceIte, bG, eq_self, true_and, bP, List.map_cons, List.map_nil, List.append_nil, n2, n3, fB (l := l) (k := 1) (a := 3) (by omega), List.take_succ_cons, List.take_zero]
     refine hZ _ ?_; clear hZ Z
     exact rfl
   ·skip
    rw [if_neg (by omega)]
    refine aA rfl ?_
    refine bH (Γ := bC [(43, .heap (rdH eN)), (44, .heap (rdH restG))]) 4 (dK) eI (aH fL (aH ok56 aO)) rfl rfl rfl (fun Z hZ => ?_)
    simp (disch := omega) only [Tryz.f42, go_sem, Nat.reduceAdd, Int.reduceLE, Int.reduceToNat, ↓reduceIte, bG, eq_self, true_and, bP, List.map_cons, List.map_nil, List.append_nil, n2, fB (l := l) (k := 1) (a := 2) (by omega), List.take_succ_cons, List.take_zero]
    refine hZ _ ?_; clear hZ Z
    exact rfl
  ·skip
   rw [if_neg (by omega)]
   refine aA rfl ?_
   refine bH (Γ := bC [(43, .heap (rdH eN)), (44, .heap (rdH restG))]) 1 (dK) eI (aH fL (aH ok56 aO)) rfl rfl rfl (fun Z hZ => ?_)
   simp (disch := omega) only [Tryz.f42, go_sem, Nat.reduceAdd, Int.reduceLE, Int.reduceToNat, ↓reduceIte, bG, eq_self, true_and, bP, List.map_cons, List.map_nil, List.append_nil, num0n h2, List.take_succ_cons, List.take_zero]
   refine hZ _ ?_; clear hZ Z
   exact rfl
 ·cases hg
theorem key1_pan : dE Tryz.prog GLh 42 chM (rdP key1G) := key1_both.2
theorem call66 : cJ Tryz.prog 42 := ⟨_, Tryz.func42, rfl, rfl⟩
theorem ok66 : bX Tryz.prog GLh 42 (.heap (rdH key1G)) := ⟨⟨_, Tryz.func42, rfl, rfl⟩, key1_both.1⟩
end Go.AX
