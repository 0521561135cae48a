/-
  Data, part yE: a RRSIG's data read.
-/
import Derived.Test.YtndohkbppgmbjaaGreatCA
import Derived.Test.YtndohkbppgmbjaaGreatBH
namespace Go.AX
open Go Go.Proofs
theorem st9 (a0 a1 a2 a3 a4 a5 a6 a7 a8 b0 b1 b2 b3 b4 b5 b6 b7 b8 : AV) : dV [a0, a1, a2, a3, a4, a5, a6, a7, a8] 0 [b0, b1, b2, b3, b4, b5, b6, b7, b8] = [b0, b1, b2, b3, b4, b5, b6, b7, b8] := (rfl)
theorem tk9 (b0 b1 b2 b3 b4 b5 b6 b7 b8 : AV) : List.take 9 [b0, b1, b2, b3, b4, b5, b6, b7, b8] = [b0, b1, b2, b3, b4, b5, b6, b7, b8] := (rfl)
theorem ln9 (b0 b1 b2 b3 b4 b5 b6 b7 b8 : AV) : [b0, b1, b2, b3, b4, b5, b6, b7, b8].length = 9 := (rfl)
theorem st9_0 (a0 a1 a2 a3 a4 a5 a6 a7 a8 x : AV) : [a0, a1, a2, a3, a4, a5, a6, a7, a8].set 0 x = [x, a1, a2, a3, a4, a5, a6, a7, a8] := (rfl)
theorem st9_1 (a0 a1 a2 a3 a4 a5 a6 a7 a8 x : AV) : [a0, a1, a2, a3, a4, a5, a6, a7, a8].set 1 x = [a0, x, a2, a3, a4, a5, a6, a7, a8] := (rfl)
theorem st9_2 (a0 a1 a2 a3 a4 a5 a6 a7 a8 x : AV) : [a0, a1, a2, a3, a4, a5, a6, a7, a8].set 2 x = [a0, a1, x, a3, a4, a5, a6, a7, a8] := (rfl)
theorem st9_3 (a0 a1 a2 a3 a4 a5 a6 a7 a8 x : AV) : [a0, a1, a2, a3, a4, a5, a6, a7, a8].set 3 x = [a0, a1, a2, x, a4, a5, a6, a7, a8] := (rfl)
theorem st9_4 (a0 a1 a2 a3 a4 a5 a6 a7 a8 x : AV) : [a0, a1, a2, a3, a4, a5, a6, a7, a8].set 4 x = [a0, a1, a2, a3, x, a5, a6, a7, a8] := (rfl)
theorem st9_5 (a0 a1 a2 a3 a4 a5 a6 a7 a8 x : AV) : [a0, a1, a2, a3, a4, a5, a6, a7, a8].set 5 x = [a0, a1, a2, a3, a4, x, a6, a7, a8] := (rfl)
theorem st9_6 (a0 a1 a2 a3 a4 a5 a6 a7 a8 x : AV) : [a0, a1, a2, a3, a4, a5, a6, a7, a8].set 6 x = [a0, a1, a2, a3, a4, a5, x, a7, a8] := (rfl)
theorem st9_7 (a0 a1 a2 a3 a4 a5 a6 a7 a8 x : AV) : [a0, a1, a2, a3, a4, a5, a6, a7, a8].set 7 x = [a0, a1, a2, a3, a4, a5, a6, x, a8] := (rfl)
theorem st9_8 (a0 a1 a2 a3 a4 a5 a6 a7 a8 x : AV) : [a0, a1, a2, a3, a4, a5, a6, a7, a8].set 8 x = [a0, a1, a2, a3, a4, a5, a6, a7, x] := (rfl)
theorem ids_a9 (a0 a1 a2 a3 a4 a5 a6 a7 a8 : AV) : AV.ids (.agg [a0, a1, a2, a3, a4, a5, a6, a7, a8]) = max a0.ids (max a1.ids (max a2.ids (max a3.ids (max a4.ids (max a5.ids (max a6.ids (max a7.ids (max a8.ids 0)))))))) := (rfl)
attribute [go_sem] st9 tk9 ln9 st9_0 st9_1 st9_2 st9_3 st9_4 st9_5 st9_6 st9_7 st9_8
def is9 : Option AO → Bool
 | some (.cells [_, _, _, _, _, _, _, _, _] true) => true
 | _ => false
theorem is9_inv {o : Option AO} (h : is9 o = true) : ∃ x0 x1 x2 x3 x4 x5 x6 x7 x8, o = some (.cells [x0, x1, x2, x3, x4, x5, x6, x7, x8] true) := by
 unfold is9 at h
 split at h
 ·exact ⟨_, _, _, _, _, _, _, _, _, rfl⟩
 ·cases h
theorem is9_c (x0 x1 x2 x3 x4 x5 x6 x7 x8 : AV) : is9 (some (.cells [x0, x1, x2, x3, x4, x5, x6, x7, x8] true)) = true := (rfl)
attribute [go_sem] is9_c
def sigA (l : List B8) (n : Nm) (p : Nat) : AV := .agg [.w16 ((eK (l.take 2)).setWidth 16), .w8 (l.getD 2 0#8), .w8 (l.getD 3 0#8), .w32 (dX l 4), .w32 (dX l 8), .w32 (dX l 12), .w16 ((eK ((l.drop 16).take 2)).setWidth 16), .sl n.length (cS n), .sl (l.length - p) (c8 (l.drop p))]
def sig1S (l : List B8) : Option (Nm × Nat) → Option (AV × List AV)
 | none => none
 | some (n, s) => some (sigA l n (18 + s), [.sl l.length (c8 l), .i (l.length : Int)])
def eY (l : List B8) : Option (AV × List AV) := if 18 ≤ l.length then sig1S l (nmO (l.drop 18)) else none
def sig1G : List AV → List AV → Option (Option (AV × List AV))
 | [.op _ 0], [.sl n xs, .i 0] => aK (cI xs) fun l => aN (l.length = n ∧ n ≤ 100000) (some (eY l))
 | _, _ => none
theorem sig1G_eq (id n : Nat) (xs : List AV) : sig1G [.op id 0] [.sl n xs, .i 0] = aK (cI xs) fun l => aN (l.length = n ∧ n ≤ 100000) (some (eY l)) := (rfl)
attribute [go_sem] sig1G_eq
theorem rdsig_cases (l : List B8) : eY l = none ∨ ∃ (v1 : BitVec 16) (v2 v3 : B8) (v4 v5 v6 : BitVec 32) (v7 : BitVec 16) (v8 : Nm) (v9 : List B8) (p : Nat), eY l = some (.agg [.w16 v1, .w8 v2, .w8 v3, .w32 v4, .w32 v5, .w32 v6, .w16 v7, .sl v8.length (cS v8), .sl v9.length (c8 v9)], [.sl l.length (c8 l), .i (p : Int)]) := by
 unfold eY
 split
 ·rcases nmO (l.drop 18) with _ | ⟨n, s⟩
  ·exact .inl rfl
  ·exact .inr ⟨_, _, _, _, _, _, _, n, l.drop (18 + s), l.length, by simp only [sig1S, sigA, List.length_drop]; rfl⟩
 ·exact .inl rfl
set_option maxHeartbeats 8000000 in
theorem sig1_both : cQ Tryz.prog GLh 51 (rdH sig1G) ∧ dE Tryz.prog GLh 51 chM (rdP sig1G) := by
 refine dT Tryz.func51 (aT rfl) ?_
 intro id off rest nx xs o hg
 unfold sig1G at hg
 split at hg
 ·rename_i id2 n xs2 heq
  simp only [List.cons.injEq, AV.op.injEq] at heq
  obtain ⟨⟨rfl, rfl⟩, rfl⟩ := heq
  replace hg := aJ hg; obtain ⟨l, hl, hg⟩ := hg
  replace hg := aP hg; obtain ⟨⟨rfl, hnb⟩, hg⟩ := hg
  obtain rfl := Option.some.inj hg
  have := bW hl; subst this
  refine ⟨Nat.le_of_ble_eq_true rfl, fun hid => ?_⟩
  clear hl hg
  obtain ⟨ans, hans⟩ : ∃ a, eY l = a := ⟨_, rfl⟩
  rw [hans]
  unfold eY at hans
  refine aA rfl ?_
  refine aC (Γ := aL) [0, 2] (aD _ _) rfl rfl rfl (fun K hK => ?_)
  simp (disch := omega) only [Tryz.f51, go_sem, ↓reduceIte]
  refine hK _ ?_
  refine aB ?_
  by_cases q2 : 2 ≤ l.length
  ·skip
   have n0 : numR l 2 0 = some (.w32 (eK (l.take 2)), [.sl l.length (c8 l), .i 2]) := num0 (by omega)
   by_cases q3 : 3 ≤ l.length
   ·skip
    have n2 : numR l 1 2 = some (.w32 ((l.getD 2 0#8).setWidth 32), [.sl l.length (c8 l), .i 3]) := num1 (by omega)
    by_cases q4 : 4 ≤ l.length
    ·skip
     have n3 : numR l 1 3 = some (.w32 ((l.getD 3 0#8).setWidth 32), [.sl l.length (c8 l), .i 4]) := num1 (by omega)
     refine aA rfl ?_
     refine aC (Γ := bC [(43, .heap (rdH eN))]) [0, 2, 3] (aH fL aO) rfl rfl rfl (fun K hK => ?_)
     simp (disch := omega) only [Tryz.f51, go_sem, Nat.reduceAdd, Nat.reduceLeDiff, Int.reduceLE, Int.reduceToNat, ↓reduceIte, n0, n2, n3, sw8]
     refine hK _ ?_
     refine aB ?_
     by_cases q8 : 8 ≤ l.length
     ·skip
      have n4 : numR l 4 4 = some (.w32 (dX l 4), [.sl l.length (c8 l), .i 8]) := num4_y (by omega)
      by_cases q12 : 12 ≤ l.length
      ·skip
       have n8 : numR l 4 8 = some (.w32 (dX l 8), [.sl l.length (c8 l), .i 12]) := num4_y (by omega)
       by_cases q16 : 16 ≤ l.length
       ·skip
        have n12 : numR l 4 12 = some (.w32 (dX l 12), [.sl l.length (c8 l), .i 16]) := num4_y (by omega)
        refine aA rfl ?_
        refine aC (Γ := bC [(43, .heap (rdH eN))]) [0, 2, 3] (aH fL aO) rfl rfl rfl (fun K hK => ?_)
        simp (disch := omega) only [Tryz.f51, go_sem, Nat.reduceAdd, Nat.reduceLeDiff, Nat.reduceLT, Int.reduceLE, Int.reduceToNat, ↓reduceIte, n4, n8, n12]
        refine hK _ ?_
        refine aB ?_
        by_cases q18 : 18 ≤ l.length
        ·skip
         have n16 : numR l 2 16 = some (.w32 (eK ((l.drop 16).take 2)), [.sl l.length (c8 l), .i 18]) := numR_y (by omega)
         rw [if_pos q18] at hans
         rcases h1 : nmO (l.drop 18) with _ | ⟨n, s⟩
         ·skip
          rw [h1] at hans; subst hans
          refine aA rfl ?_
          refine bH (Γ := bC [(43, .heap (rdH eN)), (33, .heap (rdH gD)), (44, .heap (rdH restG))]) 4 (name_pan) call46 (aH fL (aH ok46 (aH ok56 aO))) rfl rfl rfl (fun Z hZ => ?_)
          simp (disch := omega) only [Tryz.f51, go_sem, Nat.reduceAdd, Int.reduceLE, Int.reduceToNat, ↓reduceIte, bG, eq_self, true_and, bP, List.map_cons, List.map_nil, List.append_nil, n16, nameR_n (l := l) (a := 18) h1, List.take_succ_cons, List.take_zero]
          refine hZ _ ?_; clear hZ Z
          exact rfl
         ·skip
          have e1 := nameR_s (l := l) (a := 18) h1
          have hs := nmO_le h1
          rw [List.length_drop] at hs
          rw [h1] at hans; subst hans
          have hdl : (l.drop (18 + s)).length = l.length - (18 + s) := List.length_drop ..
          refine aA rfl ?_
          refine aC (Γ := bC [(43, .heap (rdH eN)), (33, .heap (rdH gD)), (44, .heap (rdH restG))]) [2, 3] (aH fL (aH ok46 (aH ok56 aO))) rfl rfl rfl (fun K hK => ?_)
          simp (disch := omega) only [Tryz.f51, go_sem, Nat.reduceAdd, Nat.reduceLeDiff, Nat.reduceLT, Int.reduceLE, Int.reduceToNat, ↓reduceIte, n16, e1, Int.toNat_natCast, restR_eq]
          refine hK _ ?_
          refine aB ?_
          unfold sig1S sigA
          refine aA rfl ?_
          refine aC (Γ := aL) [2] (aD _ _) rfl rfl rfl (fun K hK => ?_)
          simp (disch := omega) only [Tryz.f51, go_sem, Nat.reduceAdd, Nat.reduceLeDiff, ↓reduceIte]
          refine hK _ ?_
          refine aB ?_
          refine aS rfl ?_
          refine ⟨by simp (disch := omega) only [bV, bK, bQ, Tryz.f51, go_sem, aV, eq_self, Nat.reduceAdd, Nat.reduceLeDiff, ↓reduceIte], by simp (disch := omega) only [aV, bY, ↓reduceIte, eq_self], ?_, ?_⟩
          ·simp only [ids_a9, ids_slS, ids_sl]; rfl
          ·exact eD _ _ _
        ·skip
         rw [if_neg (by omega)] at hans; subst hans
         refine aA rfl ?_
         refine bH (Γ := bC [(43, .heap (rdH eN)), (33, .heap (rdH gD)), (44, .heap (rdH restG))]) 1 (dK) eI (aH fL (aH ok46 (aH ok56 aO))) rfl rfl rfl (fun Z hZ => ?_)
         simp (disch := omega) only [Tryz.f51, go_sem, Nat.reduceAdd, Int.reduceLE, Int.reduceToNat, ↓reduceIte, bG, eq_self, true_and, bP, List.map_cons, List.map_nil, List.append_nil, fB (l := l) (k := 2) (a := 16) (by omega), List.take_succ_cons, List.take_zero]
         refine hZ _ ?_; clear hZ Z
         exact rfl
       ·skip
        rw [if_neg (by omega)] at hans; subst hans
        refine aA rfl ?_
        refine bH (Γ := bC [(43, .heap (rdH eN))]) 5 (dK) eI (aH fL aO) rfl rfl rfl (fun Z hZ => ?_)
        simp (disch := omega) only [Tryz.f51, go_sem, Nat.reduceAdd, Int.reduceLE, Int.reduceToNat, ↓reduceIte, bG, eq_self, true_and, bP, List.map_cons, List.map_nil, List.append_nil, n4, n8, fB (l := l) (k := 4) (a := 12) (by omega), List.take_succ_cons, List.take_zero]
        refine hZ _ ?_; clear hZ Z
        exact rfl
      ·skip
       rw [if_neg (by omega)] at hans; subst hans
       refine aA rfl ?_
       refine bH (Γ := bC [(43, .heap (rdH eN))]) 3 (dK) eI (aH fL aO) rfl rfl rfl (fun Z hZ => ?_)
       simp (disch := omega) only [Tryz.f51, go_sem, Nat.reduceAdd, Int.reduceLE, Int.reduceToNat, ↓reduceIte, bG, eq_self, true_and, bP, List.map_cons, List.map_nil, List.append_nil, n4, fB (l := l) (k := 4) (a := 8) (by omega), List.take_succ_cons, List.take_zero]
       refine hZ _ ?_; clear hZ Z
       exact rfl
     ·skip
      rw [if_neg (by omega)] at hans; subst hans
      refine aA rfl ?_
      refine bH (Γ := bC [(43, .heap (rdH eN))]) 1 (dK) eI (aH fL aO) rfl rfl rfl (fun Z hZ => ?_)
      simp (disch := omega) only [Tryz.f51, go_sem, Nat.reduceAdd, Int.reduceLE, Int.reduceToNat, ↓reduceIte, bG, eq_self, true_and, bP, List.map_cons, List.map_nil, List.append_nil, fB (l := l) (k := 4) (a := 4) (by omega), List.take_succ_cons, List.take_zero]
      refine hZ _ ?_; clear hZ Z
      exact rfl
    ·skip
     rw [if_neg (by omega)] at hans; subst hans
     refine aA rfl ?_
     refine bH (Γ := bC [(43, .heap (rdH eN))]) 7 (dK) eI (aH fL aO) rfl rfl rfl (fun Z hZ => ?_)
     simp (disch := omega) only [Tryz.f51, go_sem, Nat.reduceAdd, Int.reduceLE, Int.reduceToNat, ↓reduceIte, bG, eq_self, true_and, bP, List.map_cons, List.map_nil, List.append_nil, n0, n2, fB (l := l) (k := 1) (a := 3) (by omega), sw8, List.take_succ_cons, List.take_zero]
     refine hZ _ ?_; clear hZ Z
     exact rfl
   ·skip
    rw [if_neg (by omega)] at hans; subst hans
    refine aA rfl ?_
    refine bH (Γ := bC [(43, .heap (rdH eN))]) 4 (dK) eI (aH fL aO) rfl rfl rfl (fun Z hZ => ?_)
    simp (disch := omega) only [Tryz.f51, go_sem, Nat.reduceAdd, Int.reduceLE, Int.reduceToNat, ↓reduceIte, bG, eq_self, true_and, bP, List.map_cons, List.map_nil, List.append_nil, n0, fB (l := l) (k := 1) (a := 2) (by omega), List.take_succ_cons, List.take_zero]
    refine hZ _ ?_; clear hZ Z
    exact rfl
  ·skip
   rw [if_neg (by omega)] at hans; subst hans
   refine aA rfl ?_
   refine bH (Γ := bC [(43, .heap (rdH eN))]) 1 (dK) eI (aH fL aO) rfl rfl rfl (fun Z hZ => ?_)
   simp (disch := omega) only [Tryz.f51, go_sem, Nat.reduceAdd, Int.reduceLE, Int.reduceToNat, ↓reduceIte, bG, eq_self, true_and, bP, List.map_cons, List.map_nil, List.append_nil, fB (l := l) (k := 2) (a := 0) (by omega), List.take_succ_cons, List.take_zero]
   refine hZ _ ?_; clear hZ Z
   exact rfl
 ·cases hg
theorem sig1_pan : dE Tryz.prog GLh 51 chM (rdP sig1G) := sig1_both.2
theorem call55 : cJ Tryz.prog 51 := ⟨_, Tryz.func51, rfl, rfl⟩
theorem ok55 : bX Tryz.prog GLh 51 (.heap (rdH sig1G)) := ⟨⟨_, Tryz.func51, rfl, rfl⟩, sig1_both.1⟩
theorem idle74 (vals : Array Value) (w : World) (hs : vals.size = 2) : CallsD Tryz.prog 68 vals .returning w fun e u1 w' => e = .returned (.tuple #[]) ∧ u1 = .returning ∧ w' = w := by
 obtain ⟨l⟩ := vals
 match l, hs with
 | [a, b], _ =>
  refine callsD_of_wpS Tryz.func68 rfl fun c₀ cs hu => ?_
  apply wpS_seq
  apply wpS_region
  simp [wpOpsS, go_sem, recoverD, hu, Tryz.ntmps68, Exit.thenS]
  apply wpS_seq
  apply wpS_region
  simp [wpOpsS, go_sem, Exit.thenS]
  refine wpS_cond (t := false) (by simp [Act.eval, Array.replicate]) ?_
  simp only [Bool.false_eq_true, if_false]
  refine wpS_of_wp (wp_skip ?_)
  cases c₀
  simp_all [bodyPostS, results, Tryz.results68]
theorem c74_i : DefOK Tryz.prog GLh 68 .returning .returning (fD 2) := d_idle idle74
theorem call74 : cJ Tryz.prog 68 := ⟨_, Tryz.func68, rfl, rfl⟩
def c74P : List AV → H → Nat → Option (H × Nat)
 | [.op i1 0, .op i2 0], hp, nx => aN ((is9 (hp i1) = true ∧ eS (hp i2) = true) ∧ i1 ≠ i2 ∧ i1 < nx ∧ i2 < nx) (some (upd (upd hp i1 (.cells [.w16 0#16, .w8 0#8, .w8 0#8, .w32 0#32, .w32 0#32, .w32 0#32, .w16 0#16, .v (.slice none 0 0), .v (.slice none 0 0)] true)) i2 (.cells [.i 50] true), nx + 30))
 | _, _, _ => none
theorem c74P_eq (i1 i2 nx : Nat) (hp : H) : c74P [.op i1 0, .op i2 0] hp nx = aN ((is9 (hp i1) = true ∧ eS (hp i2) = true) ∧ i1 ≠ i2 ∧ i1 < nx ∧ i2 < nx) (some (upd (upd hp i1 (.cells [.w16 0#16, .w8 0#8, .w8 0#8, .w32 0#32, .w32 0#32, .w32 0#32, .w16 0#16, .v (.slice none 0 0), .v (.slice none 0 0)] true)) i2 (.cells [.i 50] true), nx + 30)) := (rfl)
attribute [go_sem] c74P_eq
set_option maxHeartbeats 4000000 in
theorem c74_pan : DefOK Tryz.prog GLh 68 (.panicking chM) (.panicking [{ v := .iface 100 (.agg #[]), recovered := true }]) c74P := by
 refine fZ (rest := (cr (aE Tryz.f68))) (rv := .iface 100 (.agg #[])) (a := 6) (b := 2) Tryz.func68 rfl (.inl rfl) ⟨Nat.le_of_ble_eq_true rfl, Nat.le_of_ble_eq_true rfl⟩ ?_
 intro args hp nx hp' nx' hg
 unfold c74P at hg
 split at hg
 ·rename_i i1 i2
  replace hg := aP hg; obtain ⟨⟨⟨o1, o2⟩, n12, l1, l2⟩, hg⟩ := hg
  simp only [Option.some.injEq, Prod.mk.injEq] at hg; obtain ⟨rfl, rfl⟩ := hg
  obtain ⟨x0, x1, x2, x3, x4, x5, x6, x7, x8, h1⟩ := is9_inv o1
  obtain ⟨y, h2⟩ := eG o2
  refine ⟨Nat.le_of_ble_eq_true rfl, Nat.le_add_right _ _, fun hno => ?_⟩
  simp only [frOf]
  refine aA rfl ?_
  refine aC (Γ := aL) [8, 0, 1, 2] (aD _ _) rfl rfl rfl (fun K hK => ?_)
  simp (disch := omega) only [Tryz.f68, go_sem, Nat.reduceAdd, ↓reduceIte]
  refine hK _ ?_
  refine aB ?_
  refine bA (.tmp 8) rfl rfl rfl (fun h => ?_) (fun h => ?_)
  ·skip
   refine aI rfl ?_
   refine aA rfl ?_
   refine aA rfl ?_
   refine aC (Γ := aL) [0, 1, 2, 4] (aD _ _) rfl rfl rfl (fun K hK => ?_)
   simp (disch := omega) only [Tryz.f68, go_sem, Nat.reduceAdd, Nat.reduceLeDiff, ↓reduceIte]
   refine hK _ ?_
   refine aB ?_
   refine aA rfl ?_
   refine aC (Γ := aL) [15, 0, 1, 2] (aD _ _) rfl rfl rfl (fun K hK => ?_)
   simp (disch := omega) only [Tryz.f68, go_sem, Nat.reduceAdd, ↓reduceIte]
   refine hK _ ?_
   refine aB ?_
   refine bA (.tmp 15) rfl rfl rfl (fun h => ?_) (fun h => ?_)
   ·skip
    refine aI rfl ?_
    cases h
   ·skip
    refine aI rfl ?_
    clear h
    refine aQ rfl ?_
    refine aB ?_
    refine aA rfl ?_
    refine aC (Γ := aL) [0, 1, 5] (aD _ _) rfl rfl rfl (fun K hK => ?_)
    simp (disch := omega) only [Tryz.f68, go_sem, ↓reduceIte]
    refine hK _ ?_
    refine aB ?_
    refine aC (Γ := aL) [] (aD _ _) rfl rfl rfl (fun K hK => ?_)
    simp (disch := omega) only [Tryz.f68, go_sem, Nat.reduceAdd, Nat.reduceLeDiff, ↓reduceIte, h1, h2]
    refine hK _ ?_
    exact ⟨rfl, upd2b_sub hno (by omega) (by omega), by simp only; omega⟩
  ·skip
   refine aI rfl ?_
   cases h
 ·cases hg
def rdsigG : List AV → Option AV
 | [.sl n xs, .fn 51 []] => aK (cI xs) fun l => aN (l.length = n ∧ n ≤ 100000) (some (rdT (.agg [.w16 0#16, .w8 0#8, .w8 0#8, .w32 0#32, .w32 0#32, .w32 0#32, .w16 0#16, .sl 0 [], .sl 0 []]) l.length (eY l)))
 | _ => none
theorem rdsigG_eq (n : Nat) (xs : List AV) : rdsigG [.sl n xs, .fn 51 []] = aK (cI xs) fun l => aN (l.length = n ∧ n ≤ 100000) (some (rdT (.agg [.w16 0#16, .w8 0#8, .w8 0#8, .w32 0#32, .w32 0#32, .w32 0#32, .w16 0#16, .sl 0 [], .sl 0 []]) l.length (eY l))) := (rfl)
attribute [go_sem] rdsigG_eq
set_option maxHeartbeats 4000000 in
theorem rdsig_ok : cL Tryz.prog GLh 50 rdsigG := by
 refine pure_def (r0 := (cl (aE Tryz.f50))) (C := (cr (cr (aE Tryz.f50)))) (k := 7) (d := 68) (caps := #[.tmp 4, .tmp 5]) Tryz.func50 rfl (Nat.le_of_ble_eq_true rfl) call74 c74_i c74_pan rfl ?_
 intro args r hg
 unfold rdsigG at hg
 split at hg
 ·rename_i n xs
  replace hg := aJ hg; obtain ⟨l, hl, hg⟩ := hg
  replace hg := aP hg; obtain ⟨⟨rfl, hnb⟩, hg⟩ := hg
  obtain rfl := Option.some.inj hg
  have := bW hl; subst this
  refine ⟨Nat.le_of_ble_eq_true rfl, fun nx => ⟨[.op nx 0, .op (nx + 1) 0], ?_⟩⟩
  clear hl hg
  have hcs := rdsig_cases l
  refine aC (Γ := aL) [0, 1, 4, 5] (aD _ _) rfl rfl rfl (fun K hK => ?_)
  simp (disch := omega) only [Tryz.f50, go_sem, Nat.reduceAdd, ↓reduceIte]
  refine hK _ ?_
  refine ⟨rfl, ?_⟩
  simp only [defS]
  refine aA rfl ?_
  refine aC (Γ := aL) [0, 1, 4, 5, 6] (aD _ _) rfl rfl rfl (fun K hK => ?_)
  simp (disch := omega) only [Tryz.f50, go_sem, Nat.reduceAdd, Nat.reduceLeDiff, ↓reduceIte]
  refine hK _ ?_
  refine aB ?_
  rcases hcs with e2 | ⟨v1, v2, v3, v4, v5, v6, v7, v8, v9, p, e2⟩
  ·skip
   refine aA rfl ?_
   refine bH (Γ := aL) 2 (sig1_pan) call55 (aD _ _) rfl rfl rfl (fun Z hZ => ?_)
   simp (disch := omega) only [Tryz.f50, go_sem, Nat.reduceAdd, ↓reduceIte, bG, eq_self, true_and, bP, List.map_cons, List.map_nil, List.append_nil, e2, List.take_succ_cons, List.take_zero]
   refine hZ _ ?_; clear hZ Z
   refine hX (gI := fD 2) (p := _) (by simp (disch := omega) only [go_sem, aV, de_app, bY, ↓reduceIte]; rfl) ?_
   rw [e2, rdT_n]
   simp (disch := omega) only [bV, bK, bQ, Tryz.f50, go_sem, aV, bY, ↓reduceIte]
  ·skip
   refine aA rfl ?_
   refine aC (Γ := bC [(51, .heap (rdH sig1G))]) [0, 4, 5, 6] (aH ok55 aO) rfl rfl rfl (fun K hK => ?_)
   simp (disch := omega) only [Tryz.f50, go_sem, Nat.reduceAdd, Nat.reduceLeDiff, ↓reduceIte, e2]
   refine hK _ ?_
   refine aB ?_
   by_cases hp : (p : Int) = (l.length : Int)
   ·skip
    have hd : decide ((p : Int) = (l.length : Int)) = true := decide_eq_true hp
    refine aA rfl ?_
    refine aC (Γ := bC [(56, .pure true eM)]) [4, 5] (aH ok60 aO) rfl rfl rfl (fun K hK => ?_)
    simp (disch := omega) only [Tryz.f50, go_sem, Nat.reduceAdd, Nat.reduceLT, ↓reduceIte, hd]
    refine hK _ ?_
    refine aB ?_
    refine aA rfl ?_
    refine aC (Γ := aL) [4, 5] (aD _ _) rfl rfl rfl (fun K hK => ?_)
    simp (disch := omega) only [Tryz.f50, go_sem, Nat.reduceAdd, Nat.reduceLeDiff, ↓reduceIte]
    refine hK _ ?_
    refine aB ?_
    refine aS rfl ?_
    refine defQ_ret (gP := c74P) (ch := chM) (p := _) (idleG_2 _ _ _ _) ?_
    rw [e2, fO _ _ _ hp]
    simp (disch := omega) only [bV, bK, bQ, Tryz.f50, go_sem, aV, bY, ↓reduceIte]
   ·skip
    have hd : decide ((p : Int) = (l.length : Int)) = false := decide_eq_false hp
    refine aA rfl ?_
    refine bH (Γ := bC [(56, .pure true eM)]) 7 (fC) call60 (aH ok60 aO) rfl rfl rfl (fun Z hZ => ?_)
    simp (disch := omega) only [Tryz.f50, go_sem, Nat.reduceAdd, Nat.reduceLT, ↓reduceIte, bG, eq_self, true_and, bP, List.map_cons, List.map_nil, List.append_nil, hd, List.take_succ_cons, List.take_zero]
    refine hZ _ ?_; clear hZ Z
    refine hX (gI := fD 2) (p := _) (by simp (disch := omega) only [go_sem, aV, bY, ↓reduceIte]; rfl) ?_
    rw [e2, iD _ _ _ hp]
    simp (disch := omega) only [bV, bK, bQ, Tryz.f50, go_sem, aV, bY, ↓reduceIte]
 ·cases hg
theorem ids_rdsig (l : List B8) : AV.ids (rdT (.agg [.w16 0#16, .w8 0#8, .w8 0#8, .w32 0#32, .w32 0#32, .w32 0#32, .w16 0#16, .sl 0 [], .sl 0 []]) l.length (eY l)) = 0 := by
 rcases rdsig_cases l with e2 | ⟨v1, v2, v3, v4, v5, v6, v7, v8, v9, p, e2⟩
 ·rw [e2]; rfl
 ·rw [e2]
  by_cases hp : (p : Int) = (l.length : Int)
  ·rw [fO _ _ _ hp]; simp only [ids_a9, ids_t2, ids_sl, ids_slS]; rfl
  ·rw [iD _ _ _ hp]; rfl
theorem ok54 : bX Tryz.prog GLh 50 (.pure false rdsigG) := ⟨⟨_, Tryz.func50, rfl, rfl⟩, rdsig_ok⟩
end Go.AX
