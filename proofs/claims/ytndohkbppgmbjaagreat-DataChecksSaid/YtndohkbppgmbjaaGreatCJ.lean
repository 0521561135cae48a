/-
  Data, part yF: a NSEC3's data read. Data, part yG: Sig, Chain, Check of every type.
-/
import Derived.Test.YtndohkbppgmbjaaGreatCI
import Derived.Test.YtndohkbppgmbjaaGreatCB
import Derived.Test.YtndohkbppgmbjaaGreatBH
namespace Go.AX
open Go Go.Proofs
theorem st6 (a0 a1 a2 a3 a4 a5 b0 b1 b2 b3 b4 b5 : AV) : dV [a0, a1, a2, a3, a4, a5] 0 [b0, b1, b2, b3, b4, b5] = [b0, b1, b2, b3, b4, b5] := (rfl)
theorem tk6 (b0 b1 b2 b3 b4 b5 : AV) : List.take 6 [b0, b1, b2, b3, b4, b5] = [b0, b1, b2, b3, b4, b5] := (rfl)
theorem ln6 (b0 b1 b2 b3 b4 b5 : AV) : [b0, b1, b2, b3, b4, b5].length = 6 := (rfl)
theorem st6_0 (a0 a1 a2 a3 a4 a5 x : AV) : [a0, a1, a2, a3, a4, a5].set 0 x = [x, a1, a2, a3, a4, a5] := (rfl)
theorem st6_1 (a0 a1 a2 a3 a4 a5 x : AV) : [a0, a1, a2, a3, a4, a5].set 1 x = [a0, x, a2, a3, a4, a5] := (rfl)
theorem st6_2 (a0 a1 a2 a3 a4 a5 x : AV) : [a0, a1, a2, a3, a4, a5].set 2 x = [a0, a1, x, a3, a4, a5] := (rfl)
theorem st6_3 (a0 a1 a2 a3 a4 a5 x : AV) : [a0, a1, a2, a3, a4, a5].set 3 x = [a0, a1, a2, x, a4, a5] := (rfl)
theorem st6_4 (a0 a1 a2 a3 a4 a5 x : AV) : [a0, a1, a2, a3, a4, a5].set 4 x = [a0, a1, a2, a3, x, a5] := (rfl)
theorem st6_5 (a0 a1 a2 a3 a4 a5 x : AV) : [a0, a1, a2, a3, a4, a5].set 5 x = [a0, a1, a2, a3, a4, x] := (rfl)
theorem ids_a6 (a0 a1 a2 a3 a4 a5 : AV) : AV.ids (.agg [a0, a1, a2, a3, a4, a5]) = max a0.ids (max a1.ids (max a2.ids (max a3.ids (max a4.ids (max a5.ids 0))))) := (rfl)
attribute [go_sem] st6 tk6 ln6 st6_0 st6_1 st6_2 st6_3 st6_4 st6_5
def is6 : Option AO → Bool
 | some (.cells [_, _, _, _, _, _] true) => true
 | _ => false
theorem is6_inv {o : Option AO} (h : is6 o = true) : ∃ x0 x1 x2 x3 x4 x5, o = some (.cells [x0, x1, x2, x3, x4, x5] true) := by
 unfold is6 at h
 split at h
 ·exact ⟨_, _, _, _, _, _, rfl⟩
 ·cases h
theorem is6_c (x0 x1 x2 x3 x4 x5 : AV) : is6 (some (.cells [x0, x1, x2, x3, x4, x5] true)) = true := (rfl)
attribute [go_sem] is6_c
theorem ids_c16 (l : List T16) : AV.ids.idsL (c16 l) = 0 := by
 induction l with
 | nil => rfl
 | cons x l ih => show max (AV.ids (.w16 x)) (AV.ids.idsL (c16 l)) = 0; rw [ih]; rfl
theorem ids_sl16 (n : Nat) (l : List T16) : AV.ids (.sl n (c16 l)) = 0 := ids_c16 l
def txD (l : List B8) (a : Nat) : List B8 := (l.drop (a + 1)).take (l.getD a 0#8).toNat
theorem textR_s {l : List B8} {a p : Nat} (h : txE l a = some p) : a < p ∧ p ≤ l.length ∧ p = a + 1 + (txD l a).length ∧ textR l a = some (.sl (txD l a).length (c8 (txD l a)), [.sl l.length (c8 l), .i (p : Int)]) := by
 unfold txE at h
 split at h
 ·rename_i hc
  obtain rfl := Option.some.inj h
  have hl : (txD l a).length = (l.getD a 0#8).toNat := by unfold txD; rw [List.length_take, List.length_drop]; omega
  refine ⟨by omega, by omega, by omega, ?_⟩
  unfold textR
  rw [if_pos hc, hl]; rfl
 ·cases h
theorem textR_n {l : List B8} {a : Nat} (h : txE l a = none) : textR l a = none := by
 rcases textR_E l a with ⟨_, h2⟩ | ⟨p, d, h2, _⟩
 ·exact h2
 ·rw [h] at h2; cases h2
def chnA (l : List B8) (p1 : Nat) (ty : List T16) : AV := .agg [.w8 (l.getD 0 0#8), .w8 (l.getD 1 0#8), .w16 ((eK ((l.drop 2).take 2)).setWidth 16), .sl (txD l 4).length (c8 (txD l 4)), .sl (txD l p1).length (c8 (txD l p1)), .sl ty.length (c16 ty)]
def bmO (b : List B8) : Option (List T16) := opR (b.length + 1) (-1) b
def chn3 (l : List B8) (p1 : Nat) : Option (List T16) → Option (AV × List AV)
 | none => none
 | some ty => some (chnA l p1 ty, [.sl l.length (c8 l), .i (l.length : Int)])
def chn2 (l : List B8) (p1 : Nat) : Option Nat → Option (AV × List AV)
 | none => none
 | some p2 => if 0 < (txD l p1).length then chn3 l p1 (bmO (l.drop p2)) else none
def chn1 (l : List B8) : Option Nat → Option (AV × List AV)
 | none => none
 | some p1 => chn2 l p1 (txE l p1)
def gW (l : List B8) : Option (AV × List AV) := if 4 ≤ l.length then chn1 l (txE l 4) else none
def chn1G : List AV → List AV → Option (Option (AV × List AV))
 | [.op _ 0], [.sl n xs, .i 0] => aK (cI xs) fun l => aN (l.length = n ∧ n ≤ 100000) (some (gW l))
 | _, _ => none
theorem chn1G_eq (id n : Nat) (xs : List AV) : chn1G [.op id 0] [.sl n xs, .i 0] = aK (cI xs) fun l => aN (l.length = n ∧ n ≤ 100000) (some (gW l)) := (rfl)
attribute [go_sem] chn1G_eq
theorem rdchn_cases (l : List B8) : gW l = none ∨ ∃ (v1 v2 : B8) (v3 : BitVec 16) (v4 v5 : List B8) (v6 : List T16) (p : Nat), gW l = some (.agg [.w8 v1, .w8 v2, .w16 v3, .sl v4.length (c8 v4), .sl v5.length (c8 v5), .sl v6.length (c16 v6)], [.sl l.length (c8 l), .i (p : Int)]) := by
 unfold gW
 split
 ·rcases txE l 4 with _ | p1
  ·exact .inl rfl
  ·simp only [chn1]
   rcases txE l p1 with _ | p2
   ·exact .inl rfl
   ·simp only [chn2]
    split
    ·rcases bmO (l.drop p2) with _ | ty
     ·exact .inl rfl
     ·exact .inr ⟨_, _, _, _, _, _, _, rfl⟩
    ·exact .inl rfl
 ·exact .inl rfl
set_option maxHeartbeats 8000000 in
theorem chn1_both : cQ Tryz.prog GLh 59 (rdH chn1G) ∧ dE Tryz.prog GLh 59 chM (rdP chn1G) := by
 refine dT Tryz.func59 (aT rfl) ?_
 intro id off rest nx xs o hg
 unfold chn1G at hg
 split at hg
 ·rename_i id2 n xs2 heq
  simp only [List.cons.injEq, AV.op.injEq] at heq
  obtain ⟨⟨rfl, rfl⟩, rfl⟩ := heq
  replace hg := aJ hg; obtain ⟨l, hl, hg⟩ := hg
  replace hg := aP hg; obtain ⟨⟨rfl, hnb⟩, hg⟩ := hg
  obtain rfl := Option.some.inj hg
  have := bW hl; subst this
  refine ⟨Nat.le_of_ble_eq_true rfl, fun hid => ?_⟩
  clear hl hg
  obtain ⟨ans, hans⟩ : ∃ a, gW l = a := ⟨_, rfl⟩
  rw [hans]
  unfold gW at hans
  refine aA rfl ?_
  refine aC (Γ := aL) [0, 2] (aD _ _) rfl rfl rfl (fun K hK => ?_)
  simp (disch := omega) only [Tryz.f59, go_sem, ↓reduceIte]
  refine hK _ ?_
  refine aB ?_
  by_cases q1 : 1 ≤ l.length
  ·skip
   have n0 : numR l 1 0 = some (.w32 ((l.getD 0 0#8).setWidth 32), [.sl l.length (c8 l), .i 1]) := num1 (by omega)
   by_cases q2 : 2 ≤ l.length
   ·skip
    have n1 : numR l 1 1 = some (.w32 ((l.getD 1 0#8).setWidth 32), [.sl l.length (c8 l), .i 2]) := num1 (by omega)
    by_cases q4 : 4 ≤ l.length
    ·skip
     have n2 : numR l 2 2 = some (.w32 (eK ((l.drop 2).take 2)), [.sl l.length (c8 l), .i 4]) := numR_y (by omega)
     rw [if_pos q4] at hans
     rcases t1 : txE l 4 with _ | p1
     ·skip
      rw [t1] at hans; subst hans
      refine aA rfl ?_
      refine bH (Γ := bC [(43, .heap (rdH eN)), (60, .heap (rdH textG))]) 10 (text_pan) call59 (aH fL (aH ok59 aO)) rfl rfl rfl (fun Z hZ => ?_)
      simp (disch := omega) only [Tryz.f59, go_sem, Nat.reduceAdd, Int.reduceLE, Int.reduceToNat, ↓reduceIte, bG, eq_self, true_and, bP, List.map_cons, List.map_nil, List.append_nil, n0, n1, n2, sw8, textR_n t1, List.take_succ_cons, List.take_zero]
      refine hZ _ ?_; clear hZ Z
      exact rfl
     ·skip
      obtain ⟨a1, a2, a3, a4⟩ := textR_s t1
      rw [t1] at hans
      simp only [chn1] at hans
      rcases t2 : txE l p1 with _ | p2
      ·skip
       rw [t2] at hans; subst hans
       refine aA rfl ?_
       refine bH (Γ := bC [(43, .heap (rdH eN)), (60, .heap (rdH textG))]) 12 (text_pan) call59 (aH fL (aH ok59 aO)) rfl rfl rfl (fun Z hZ => ?_)
       simp (disch := omega) only [Tryz.f59, go_sem, Nat.reduceAdd, Int.reduceLE, Int.reduceToNat, ↓reduceIte, bG, eq_self, true_and, bP, List.map_cons, List.map_nil, List.append_nil, n0, n1, n2, sw8, a4, Int.toNat_natCast, textR_n t2, List.take_succ_cons, List.take_zero]
       refine hZ _ ?_; clear hZ Z
       exact rfl
      ·skip
       obtain ⟨b1, b2', b3, b4⟩ := textR_s t2
       rw [t2] at hans
       simp only [chn2] at hans
       refine aA rfl ?_
       refine aC (Γ := bC [(43, .heap (rdH eN)), (60, .heap (rdH textG))]) [0, 2, 3] (aH fL (aH ok59 aO)) rfl rfl rfl (fun K hK => ?_)
       simp (disch := omega) only [Tryz.f59, go_sem, Nat.reduceAdd, Nat.reduceLeDiff, Int.reduceLE, Int.reduceToNat, ↓reduceIte, n0, n1, n2, sw8, a4, Int.toNat_natCast, b4]
       refine hK _ ?_
       refine aB ?_
       by_cases q0 : 0 < (txD l p1).length
       ·skip
        rw [if_pos q0] at hans
        have hd : decide ((0 : Int) < ((txD l p1).length : Int)) = true := decide_eq_true (by omega)
        refine aA rfl ?_
        refine aC (Γ := bC [(56, .pure true eM)]) [0, 2, 3] (aH ok60 aO) rfl rfl rfl (fun K hK => ?_)
        simp (disch := omega) only [Tryz.f59, go_sem, Nat.reduceAdd, Nat.reduceLT, ↓reduceIte, hd]
        refine hK _ ?_
        refine aB ?_
        have hdl : (l.drop p2).length = l.length - p2 := List.length_drop ..
        obtain ⟨D, hD⟩ : ∃ D, l.drop p2 = D := ⟨_, rfl⟩
        rw [hD] at hdl hans
        have hun : un8 (c8 D) = some D := un8_c8 D
        rcases ho : bmO D with _ | ty
        ·skip
         rw [ho] at hans; subst hans
         have ho2 : opR (l.length - p2 + 1) (-1) D = none := by rw [← hdl]; exact ho
         refine aA rfl ?_
         refine aC (Γ := bC [(44, .heap (rdH restG)), (61, .pure false opnG)]) [2, 3, 4, 5] (aH ok56 (aH ok61 aO)) rfl rfl rfl (fun K hK => ?_)
         simp (disch := omega) only [Tryz.f59, go_sem, Nat.reduceAdd, Int.reduceNeg, ↓reduceIte, Int.toNat_natCast, restR_eq, hD, hdl, ho2]
         refine hK _ ?_
         refine aB ?_
         have h40 : decide ((40 : Int) = 0) = false := rfl
         refine aA rfl ?_
         refine bH (Γ := bC [(56, .pure true eM)]) 2 (fC) call60 (aH ok60 aO) rfl rfl rfl (fun Z hZ => ?_)
         simp (disch := omega) only [Tryz.f59, go_sem, Nat.reduceAdd, Int.reduceEq, ↓reduceIte, bG, eq_self, true_and, bP, List.map_cons, List.map_nil, List.append_nil, List.take_succ_cons, List.take_zero]
         refine hZ _ ?_; clear hZ Z
         exact rfl
        ·skip
         rw [ho] at hans; subst hans
         have ho2 : opR (l.length - p2 + 1) (-1) D = some ty := by rw [← hdl]; exact ho
         refine aA rfl ?_
         refine aC (Γ := bC [(44, .heap (rdH restG)), (61, .pure false opnG)]) [2, 3, 4, 5] (aH ok56 (aH ok61 aO)) rfl rfl rfl (fun K hK => ?_)
         simp (disch := omega) only [Tryz.f59, go_sem, Nat.reduceAdd, Int.reduceNeg, ↓reduceIte, Int.toNat_natCast, restR_eq, hD, hdl, ho2]
         refine hK _ ?_
         refine aB ?_
         refine aA rfl ?_
         refine aC (Γ := bC [(56, .pure true eM)]) [2, 3, 4] (aH ok60 aO) rfl rfl rfl (fun K hK => ?_)
         simp (disch := omega) only [Tryz.f59, go_sem, Nat.reduceAdd, ↓reduceIte]
         refine hK _ ?_
         refine aB ?_
         refine aA rfl ?_
         refine aC (Γ := aL) [2, 3] (aD _ _) rfl rfl rfl (fun K hK => ?_)
         simp (disch := omega) only [Tryz.f59, go_sem, Nat.reduceAdd, Nat.reduceLeDiff, Nat.reduceLT, ↓reduceIte]
         refine hK _ ?_
         refine aB ?_
         unfold chn3 chnA
         refine aA rfl ?_
         refine aC (Γ := aL) [2] (aD _ _) rfl rfl rfl (fun K hK => ?_)
         simp (disch := omega) only [Tryz.f59, go_sem, Nat.reduceAdd, Nat.reduceLeDiff, ↓reduceIte]
         refine hK _ ?_
         refine aB ?_
         refine aS rfl ?_
         refine ⟨by simp (disch := omega) only [bV, bK, bQ, Tryz.f59, go_sem, aV, eq_self, Nat.reduceAdd, Nat.reduceLeDiff, ↓reduceIte], by simp (disch := omega) only [aV, bY, ↓reduceIte, eq_self], ?_, ?_⟩
         ·simp only [ids_a6, ids_sl16, ids_sl]; rfl
         ·exact eD _ _ _
       ·skip
        rw [if_neg q0] at hans; subst hans
        have hd : decide ((0 : Int) < ((txD l p1).length : Int)) = false := decide_eq_false (by omega)
        refine aA rfl ?_
        refine bH (Γ := bC [(56, .pure true eM)]) 4 (fC) call60 (aH ok60 aO) rfl rfl rfl (fun Z hZ => ?_)
        simp (disch := omega) only [Tryz.f59, go_sem, Nat.reduceAdd, Nat.reduceLT, ↓reduceIte, bG, eq_self, true_and, bP, List.map_cons, List.map_nil, List.append_nil, hd, List.take_succ_cons, List.take_zero]
        refine hZ _ ?_; clear hZ Z
        exact rfl
    ·skip
     rw [if_neg q4] at hans; subst hans
     refine aA rfl ?_
     refine bH (Γ := bC [(43, .heap (rdH eN)), (60, .heap (rdH textG))]) 7 (dK) eI (aH fL (aH ok59 aO)) rfl rfl rfl (fun Z hZ => ?_)
     simp (disch := omega) only [Tryz.f59, go_sem, Nat.reduceAdd, Int.reduceLE, Int.reduceToNat, ↓reduceIte, bG, eq_self, true_and, bP, List.map_cons, List.map_nil, List.append_nil, n0, n1, sw8, fB (l := l) (k := 2) (a := 2) (by omega), List.take_succ_cons, List.take_zero]
     refine hZ _ ?_; clear hZ Z
     exact rfl
   ·skip
    rw [if_neg (by omega)] at hans; subst hans
    refine aA rfl ?_
    refine bH (Γ := bC [(43, .heap (rdH eN)), (60, .heap (rdH textG))]) 4 (dK) eI (aH fL (aH ok59 aO)) rfl rfl rfl (fun Z hZ => ?_)
    simp (disch := omega) only [Tryz.f59, go_sem, Nat.reduceAdd, Int.reduceLE, Int.reduceToNat, ↓reduceIte, bG, eq_self, true_and, bP, List.map_cons, List.map_nil, List.append_nil, n0, sw8, fB (l := l) (k := 1) (a := 1) (by omega), List.take_succ_cons, List.take_zero]
    refine hZ _ ?_; clear hZ Z
    exact rfl
  ·skip
   rw [if_neg (by omega)] at hans; subst hans
   refine aA rfl ?_
   refine bH (Γ := bC [(43, .heap (rdH eN)), (60, .heap (rdH textG))]) 1 (dK) eI (aH fL (aH ok59 aO)) rfl rfl rfl (fun Z hZ => ?_)
   simp (disch := omega) only [Tryz.f59, go_sem, Nat.reduceAdd, Int.reduceLE, Int.reduceToNat, ↓reduceIte, bG, eq_self, true_and, bP, List.map_cons, List.map_nil, List.append_nil, fB (l := l) (k := 1) (a := 0) (by omega), List.take_succ_cons, List.take_zero]
   refine hZ _ ?_; clear hZ Z
   exact rfl
 ·cases hg
theorem chn1_pan : dE Tryz.prog GLh 59 chM (rdP chn1G) := chn1_both.2
theorem call58 : cJ Tryz.prog 59 := ⟨_, Tryz.func59, rfl, rfl⟩
theorem ok58 : bX Tryz.prog GLh 59 (.heap (rdH chn1G)) := ⟨⟨_, Tryz.func59, rfl, rfl⟩, chn1_both.1⟩
theorem idle75 (vals : Array Value) (w : World) (hs : vals.size = 2) : CallsD Tryz.prog 73 vals .returning w fun e u1 w' => e = .returned (.tuple #[]) ∧ u1 = .returning ∧ w' = w := by
 obtain ⟨l⟩ := vals
 match l, hs with
 | [a, b], _ =>
  refine callsD_of_wpS Tryz.func73 rfl fun c₀ cs hu => ?_
  apply wpS_seq
  apply wpS_region
  simp [wpOpsS, go_sem, recoverD, hu, Tryz.ntmps73, Exit.thenS]
  apply wpS_seq
  apply wpS_region
  simp [wpOpsS, go_sem, Exit.thenS]
  refine wpS_cond (t := false) (by simp [Act.eval, Array.replicate]) ?_
  simp only [Bool.false_eq_true, if_false]
  refine wpS_of_wp (wp_skip ?_)
  cases c₀
  simp_all [bodyPostS, results, Tryz.results73]
theorem c75_i : DefOK Tryz.prog GLh 73 .returning .returning (fD 2) := d_idle idle75
theorem call75 : cJ Tryz.prog 73 := ⟨_, Tryz.func73, rfl, rfl⟩
def c75P : List AV → H → Nat → Option (H × Nat)
 | [.op i1 0, .op i2 0], hp, nx => aN ((is6 (hp i1) = true ∧ eS (hp i2) = true) ∧ i1 ≠ i2 ∧ i1 < nx ∧ i2 < nx) (some (upd (upd hp i1 (.cells [.w8 0#8, .w8 0#8, .w16 0#16, .v (.slice none 0 0), .v (.slice none 0 0), .v (.slice none 0 0)] true)) i2 (.cells [.i 50] true), nx + 30))
 | _, _, _ => none
theorem c75P_eq (i1 i2 nx : Nat) (hp : H) : c75P [.op i1 0, .op i2 0] hp nx = aN ((is6 (hp i1) = true ∧ eS (hp i2) = true) ∧ i1 ≠ i2 ∧ i1 < nx ∧ i2 < nx) (some (upd (upd hp i1 (.cells [.w8 0#8, .w8 0#8, .w16 0#16, .v (.slice none 0 0), .v (.slice none 0 0), .v (.slice none 0 0)] true)) i2 (.cells [.i 50] true), nx + 30)) := (rfl)
attribute [go_sem] c75P_eq
set_option maxHeartbeats 4000000 in
theorem c75_pan : DefOK Tryz.prog GLh 73 (.panicking chM) (.panicking [{ v := .iface 100 (.agg #[]), recovered := true }]) c75P := by
 refine fZ (rest := (cr (aE Tryz.f73))) (rv := .iface 100 (.agg #[])) (a := 6) (b := 2) Tryz.func73 rfl (.inl rfl) ⟨Nat.le_of_ble_eq_true rfl, Nat.le_of_ble_eq_true rfl⟩ ?_
 intro args hp nx hp' nx' hg
 unfold c75P at hg
 split at hg
 ·rename_i i1 i2
  replace hg := aP hg; obtain ⟨⟨⟨o1, o2⟩, n12, l1, l2⟩, hg⟩ := hg
  simp only [Option.some.injEq, Prod.mk.injEq] at hg; obtain ⟨rfl, rfl⟩ := hg
  obtain ⟨x0, x1, x2, x3, x4, x5, h1⟩ := is6_inv o1
  obtain ⟨y, h2⟩ := eG o2
  refine ⟨Nat.le_of_ble_eq_true rfl, Nat.le_add_right _ _, fun hno => ?_⟩
  simp only [frOf]
  refine aA rfl ?_
  refine aC (Γ := aL) [8, 0, 1, 2] (aD _ _) rfl rfl rfl (fun K hK => ?_)
  simp (disch := omega) only [Tryz.f73, go_sem, Nat.reduceAdd, ↓reduceIte]
  refine hK _ ?_
  refine aB ?_
  refine bA (.tmp 8) rfl rfl rfl (fun h => ?_) (fun h => ?_)
  ·skip
   refine aI rfl ?_
   refine aA rfl ?_
   refine aA rfl ?_
   refine aC (Γ := aL) [0, 1, 2, 4] (aD _ _) rfl rfl rfl (fun K hK => ?_)
   simp (disch := omega) only [Tryz.f73, go_sem, Nat.reduceAdd, Nat.reduceLeDiff, ↓reduceIte]
   refine hK _ ?_
   refine aB ?_
   refine aA rfl ?_
   refine aC (Γ := aL) [15, 0, 1, 2] (aD _ _) rfl rfl rfl (fun K hK => ?_)
   simp (disch := omega) only [Tryz.f73, go_sem, Nat.reduceAdd, ↓reduceIte]
   refine hK _ ?_
   refine aB ?_
   refine bA (.tmp 15) rfl rfl rfl (fun h => ?_) (fun h => ?_)
   ·skip
    refine aI rfl ?_
    cases h
   ·skip
    refine aI rfl ?_
    clear h
    refine aQ rfl ?_
    refine aB ?_
    refine aA rfl ?_
    refine aC (Γ := aL) [0, 1, 5] (aD _ _) rfl rfl rfl (fun K hK => ?_)
    simp (disch := omega) only [Tryz.f73, go_sem, ↓reduceIte]
    refine hK _ ?_
    refine aB ?_
    refine aC (Γ := aL) [] (aD _ _) rfl rfl rfl (fun K hK => ?_)
    simp (disch := omega) only [Tryz.f73, go_sem, Nat.reduceAdd, Nat.reduceLeDiff, ↓reduceIte, h1, h2]
    refine hK _ ?_
    exact ⟨rfl, upd2b_sub hno (by omega) (by omega), by simp only; omega⟩
  ·skip
   refine aI rfl ?_
   cases h
 ·cases hg
def rdchnG : List AV → Option AV
 | [.sl n xs, .fn 59 []] => aK (cI xs) fun l => aN (l.length = n ∧ n ≤ 100000) (some (rdT (.agg [.w8 0#8, .w8 0#8, .w16 0#16, .sl 0 [], .sl 0 [], .sl 0 []]) l.length (gW l)))
 | _ => none
theorem rdchnG_eq (n : Nat) (xs : List AV) : rdchnG [.sl n xs, .fn 59 []] = aK (cI xs) fun l => aN (l.length = n ∧ n ≤ 100000) (some (rdT (.agg [.w8 0#8, .w8 0#8, .w16 0#16, .sl 0 [], .sl 0 [], .sl 0 []]) l.length (gW l))) := (rfl)
attribute [go_sem] rdchnG_eq
set_option maxHeartbeats 4000000 in
theorem rdchn_ok : cL Tryz.prog GLh 58 rdchnG := by
 refine pure_def (r0 := (cl (aE Tryz.f58))) (C := (cr (cr (aE Tryz.f58)))) (k := 7) (d := 73) (caps := #[.tmp 4, .tmp 5]) Tryz.func58 rfl (Nat.le_of_ble_eq_true rfl) call75 c75_i c75_pan rfl ?_
 intro args r hg
 unfold rdchnG at hg
 split at hg
 ·rename_i n xs
  replace hg := aJ hg; obtain ⟨l, hl, hg⟩ := hg
  replace hg := aP hg; obtain ⟨⟨rfl, hnb⟩, hg⟩ := hg
  obtain rfl := Option.some.inj hg
  have := bW hl; subst this
  refine ⟨Nat.le_of_ble_eq_true rfl, fun nx => ⟨[.op nx 0, .op (nx + 1) 0], ?_⟩⟩
  clear hl hg
  have hcs := rdchn_cases l
  refine aC (Γ := aL) [0, 1, 4, 5] (aD _ _) rfl rfl rfl (fun K hK => ?_)
  simp (disch := omega) only [Tryz.f58, go_sem, Nat.reduceAdd, ↓reduceIte]
  refine hK _ ?_
  refine ⟨rfl, ?_⟩
  simp only [defS]
  refine aA rfl ?_
  refine aC (Γ := aL) [0, 1, 4, 5, 6] (aD _ _) rfl rfl rfl (fun K hK => ?_)
  simp (disch := omega) only [Tryz.f58, go_sem, Nat.reduceAdd, Nat.reduceLeDiff, ↓reduceIte]
  refine hK _ ?_
  refine aB ?_
  rcases hcs with e2 | ⟨v1, v2, v3, v4, v5, v6, p, e2⟩
  ·skip
   refine aA rfl ?_
   refine bH (Γ := aL) 2 (chn1_pan) call58 (aD _ _) rfl rfl rfl (fun Z hZ => ?_)
   simp (disch := omega) only [Tryz.f58, go_sem, Nat.reduceAdd, ↓reduceIte, bG, eq_self, true_and, bP, List.map_cons, List.map_nil, List.append_nil, e2, List.take_succ_cons, List.take_zero]
   refine hZ _ ?_; clear hZ Z
   refine hX (gI := fD 2) (p := _) (by simp (disch := omega) only [go_sem, aV, de_app, bY, ↓reduceIte]; rfl) ?_
   rw [e2, rdT_n]
   simp (disch := omega) only [bV, bK, bQ, Tryz.f58, go_sem, aV, bY, ↓reduceIte]
  ·skip
   refine aA rfl ?_
   refine aC (Γ := bC [(59, .heap (rdH chn1G))]) [0, 4, 5, 6] (aH ok58 aO) rfl rfl rfl (fun K hK => ?_)
   simp (disch := omega) only [Tryz.f58, go_sem, Nat.reduceAdd, Nat.reduceLeDiff, ↓reduceIte, e2]
   refine hK _ ?_
   refine aB ?_
   by_cases hp : (p : Int) = (l.length : Int)
   ·skip
    have hd : decide ((p : Int) = (l.length : Int)) = true := decide_eq_true hp
    refine aA rfl ?_
    refine aC (Γ := bC [(56, .pure true eM)]) [4, 5] (aH ok60 aO) rfl rfl rfl (fun K hK => ?_)
    simp (disch := omega) only [Tryz.f58, go_sem, Nat.reduceAdd, Nat.reduceLT, ↓reduceIte, hd]
    refine hK _ ?_
    refine aB ?_
    refine aA rfl ?_
    refine aC (Γ := aL) [4, 5] (aD _ _) rfl rfl rfl (fun K hK => ?_)
    simp (disch := omega) only [Tryz.f58, go_sem, Nat.reduceAdd, Nat.reduceLeDiff, ↓reduceIte]
    refine hK _ ?_
    refine aB ?_
    refine aS rfl ?_
    refine defQ_ret (gP := c75P) (ch := chM) (p := _) (idleG_2 _ _ _ _) ?_
    rw [e2, fO _ _ _ hp]
    simp (disch := omega) only [bV, bK, bQ, Tryz.f58, go_sem, aV, bY, ↓reduceIte]
   ·skip
    have hd : decide ((p : Int) = (l.length : Int)) = false := decide_eq_false hp
    refine aA rfl ?_
    refine bH (Γ := bC [(56, .pure true eM)]) 7 (fC) call60 (aH ok60 aO) rfl rfl rfl (fun Z hZ => ?_)
    simp (disch := omega) only [Tryz.f58, go_sem, Nat.reduceAdd, Nat.reduceLT, ↓reduceIte, bG, eq_self, true_and, bP, List.map_cons, List.map_nil, List.append_nil, hd, List.take_succ_cons, List.take_zero]
    refine hZ _ ?_; clear hZ Z
    refine hX (gI := fD 2) (p := _) (by simp (disch := omega) only [go_sem, aV, bY, ↓reduceIte]; rfl) ?_
    rw [e2, iD _ _ _ hp]
    simp (disch := omega) only [bV, bK, bQ, Tryz.f58, go_sem, aV, bY, ↓reduceIte]
 ·cases hg
theorem ids_rdchn (l : List B8) : AV.ids (rdT (.agg [.w8 0#8, .w8 0#8, .w16 0#16, .sl 0 [], .sl 0 [], .sl 0 []]) l.length (gW l)) = 0 := by
 rcases rdchn_cases l with e2 | ⟨v1, v2, v3, v4, v5, v6, p, e2⟩
 ·rw [e2]; rfl
 ·rw [e2]
  by_cases hp : (p : Int) = (l.length : Int)
  ·rw [fO _ _ _ hp]; simp only [ids_a6, ids_t2, ids_sl, ids_sl16]; rfl
  ·rw [iD _ _ _ hp]; rfl
theorem ok57 : bX Tryz.prog GLh 58 (.pure false rdchnG) := ⟨⟨_, Tryz.func58, rfl, rfl⟩, rdchn_ok⟩
end Go.AX
namespace Go.AX
open Go Go.Proofs
theorem rdT_sig (l : List B8) : ∃ (v1 : BitVec 16) (v2 v3 : B8) (v4 v5 v6 : BitVec 32) (v7 : BitVec 16) (v8 : Nm) (v9 : List B8), rdT (.agg [.w16 0#16, .w8 0#8, .w8 0#8, .w32 0#32, .w32 0#32, .w32 0#32, .w16 0#16, .sl 0 [], .sl 0 []]) l.length (eY l) = .tup [.agg [.w16 v1, .w8 v2, .w8 v3, .w32 v4, .w32 v5, .w32 v6, .w16 v7, .sl v8.length (cS v8), .sl v9.length (c8 v9)], .i (rdE l.length (eY l))] := by
 rcases rdsig_cases l with e | ⟨v1, v2, v3, v4, v5, v6, v7, v8, v9, p, e⟩
 ·exact ⟨0, 0, 0, 0, 0, 0, 0, [], [], by rw [e]; rfl⟩
 ·rw [e]
  by_cases hp : (p : Int) = (l.length : Int)
  ·exact ⟨v1, v2, v3, v4, v5, v6, v7, v8, v9, by rw [fO _ _ _ hp, rdE_y _ _ hp]⟩
  ·exact ⟨0, 0, 0, 0, 0, 0, 0, [], [], by rw [iD _ _ _ hp, rdE_x _ _ hp]; rfl⟩
def sigT (l : List B8) : AV := rdT (.agg [.w16 0#16, .w8 0#8, .w8 0#8, .w32 0#32, .w32 0#32, .w32 0#32, .w16 0#16, .sl 0 [], .sl 0 []]) l.length (eY l)
def sigG : List AV → Option AV
 | [.sl n xs] => aK (cI xs) fun l => aN (l.length = n ∧ n ≤ 100000) (some (sigT l))
 | _ => none
theorem sigG_eq (n : Nat) (xs : List AV) : sigG [.sl n xs] = aK (cI xs) fun l => aN (l.length = n ∧ n ≤ 100000) (some (sigT l)) := (rfl)
attribute [go_sem] sigG_eq
set_option maxHeartbeats 4000000 in
theorem sig_ok : cL Tryz.prog GLh 21 sigG := by
 refine cC Tryz.func21 (aT rfl) ?_
 intro args r hg
 unfold sigG at hg
 split at hg
 ·rename_i n xs
  replace hg := aJ hg; obtain ⟨l, hl, hg⟩ := hg
  replace hg := aP hg; obtain ⟨⟨rfl, hn⟩, hg⟩ := hg
  obtain rfl := Option.some.inj hg
  have := bW hl; subst this
  refine ⟨Nat.le_of_ble_eq_true rfl, fun nx => ?_⟩
  clear hl hg
  obtain ⟨v1, v2, v3, v4, v5, v6, v7, v8, v9, hv⟩ := rdT_sig l
  unfold sigT
  obtain ⟨e, he⟩ : ∃ e, rdE l.length (eY l) = e := ⟨_, rfl⟩
  rw [he] at hv
  rw [hv]
  refine aA rfl ?_
  refine aC (Γ := aL) [0, 2] (aD _ _) rfl rfl rfl (fun K hK => ?_)
  simp (disch := omega) only [Tryz.f21, go_sem, Nat.reduceAdd, ↓reduceIte]
  refine hK _ ?_
  refine aB ?_
  refine aA rfl ?_
  refine aC (Γ := bC [(50, .pure false rdsigG), (51, .heap (rdH sig1G))]) [2, 3] (aH ok54 (aH ok55 aO)) rfl rfl rfl (fun K hK => ?_)
  simp (disch := omega) only [Tryz.f21, go_sem, Nat.reduceAdd, Nat.reduceLeDiff, ↓reduceIte, hv]
  refine hK _ ?_
  refine aB ?_
  refine aS rfl ?_
  simp (disch := omega) only [cN, bV, bK, bQ, Tryz.f21, go_sem, Nat.reduceAdd, Nat.reduceLeDiff, ↓reduceIte]
 ·cases hg
theorem ok23 : bX Tryz.prog GLh 21 (.pure false sigG) := ⟨⟨_, Tryz.func21, rfl, rfl⟩, sig_ok⟩
theorem rdT_chn (l : List B8) : ∃ (v1 v2 : B8) (v3 : BitVec 16) (v4 v5 : List B8) (v6 : List T16), rdT (.agg [.w8 0#8, .w8 0#8, .w16 0#16, .sl 0 [], .sl 0 [], .sl 0 []]) l.length (gW l) = .tup [.agg [.w8 v1, .w8 v2, .w16 v3, .sl v4.length (c8 v4), .sl v5.length (c8 v5), .sl v6.length (c16 v6)], .i (rdE l.length (gW l))] := by
 rcases rdchn_cases l with e | ⟨v1, v2, v3, v4, v5, v6, p, e⟩
 ·exact ⟨0, 0, 0, [], [], [], by rw [e]; rfl⟩
 ·rw [e]
  by_cases hp : (p : Int) = (l.length : Int)
  ·exact ⟨v1, v2, v3, v4, v5, v6, by rw [fO _ _ _ hp, rdE_y _ _ hp]⟩
  ·exact ⟨0, 0, 0, [], [], [], by rw [iD _ _ _ hp, rdE_x _ _ hp]; rfl⟩
def chnT (l : List B8) : AV := rdT (.agg [.w8 0#8, .w8 0#8, .w16 0#16, .sl 0 [], .sl 0 [], .sl 0 []]) l.length (gW l)
def chnG : List AV → Option AV
 | [.sl n xs] => aK (cI xs) fun l => aN (l.length = n ∧ n ≤ 100000) (some (chnT l))
 | _ => none
theorem chnG_eq (n : Nat) (xs : List AV) : chnG [.sl n xs] = aK (cI xs) fun l => aN (l.length = n ∧ n ≤ 100000) (some (chnT l)) := (rfl)
attribute [go_sem] chnG_eq
set_option maxHeartbeats 4000000 in
theorem chn_ok : cL Tryz.prog GLh 34 chnG := by
 refine cC Tryz.func34 (aT rfl) ?_
 intro args r hg
 unfold chnG at hg
 split at hg
 ·rename_i n xs
  replace hg := aJ hg; obtain ⟨l, hl, hg⟩ := hg
  replace hg := aP hg; obtain ⟨⟨rfl, hn⟩, hg⟩ := hg
  obtain rfl := Option.some.inj hg
  have := bW hl; subst this
  refine ⟨Nat.le_of_ble_eq_true rfl, fun nx => ?_⟩
  clear hl hg
  obtain ⟨v1, v2, v3, v4, v5, v6, hv⟩ := rdT_chn l
  unfold chnT
  obtain ⟨e, he⟩ : ∃ e, rdE l.length (gW l) = e := ⟨_, rfl⟩
  rw [he] at hv
  rw [hv]
  refine aA rfl ?_
  refine aC (Γ := aL) [0, 2] (aD _ _) rfl rfl rfl (fun K hK => ?_)
  simp (disch := omega) only [Tryz.f34, go_sem, Nat.reduceAdd, ↓reduceIte]
  refine hK _ ?_
  refine aB ?_
  refine aA rfl ?_
  refine aC (Γ := bC [(58, .pure false rdchnG), (59, .heap (rdH chn1G))]) [2, 3] (aH ok57 (aH ok58 aO)) rfl rfl rfl (fun K hK => ?_)
  simp (disch := omega) only [Tryz.f34, go_sem, Nat.reduceAdd, Nat.reduceLeDiff, ↓reduceIte, hv]
  refine hK _ ?_
  refine aB ?_
  refine aS rfl ?_
  simp (disch := omega) only [cN, bV, bK, bQ, Tryz.f34, go_sem, Nat.reduceAdd, Nat.reduceLeDiff, ↓reduceIte]
 ·cases hg
theorem ok27 : bX Tryz.prog GLh 34 (.pure false chnG) := ⟨⟨_, Tryz.func34, rfl, rfl⟩, chn_ok⟩
def gJ (t : BitVec 16) (l : List B8) : Int := if 8192 < l.length then 50 else if t = 6#16 then rdE l.length (eX l) else if t = 46#16 then rdE l.length (eY l) else if t = 50#16 then rdE l.length (gW l) else if t = 48#16 then rdE l.length (gE l) else rdE l.length (chk1R l (shp t l))
def chkFG : List AV → Option AV
 | [.w16 t, .sl n xs] => aK (cI xs) fun l => aN (l.length = n ∧ n ≤ 100000) (some (.i (gJ t l)))
 | _ => none
theorem chkFG_eq (t : BitVec 16) (n : Nat) (xs : List AV) : chkFG [.w16 t, .sl n xs] = aK (cI xs) fun l => aN (l.length = n ∧ n ≤ 100000) (some (.i (gJ t l))) := (rfl)
attribute [go_sem] chkFG_eq
set_option maxHeartbeats 4000000 in
theorem chkF_ok : cL Tryz.prog GLh 9 chkFG := by
 refine cC Tryz.func9 (aT rfl) ?_
 intro args r hg
 unfold chkFG at hg
 split at hg
 ·rename_i t n xs
  replace hg := aJ hg; obtain ⟨l, hl, hg⟩ := hg
  replace hg := aP hg; obtain ⟨⟨rfl, hn⟩, hg⟩ := hg
  obtain rfl := Option.some.inj hg
  have := bW hl; subst this
  refine ⟨Nat.le_of_ble_eq_true rfl, fun nx => ?_⟩
  clear hl hg
  unfold gJ
  refine aA rfl ?_
  refine aC (Γ := aL) [1, 2] (aD _ _) rfl rfl rfl (fun K hK => ?_)
  simp (disch := omega) only [Tryz.f9, go_sem, Nat.reduceAdd, ↓reduceIte]
  refine hK _ ?_
  refine aB ?_
  refine aA rfl ?_
  refine aA rfl ?_
  refine aC (Γ := aL) [8, 1, 2] (aD _ _) rfl rfl rfl (fun K hK => ?_)
  simp (disch := omega) only [Tryz.f9, go_sem, Nat.reduceAdd, ↓reduceIte]
  refine hK _ ?_
  refine aB ?_
  refine aW (.tmp 8) rfl rfl rfl (fun h => ?_) (fun h => ?_)
  ·skip
   refine aI rfl ?_
   rw [if_pos (by omega)]
   refine aA rfl ?_
   refine aC (Γ := aL) [4] (aD _ _) rfl rfl rfl (fun K hK => ?_)
   simp (disch := omega) only [Tryz.f9, go_sem, ↓reduceIte]
   refine hK _ ?_
   refine aB ?_
   refine aS rfl ?_
   refine bI ?_
   simp (disch := omega) only [cN, bV, bK, bQ, Tryz.f9, go_sem, ↓reduceIte]
  ·skip
   refine aI rfl ?_
   rw [if_neg (by omega)]
   refine aQ rfl ?_
   refine aB ?_
   refine aA rfl ?_
   refine aC (Γ := aL) [1, 2] (aD _ _) rfl rfl rfl (fun K hK => ?_)
   simp (disch := omega) only [Tryz.f9, go_sem, ↓reduceIte]
   refine hK _ ?_
   refine aB ?_
   refine aA rfl ?_
   refine aA rfl ?_
   refine aC (Γ := aL) [1, 2, 9] (aD _ _) rfl rfl rfl (fun K hK => ?_)
   simp (disch := omega) only [Tryz.f9, go_sem, ↓reduceIte]
   refine hK _ ?_
   refine aB ?_
   refine aR 0 rfl rfl ?_
   refine aA rfl ?_
   refine aC (Γ := aL) [16, 1, 2, 9] (aD _ _) rfl rfl rfl (fun K hK => ?_)
   simp (disch := omega) only [Tryz.f9, go_sem, Nat.reduceAdd, Int.reduceLE, Int.reduceLT, BitVec.reduceOfInt, ↓reduceIte]
   refine hK _ ?_
   refine aB ?_
   refine aW (.tmp 16) rfl rfl rfl (fun h => ?_) (fun h => ?_)
   ·skip
    refine aI rfl ?_
    rw [if_pos h]
    obtain ⟨v1, v2, v3, v4, v5, v6, v7, hv⟩ := rdT_soa l
    obtain ⟨e, he⟩ : ∃ e, rdE l.length (eX l) = e := ⟨_, rfl⟩
    rw [he] at hv ⊢
    refine aC (Γ := bC [(19, .pure false soaG)]) [5] (aH ok18 aO) rfl rfl rfl (fun K hK => ?_)
    simp (disch := omega) only [Tryz.f9, go_sem, Nat.reduceAdd, ↓reduceIte, soaT, hv]
    refine hK _ ?_
    refine bU (aB ?_)
    refine aA rfl ?_
    refine aC (Γ := aL) [4] (aD _ _) rfl rfl rfl (fun K hK => ?_)
    simp (disch := omega) only [Tryz.f9, go_sem, Nat.reduceAdd, ↓reduceIte]
    refine hK _ ?_
    refine aB ?_
    refine aS rfl ?_
    simp (disch := omega) only [cN, bV, bK, bQ, Tryz.f9, go_sem, ↓reduceIte]
   ·skip
    refine aI rfl ?_
    rw [if_neg h]
    refine aA rfl ?_
    refine aC (Γ := aL) [23, 1, 2, 9] (aD _ _) rfl rfl rfl (fun K hK => ?_)
    simp (disch := omega) only [Tryz.f9, go_sem, Nat.reduceAdd, Int.reduceLE, Int.reduceLT, BitVec.reduceOfInt, ↓reduceIte]
    refine hK _ ?_
    refine aB ?_
    refine aW (.tmp 23) rfl rfl rfl (fun h => ?_) (fun h => ?_)
    ·skip
     refine aI rfl ?_
     rw [if_pos h]
     obtain ⟨v1, v2, v3, v4, v5, v6, v7, v8, v9, hv⟩ := rdT_sig l
     obtain ⟨e, he⟩ : ∃ e, rdE l.length (eY l) = e := ⟨_, rfl⟩
     rw [he] at hv ⊢
     refine aC (Γ := bC [(21, .pure false sigG)]) [5] (aH ok23 aO) rfl rfl rfl (fun K hK => ?_)
     simp (disch := omega) only [Tryz.f9, go_sem, Nat.reduceAdd, ↓reduceIte, sigT, hv]
     refine hK _ ?_
     refine bU (aB ?_)
     refine aA rfl ?_
     refine aC (Γ := aL) [4] (aD _ _) rfl rfl rfl (fun K hK => ?_)
     simp (disch := omega) only [Tryz.f9, go_sem, Nat.reduceAdd, ↓reduceIte]
     refine hK _ ?_
     refine aB ?_
     refine aS rfl ?_
     simp (disch := omega) only [cN, bV, bK, bQ, Tryz.f9, go_sem, ↓reduceIte]
    ·skip
     refine aI rfl ?_
     rw [if_neg h]
     refine aA rfl ?_
     refine aC (Γ := aL) [30, 1, 2, 9] (aD _ _) rfl rfl rfl (fun K hK => ?_)
     simp (disch := omega) only [Tryz.f9, go_sem, Nat.reduceAdd, Int.reduceLE, Int.reduceLT, BitVec.reduceOfInt, ↓reduceIte]
     refine hK _ ?_
     refine aB ?_
     refine aW (.tmp 30) rfl rfl rfl (fun h => ?_) (fun h => ?_)
     ·skip
      refine aI rfl ?_
      rw [if_pos h]
      obtain ⟨v1, v2, v3, v4, v5, v6, hv⟩ := rdT_chn l
      obtain ⟨e, he⟩ : ∃ e, rdE l.length (gW l) = e := ⟨_, rfl⟩
      rw [he] at hv ⊢
      refine aC (Γ := bC [(34, .pure false chnG)]) [5] (aH ok27 aO) rfl rfl rfl (fun K hK => ?_)
      simp (disch := omega) only [Tryz.f9, go_sem, Nat.reduceAdd, ↓reduceIte, chnT, hv]
      refine hK _ ?_
      refine bU (aB ?_)
      refine aA rfl ?_
      refine aC (Γ := aL) [4] (aD _ _) rfl rfl rfl (fun K hK => ?_)
      simp (disch := omega) only [Tryz.f9, go_sem, Nat.reduceAdd, ↓reduceIte]
      refine hK _ ?_
      refine aB ?_
      refine aS rfl ?_
      simp (disch := omega) only [cN, bV, bK, bQ, Tryz.f9, go_sem, ↓reduceIte]
     ·skip
      refine aI rfl ?_
      rw [if_neg h]
      refine aA rfl ?_
      refine aC (Γ := aL) [37, 1, 2] (aD _ _) rfl rfl rfl (fun K hK => ?_)
      simp (disch := omega) only [Tryz.f9, go_sem, Nat.reduceAdd, Int.reduceLE, Int.reduceLT, BitVec.reduceOfInt, ↓reduceIte]
      refine hK _ ?_
      refine aB ?_
      refine aW (.tmp 37) rfl rfl rfl (fun h => ?_) (fun h => ?_)
      ·skip
       refine aI rfl ?_
       rw [if_pos h]
       obtain ⟨v1, v2, v3, v4, hv⟩ := rdT_key l
       obtain ⟨e, he⟩ : ∃ e, rdE l.length (gE l) = e := ⟨_, rfl⟩
       rw [he] at hv ⊢
       refine aC (Γ := bC [(13, .pure false keyG)]) [5] (aH ok31 aO) rfl rfl rfl (fun K hK => ?_)
       simp (disch := omega) only [Tryz.f9, go_sem, Nat.reduceAdd, ↓reduceIte, keyT, hv]
       refine hK _ ?_
       refine bU (aB ?_)
       refine aA rfl ?_
       refine aC (Γ := aL) [4] (aD _ _) rfl rfl rfl (fun K hK => ?_)
       simp (disch := omega) only [Tryz.f9, go_sem, Nat.reduceAdd, ↓reduceIte]
       refine hK _ ?_
       refine aB ?_
       refine aS rfl ?_
       simp (disch := omega) only [cN, bV, bK, bQ, Tryz.f9, go_sem, ↓reduceIte]
      ·skip
       refine aI rfl ?_
       rw [if_neg h]
       have hv := rdT_int t l
       obtain ⟨e, he⟩ : ∃ e, rdE l.length (chk1R l (shp t l)) = e := ⟨_, rfl⟩
       rw [he] at hv ⊢
       refine aC (Γ := bC [(36, .heap (rdH chk1G)), (35, .heap (capG2 36 rdintG))]) [5] (aH ok41 (aH ok40 aO)) rfl rfl rfl (fun K hK => ?_)
       simp (disch := omega) only [Tryz.f9, go_sem, Nat.reduceAdd, ↓reduceIte, hv]
       refine hK _ ?_
       refine bU (aB ?_)
       refine aA rfl ?_
       refine aC (Γ := aL) [4] (aD _ _) rfl rfl rfl (fun K hK => ?_)
       simp (disch := omega) only [Tryz.f9, go_sem, Nat.reduceAdd, ↓reduceIte]
       refine hK _ ?_
       refine aB ?_
       refine aS rfl ?_
       simp (disch := omega) only [cN, bV, bK, bQ, Tryz.f9, go_sem, ↓reduceIte]
 ·cases hg
theorem ok13f : bX Tryz.prog GLh 9 (.pure true chkFG) := ⟨⟨_, Tryz.func9, rfl, rfl⟩, chkF_ok⟩
end Go.AX
