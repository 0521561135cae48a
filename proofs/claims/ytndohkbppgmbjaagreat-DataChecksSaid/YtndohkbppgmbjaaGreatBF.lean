/-
  Data, part A: what gives up reading. Data, part B: bytes taken off a reader. Data, part C: numbers, texts, all the rest, off a reader. Data, part D: a slice cloned. Data, part E: all the rest, texts, off a reader. Data, part F: a name read off bytes. Data, part G: a name's labels read.
-/
import Derived.Test.YtndohkbppgmbjaaGreatBE
import Derived.WalkKit
import Derived.Tactics
import Derived.Tactics2
namespace Go.AX
open Go Go.Proofs
def GLh : Nat → Option (List AV) := fun _ => none
def chM : List PanicEntry := [{ v := .iface 100 (.agg #[]), recovered := false }]
def chF (k : Int) : List PanicEntry := [{ v := .iface 122 (.agg #[.int .i64 k]), recovered := false }]
theorem run_pan (P : Program) (t : TypeId) (v : Value) (w : World) : (Instr.panic (.iface t v)).run P w = .halt (.panic (.iface t v)) w := rfl
theorem i_inv {σ : Nat → Loc} {I : Nat → Prop} {w : World} {n : Int} {v : Value} (h : Rel σ I w (.i n) v) : v = .int .i64 n := by cases h; rfl
theorem must_no (w : World) : Calls Tryz.prog 56 #[.bool false] w fun e w' => e = .panicked chM ∧ w' = w := by
 go_enter Tryz.func56, Tryz.ntmps56
 go_wp2
 simp only [run_pan]
 exact ⟨rfl, rfl, rfl⟩
theorem must_yes (w : World) : Calls Tryz.prog 56 #[.bool true] w fun e w' => e = .returned (.tuple #[]) ∧ w' = w := by
 go_enter Tryz.func56, Tryz.ntmps56
 go_wp2
 exact ⟨rfl, _, results_none rfl _ _ _, rfl, rfl⟩
theorem fail_no (k : Int) (w : World) : Calls Tryz.prog 72 #[.int .i64 k] w fun e w' => e = .panicked (chF k) ∧ w' = w := by
 go_enter Tryz.func72, Tryz.ntmps72
 go_wp2
 simp only [run_pan]
 exact ⟨rfl, rfl, rfl⟩
section
variable {P : Program} {GL : Nat → Option (List AV)} {f : FuncId}
theorem pan_same {ch : List PanicEntry} {g : List AV → H → Nat → Option (H × Nat)} (h : ∀ args hp nx hp' nx', g args hp nx = some (hp', nx') → hp' = hp ∧ nx' = nx ∧ ∀ (σ : Nat → Loc) (I : Nat → Prop) (w : World) (vals : Array Value), vals.size = args.length → (∀ i (_h : i < args.length), Rel σ I w args[i] (vals.getD i undef)) → Calls P f vals w fun e w' => e = .panicked ch ∧ w' = w) : dE P GL f ch g := by
 intro c σ I w hp nx args vals hp' nx' _ hi hs hr hg
 obtain ⟨rfl, rfl, hc⟩ := h args hp nx hp' nx' hg
 refine ⟨Nat.le_refl _, (hc σ I w vals hs hr).mono ?_⟩
 rintro e w' ⟨rfl, rfl⟩
 exact ⟨σ, I, rfl, hi, Grow.refl _ _ _, fun _ _ h => h⟩
theorem pure_same {g : List AV → Option AV} (h : ∀ args r, g args = some r → ∀ (σ : Nat → Loc) (I : Nat → Prop) (w : World) (vals : Array Value), vals.size = args.length → (∀ i (_h : i < args.length), Rel σ I w args[i] (vals.getD i undef)) → ∃ v, Rel σ I w r v ∧ Calls P f vals w fun e w' => e = .returned v ∧ w' = w) : cL P GL f g := by
 intro σ I w nx args vals r h1 h2 h3 hs hr hg
 obtain ⟨v, hv, hc⟩ := h args r hg σ I w vals hs hr
 refine hc.mono ?_
 rintro e w' ⟨rfl, rfl⟩
 exact ⟨v, σ, I, rfl, rfl, rfl, rfl, Nat.le_refl _, fun _ _ => rfl, fun _ _ => rfl, fun _ h => .inl h, h2, hv⟩
end
theorem one_val {σ : Nat → Loc} {I : Nat → Prop} {w : World} {x : AV} {vals : Array Value} (hs : vals.size = [x].length) (hr : ∀ i (_h : i < [x].length), Rel σ I w [x][i] (vals.getD i undef)) : ∃ v, vals = #[v] ∧ Rel σ I w x v := by
 have h0 := hr 0 (by simp)
 obtain ⟨l⟩ := vals
 simp only [List.size_toArray, List.length_cons, List.length_nil, Nat.zero_add] at hs
 match l, hs with
 | [v], _ => exact ⟨v, rfl, h0⟩
def eM : List AV → Option AV
 | [.b true] => some (.tup [])
 | _ => none
theorem mustG_eq : eM [.b true] = some (.tup []) := (rfl)
def mustP : List AV → H → Nat → Option (H × Nat)
 | [.b false], hp, nx => some (hp, nx)
 | _, _, _ => none
theorem mustP_eq (hp : H) (nx : Nat) : mustP [.b false] hp nx = some (hp, nx) := (rfl)
def failP (k : Int) : List AV → H → Nat → Option (H × Nat)
 | [.i n], hp, nx => aN (n = k) (some (hp, nx))
 | _, _, _ => none
theorem failP_eq (k n : Int) (hp : H) (nx : Nat) : failP k [.i n] hp nx = aN (n = k) (some (hp, nx)) := (rfl)
attribute [go_sem] mustG_eq mustP_eq failP_eq panK_call panV_fn
theorem must_ok : cL Tryz.prog GLh 56 eM := by
 refine pure_same fun args r hg σ I w vals hs hr => ?_
 unfold eM at hg
 split at hg
 ·obtain rfl := Option.some.inj hg
  obtain ⟨v, rfl, hv⟩ := one_val hs hr
  obtain rfl := b_inv hv
  exact ⟨_, .tup _ _ rfl (fun i h => by simp at h), must_yes w⟩
 ·cases hg
theorem fC : dE Tryz.prog GLh 56 chM mustP := by
 refine pan_same fun args hp nx hp' nx' hg => ?_
 unfold mustP at hg
 split at hg
 ·simp only [Option.some.injEq, Prod.mk.injEq] at hg; obtain ⟨rfl, rfl⟩ := hg
  refine ⟨rfl, rfl, fun σ I w vals hs hr => ?_⟩
  obtain ⟨v, rfl, hv⟩ := one_val hs hr
  obtain rfl := b_inv hv
  exact must_no w
 ·cases hg
theorem fail_pan (k : Int) : dE Tryz.prog GLh 72 (chF k) (failP k) := by
 refine pan_same fun args hp nx hp' nx' hg => ?_
 unfold failP at hg
 split at hg
 ·replace hg := aP hg; obtain ⟨rfl, hg⟩ := hg
  simp only [Option.some.injEq, Prod.mk.injEq] at hg; obtain ⟨rfl, rfl⟩ := hg
  refine ⟨rfl, rfl, fun σ I w vals hs hr => ?_⟩
  obtain ⟨v, rfl, hv⟩ := one_val hs hr
  obtain rfl := i_inv hv
  exact fail_no _ w
 ·cases hg
theorem call60 : cJ Tryz.prog 56 := ⟨_, Tryz.func56, rfl, rfl⟩
theorem call81 : cJ Tryz.prog 72 := ⟨_, Tryz.func72, rfl, rfl⟩
theorem ok60 : bX Tryz.prog GLh 56 (.pure true eM) := ⟨call60, must_ok⟩
end Go.AX
namespace Go.AX
open Go Go.Proofs
theorem st2_1 (x y z : AV) : [x, y].set 1 z = [x, z] := (rfl)
theorem hd_cons (x : AV) (l : List AV) : (x :: l).head? = some x := (rfl)
theorem dr_1 (x : AV) (l : List AV) : List.drop 1 (x :: l) = l := (rfl)
theorem dr_0 (l : List AV) : l.drop 0 = l := (rfl)
attribute [go_sem] st2_1 hd_cons dr_1 dr_0
theorem bG (fr : List (Nat × AV)) : gdS fr none = some true := (rfl)
def takR (l : List B8) (k a : Nat) : Option (AV × List AV) := if k ≤ l.length - a then some (.sl k (c8 ((l.drop a).take k)), [.sl l.length (c8 l), .i ((a + k : Nat) : Int)]) else none
theorem takR_y {l : List B8} {k a : Nat} (h : k ≤ l.length - a) : takR l k a = some (.sl k (c8 ((l.drop a).take k)), [.sl l.length (c8 l), .i ((a + k : Nat) : Int)]) := if_pos h
theorem takR_n {l : List B8} {k a : Nat} (h : ¬ k ≤ l.length - a) : takR l k a = none := if_neg h
def fJ : List AV → List AV → Option (Option (AV × List AV))
 | [.op _ 0, .i k], [.sl n xs, .i a] => aK (cI xs) fun l => aN (l.length = n ∧ 0 ≤ k ∧ k ≤ 100000 ∧ 0 ≤ a ∧ a ≤ n ∧ n ≤ 100000) (some (takR l k.toNat a.toNat))
 | _, _ => none
theorem takeG_eq (id n : Nat) (k a : Int) (xs : List AV) : fJ [.op id 0, .i k] [.sl n xs, .i a] = aK (cI xs) fun l => aN (l.length = n ∧ 0 ≤ k ∧ k ≤ 100000 ∧ 0 ≤ a ∧ a ≤ n ∧ n ≤ 100000) (some (takR l k.toNat a.toNat)) := (rfl)
attribute [go_sem] takeG_eq
theorem ids_c8 (l : List B8) : AV.ids.idsL (c8 l) = 0 := by
 induction l with
 | nil => rfl
 | cons x l ih => show max (AV.ids (.w8 x)) (AV.ids.idsL (c8 l)) = 0; rw [ih]; rfl
theorem ids_sl (n : Nat) (l : List B8) : AV.ids (.sl n (c8 l)) = 0 := ids_c8 l
theorem eD (n : Nat) (l : List B8) (a : Int) : AV.ids.idsL [.sl n (c8 l), .i a] = 0 := by
 show max (AV.ids (.sl n (c8 l))) (max 0 0) = 0
 rw [ids_sl]; rfl
set_option maxHeartbeats 2000000 in
theorem take_both : cQ Tryz.prog GLh 32 (rdH fJ) ∧ dE Tryz.prog GLh 32 chM (rdP fJ) := by
 refine dT Tryz.func32 (aT rfl) ?_
 intro id off rest nx xs o hg
 unfold fJ at hg
 split at hg
 ·rename_i id2 k0 n xs2 a0 heq
  simp only [List.cons.injEq, AV.op.injEq] at heq
  obtain ⟨⟨rfl, rfl⟩, rfl⟩ := heq
  replace hg := aJ hg; obtain ⟨l, hl, hg⟩ := hg
  replace hg := aP hg; obtain ⟨⟨rfl, hk, hkb, ha, han, hnb⟩, hg⟩ := hg
  obtain rfl := Option.some.inj hg
  have := bW hl; subst this
  obtain ⟨k, rfl⟩ := Int.eq_ofNat_of_zero_le hk
  obtain ⟨a, rfl⟩ := Int.eq_ofNat_of_zero_le ha
  simp only [Int.toNat_natCast] at *
  refine ⟨Nat.le_of_ble_eq_true rfl, fun hid => ?_⟩
  clear hl hg
  refine aA rfl ?_
  refine aC (Γ := aL) [0, 1] (aD _ _) rfl rfl rfl (fun K hK => ?_)
  simp (disch := omega) only [Tryz.f32, go_sem, ↓reduceIte]
  refine hK _ ?_
  refine aB ?_
  by_cases hka : k ≤ l.length - a
  ·skip
   rw [takR_y hka]
   have hd : decide ((k : Int) ≤ (l.length : Int) - (a : Int)) = true := decide_eq_true (by omega)
   refine aA rfl ?_
   refine bB (Γ := bC [(56, .pure true eM)]) (fun k => if k = 12 then 0 else 2) [0, 1] bZ (aH ok60 aO) rfl rfl rfl (by kernel_rfl) (fun K hK => ?_)
   simp (disch := omega) only [Tryz.f32, go_sem, Nat.reduceAdd, Nat.reduceLT, ↓reduceIte, hd]
   refine hK _ ?_
   refine aB ?_
   have ea : (a : Int) + (k : Int) = ((a + k : Nat) : Int) := rfl
   refine aA rfl ?_
   refine aC (Γ := aL) [0, 1] (aD _ _) rfl rfl rfl (fun K hK => ?_)
   simp (disch := omega) only [Tryz.f32, go_sem, Nat.reduceAdd, Nat.reduceLeDiff, Nat.reduceLT, ↓reduceIte, ea]
   refine hK _ ?_
   refine aB ?_
   have es : ((a + k : Nat) : Int) - (k : Int) = (a : Int) := by omega
   have e2 : a + k - a = k := by omega
   refine aA rfl ?_
   refine bB (Γ := aL) (fun _ => 2) [4] bZ (aD _ _) rfl rfl rfl (by kernel_rfl) (fun K hK => ?_)
   simp (disch := omega) only [Tryz.f32, go_sem, Nat.reduceAdd, Nat.reduceLT, ↓reduceIte, es, e2, Int.toNat_natCast]
   refine hK _ ?_
   refine aB ?_
   refine aS rfl ?_
   exact ⟨by simp only [bV, bK, bQ, Tryz.f32, go_sem], by simp only [aV, if_true], ids_sl _ _, eD _ _ _⟩
  ·skip
   rw [takR_n hka]
   have hd : decide ((k : Int) ≤ (l.length : Int) - (a : Int)) = false := decide_eq_false (by omega)
   refine aA rfl ?_
   refine awp_panD (Γ := bC [(56, .pure true eM)]) 12 (fun _ => 2) bZ (fC) call60 (aH ok60 aO) rfl rfl rfl (by kernel_rfl) rfl (by kernel_rfl) (fun Z hZ => ?_)
   simp (disch := omega) only [Tryz.f32, go_sem, Nat.reduceAdd, Nat.reduceLT, ↓reduceIte, bG, eq_self, true_and, bP, List.map_cons, List.map_nil, List.append_nil, hd, List.take_succ_cons, List.take_zero]
   refine hZ _ ?_; clear hZ Z
   exact rfl
 ·cases hg
theorem take_pan : dE Tryz.prog GLh 32 chM (rdP fJ) := take_both.2
theorem call45 : cJ Tryz.prog 32 := ⟨_, Tryz.func32, rfl, rfl⟩
theorem ok45 : bX Tryz.prog GLh 32 (.heap (rdH fJ)) := ⟨⟨_, Tryz.func32, rfl, rfl⟩, take_both.1⟩
end Go.AX
namespace Go.AX
open Go Go.Proofs
theorem idF8 (s : List B8) (k : Nat) (h : k < s.length) : s[k]? = some (s.getD k 0#8) := by rw [List.getD_eq_getElem?_getD, List.getElem?_eq_getElem h]; rfl
def eK (l : List B8) : BitVec 32 := l.foldl (fun n x => (n <<< 8) ||| x.setWidth 32) 0#32
theorem getL_take (l : List B8) (k : Nat) (h : k < l.length) : eK (l.take (k + 1)) = (eK (l.take k) <<< 8) ||| (l.getD k 0#8).setWidth 32 := by
 unfold eK
 rw [List.take_succ_eq_append_getElem h, List.foldl_append, List.getD_eq_getElem?_getD, List.getElem?_eq_getElem h]; rfl
def numR (l : List B8) (k a : Nat) : Option (AV × List AV) := if k ≤ l.length - a then some (.w32 (eK ((l.drop a).take k)), [.sl l.length (c8 l), .i ((a + k : Nat) : Int)]) else none
theorem numR_y {l : List B8} {k a : Nat} (h : k ≤ l.length - a) : numR l k a = some (.w32 (eK ((l.drop a).take k)), [.sl l.length (c8 l), .i ((a + k : Nat) : Int)]) := if_pos h
theorem fB {l : List B8} {k a : Nat} (h : ¬ k ≤ l.length - a) : numR l k a = none := if_neg h
def eN : List AV → List AV → Option (Option (AV × List AV))
 | [.op _ 0, .i k], [.sl n xs, .i a] => aK (cI xs) fun l => aN (l.length = n ∧ 0 ≤ k ∧ k ≤ 4 ∧ 0 ≤ a ∧ a ≤ n ∧ n ≤ 100000) (some (numR l k.toNat a.toNat))
 | _, _ => none
theorem numG_eq (id n : Nat) (k a : Int) (xs : List AV) : eN [.op id 0, .i k] [.sl n xs, .i a] = aK (cI xs) fun l => aN (l.length = n ∧ 0 ≤ k ∧ k ≤ 4 ∧ 0 ≤ a ∧ a ≤ n ∧ n ≤ 100000) (some (numR l k.toNat a.toNat)) := (rfl)
attribute [go_sem] numG_eq
structure KC5 where
 k : Nat
 c : Nat
set_option maxHeartbeats 4000000 in
theorem num_both : cQ Tryz.prog GLh 43 (rdH eN) ∧ dE Tryz.prog GLh 43 chM (rdP eN) := by
 refine dT Tryz.func43 (aT rfl) ?_
 intro id off rest nx xs o hg
 unfold eN at hg
 split at hg
 ·rename_i id2 k0 n xs2 a0 heq
  simp only [List.cons.injEq, AV.op.injEq] at heq
  obtain ⟨⟨rfl, rfl⟩, rfl⟩ := heq
  replace hg := aJ hg; obtain ⟨l, hl, hg⟩ := hg
  replace hg := aP hg; obtain ⟨⟨rfl, hk, hkb, ha, han, hnb⟩, hg⟩ := hg
  obtain rfl := Option.some.inj hg
  have := bW hl; subst this
  obtain ⟨k, rfl⟩ := Int.eq_ofNat_of_zero_le hk
  obtain ⟨a, rfl⟩ := Int.eq_ofNat_of_zero_le ha
  simp only [Int.toNat_natCast] at *
  refine ⟨Nat.le_of_ble_eq_true rfl, fun hid => ?_⟩
  clear hl hg
  refine aA rfl ?_
  refine aC (Γ := aL) [0, 1] (aD _ _) rfl rfl rfl (fun K hK => ?_)
  simp (disch := omega) only [Tryz.f43, go_sem, Int.reduceLE, Int.reduceLT, BitVec.reduceOfInt, ↓reduceIte]
  refine hK _ ?_
  refine aB ?_
  refine aA rfl ?_
  refine aC (Γ := aL) [0, 1, 5] (aD _ _) rfl rfl rfl (fun K hK => ?_)
  simp (disch := omega) only [Tryz.f43, go_sem, Int.reduceLE, Int.reduceLT, BitVec.reduceOfInt, ↓reduceIte]
  refine hK _ ?_
  refine aB ?_
  by_cases hka : k ≤ l.length - a
  ·skip
   rw [numR_y hka]
   have ht := takR_y hka
   obtain ⟨d, hd⟩ : ∃ d, (l.drop a).take k = d := ⟨_, rfl⟩
   rw [hd] at ht ⊢
   have hdl : d.length = k := by rw [← hd, List.length_take, List.length_drop]; omega
   refine aA rfl ?_
   refine aA rfl ?_
   refine aC (Γ := bC [(32, .heap (rdH fJ))]) [5, 10, 11, 12] (aH ok45 aO) rfl rfl rfl (fun K hK => ?_)
   simp (disch := omega) only [Tryz.f43, go_sem, Nat.reduceAdd, ↓reduceIte, ht, Int.toNat_natCast]
   refine hK _ ?_
   refine aB ?_
   refine aR 0 rfl rfl ?_
   refine bR (fun p : KC5 => { fr := [(5, .w32 (eK (d.take p.k))), (10, .sl k (c8 d)), (11, .i (k : Int)), (12, .i (p.k : Int))], hp := upd (fun _ => none) id (.cells [.sl l.length (c8 l), .i ((a + k : Nat) : Int)] true), nx := 0, cx := p.c }) (fun p => p.k ≤ k) (fun p => k - p.k) rfl ⟨⟨0, _⟩, Nat.zero_le _, bD rfl rfl (Nat.le_refl _)⟩ ?_
   rintro ⟨i, c⟩ hi n0
   simp only at hi ⊢
   refine aA rfl ?_
   refine aC (Γ := aL) [13, 5, 10, 11, 12] (aD _ _) rfl rfl rfl (fun K hK => ?_)
   simp (disch := omega) only [Tryz.f43, go_sem, ↓reduceIte]
   refine hK _ ?_
   refine aB ?_
   refine aA rfl ?_
   refine aW (.tmp 13) rfl rfl rfl (fun h => ?_) (fun h => ?_)
   ·skip
    refine aI rfl ?_
    have hil : i < d.length := by omega
    have hix := idF8 d i hil
    have hst := getL_take d i hil
    refine aQ rfl ?_
    refine aB ?_
    refine aA rfl ?_
    refine aR 1 rfl rfl ?_
    refine aA rfl ?_
    refine aC (Γ := aL) [5, 7, 10, 11, 12] (aD _ _) rfl rfl rfl (fun K hK => ?_)
    simp (disch := omega) only [Tryz.f43, go_sem, Nat.reduceAdd, ↓reduceIte]
    refine hK _ ?_
    refine aB ?_
    refine aC (Γ := aL) [5, 10, 11, 12] (aD _ _) rfl rfl rfl (fun K hK => ?_)
    simp (disch := omega) only [Tryz.f43, go_sem, Nat.reduceAdd, Int.reduceLE, Int.reduceLT, BitVec.reduceOfInt, BitVec.reduceToNat, ↓reduceIte]
    refine hK _ ?_
    refine bU (aB ?_)
    refine aC (Γ := aL) [5, 10, 11, 12] (aD _ _) rfl rfl rfl (fun K hK => ?_)
    simp (disch := omega) only [Tryz.f43, go_sem, Nat.reduceAdd, ↓reduceIte]
    refine hK _ ?_
    refine bT ?_
    refine ⟨⟨i + 1, _⟩, by simp only; omega, by simp only; omega, bD ?_ rfl (Nat.le_refl _)⟩
    simp only [hst, Int.natCast_add, Int.natCast_one]
   ·skip
    refine aI rfl ?_
    obtain rfl : i = k := by omega
    have e1 : d.take i = d := List.take_of_length_le (by omega)
    refine bF 0 rfl rfl ?_
    refine aY (aZ (bE ?_))
    refine aB ?_
    refine aA rfl ?_
    refine aC (Γ := aL) [4] (aD _ _) rfl rfl rfl (fun K hK => ?_)
    simp (disch := omega) only [Tryz.f43, go_sem, Nat.reduceAdd, ↓reduceIte, e1]
    refine hK _ ?_
    refine aB ?_
    refine aS rfl ?_
    exact ⟨by simp only [bV, bK, bQ, Tryz.f43, go_sem], by simp only [aV, if_true], rfl, eD _ _ _⟩
  ·skip
   rw [fB hka]
   have ht := takR_n hka
   refine aA rfl ?_
   refine aA rfl ?_
   refine bH (Γ := bC [(32, .heap (rdH fJ))]) 2 (take_pan) call45 (aH ok45 aO) rfl rfl rfl (fun Z hZ => ?_)
   simp (disch := omega) only [Tryz.f43, go_sem, Nat.reduceAdd, ↓reduceIte, bG, eq_self, true_and, bP, List.map_cons, List.map_nil, List.append_nil, ht, Int.toNat_natCast, List.take_succ_cons, List.take_zero]
   refine hZ _ ?_; clear hZ Z
   exact rfl
 ·cases hg
theorem dK : dE Tryz.prog GLh 43 chM (rdP eN) := num_both.2
theorem eI : cJ Tryz.prog 43 := ⟨_, Tryz.func43, rfl, rfl⟩
theorem fL : bX Tryz.prog GLh 43 (.heap (rdH eN)) := ⟨⟨_, Tryz.func43, rfl, rfl⟩, num_both.1⟩
end Go.AX
namespace Go.AX
open Go Go.Proofs
theorem run_sl_tt {P : Program} {t e : TypeId} (hu : P.underlying t = some (.slice e)) (w : World) : (binOp .eql t (.slice none 0 0) (.slice none 0 0)).run P w = .ok (.bool true) w := by
 have k : (Op.equal t (.slice none 0 0) (.slice none 0 0)).run P w = .ok true w := by
  show (Op.equalIn (9999 + 1) t _ _).run P w = _
  rw [Op.equalIn, Sem.run_bind, run_underlying hu]; rfl
 simp only [binOp, Sem.run_bind, k, Result.andThen_ok, Sem.run_pure]
theorem run_sl_ff {P : Program} {t e : TypeId} (hu : P.underlying t = some (.slice e)) (a : Addr) (n cap : Nat) (w : World) : (binOp .eql t (.slice (some a) n cap) (.slice none 0 0)).run P w = .ok (.bool false) w := by
 have k : (Op.equal t (.slice (some a) n cap) (.slice none 0 0)).run P w = .ok false w := by
  show (Op.equalIn (9999 + 1) t _ _).run P w = _
  rw [Op.equalIn, Sem.run_bind, run_underlying hu]; rfl
 simp only [binOp, Sem.run_bind, k, Result.andThen_ok, Sem.run_pure]
set_option maxRecDepth 100000 in
theorem clone_nil (w : World) : Calls Tryz.prog 15 #[.slice none 0 0] w fun e w' => e = .returned (.slice none 0 0) ∧ w' = w := by
 have hd : ∀ w, (binOp .eql 23 (.slice none 0 0) (.slice none 0 0)).run Tryz.prog w = .ok (.bool true) w := run_sl_tt Tryz.underlying23
 go_enter Tryz.func15, Tryz.ntmps15
 go_wp2
 exact ⟨rfl, _, results_tmp rfl _ _ _, rfl, rfl⟩
set_option maxRecDepth 100000 in
theorem clone_zero (a : Addr) (cap : Nat) (w : World) : Calls Tryz.prog 15 #[.slice (some a) 0 cap] w fun e w' => (∃ b, e = .returned (.slice (some b) 0 0)) ∧ w' = w.alloc (.cells #[] 5) := by
 have hd : ∀ w, (binOp .eql 23 (.slice (some a) 0 cap) (.slice none 0 0)).run Tryz.prog w = .ok (.bool false) w := run_sl_ff Tryz.underlying23 a 0 cap
 go_enter Tryz.func15, Tryz.ntmps15
 go_wp2
 exact ⟨rfl, _, results_tmp rfl _ _ _, ⟨_, rfl⟩, rfl⟩
theorem rep0 (a : AV) : rep 0 [a] = [] := (rfl)
attribute [go_sem] rep0
def cloneG : List AV → Option (Nat × Nat × List AV)
 | [.sl n xs] => aK (cI xs) fun l => aN (l.length = n ∧ n ≤ 100000) (some (l.length, 1, c8 l))
 | _ => none
theorem cloneG_eq (n : Nat) (xs : List AV) : cloneG [.sl n xs] = aK (cI xs) fun l => aN (l.length = n ∧ n ≤ 100000) (some (l.length, 1, c8 l)) := (rfl)
def clone1G : List AV → Option (Nat × Nat × List AV)
 | [.sl n xs] => aK (cI xs) fun l => aN (l.length = n ∧ n ≤ 100000 ∧ 0 < n) (some (l.length, 1, c8 l))
 | _ => none
theorem isl23 : isSlT Tryz.prog 23 = true := by kernel_rfl
attribute [go_sem] cloneG_eq isl23
set_option maxHeartbeats 2000000 in
theorem clone1_ok : dH Tryz.prog GLh 15 clone1G := by
 refine cT Tryz.func15 (aT rfl) ?_
 intro args r hg
 unfold clone1G at hg
 split at hg
 ·rename_i n xs
  replace hg := aJ hg; obtain ⟨l, hl, hg⟩ := hg
  replace hg := aP hg; obtain ⟨⟨hn, hnb, hpos⟩, hg⟩ := hg
  obtain rfl := Option.some.inj hg
  have := bW hl; subst this
  refine ⟨Nat.le_of_ble_eq_true rfl, fun nx => ?_⟩
  clear hl hg
  subst hn
  refine aA rfl ?_
  refine aC (Γ := aL) [0] (aD _ _) rfl rfl rfl (fun K hK => ?_)
  simp (disch := omega) only [Tryz.f15, go_sem, ↓reduceIte]
  refine hK _ ?_
  refine aB ?_
  refine aA rfl ?_
  refine aA rfl ?_
  refine aC (Γ := aL) [4, 0] (aD _ _) rfl rfl rfl (fun K hK => ?_)
  simp (disch := omega) only [Tryz.f15, go_sem, Nat.reduceAdd, ↓reduceIte]
  refine hK _ ?_
  refine aB ?_
  refine bA (.tmp 4) rfl rfl rfl (fun h => ?_) (fun h => ?_)
  ·skip
   refine aI rfl ?_
   cases h
  ·skip
   refine aI rfl ?_
   clear h
   refine aQ rfl ?_
   refine aB ?_
   refine aA rfl ?_
   refine aC (Γ := aL) [2] (aD _ _) rfl rfl rfl (fun K hK => ?_)
   simp (disch := omega) only [Tryz.f15, go_sem, Nat.reduceAdd, Nat.reduceLeDiff, Nat.reduceLT, ↓reduceIte, List.length_nil, List.nil_append]
   refine hK _ ?_
   refine aB ?_
   refine aS rfl ?_
   simp (disch := omega) only [fE, eO, bV, bK, bQ, Tryz.f15, go_sem, ↓reduceIte]
 ·cases hg
theorem clone_ok : dH Tryz.prog GLh 15 cloneG := by
 intro σ I w nx args vals n e xs h1 h2 h3 hs hr hg
 have hg0 := hg
 unfold cloneG at hg
 split at hg
 ·rename_i m ys
  replace hg := aJ hg; obtain ⟨l, hl, hg⟩ := hg
  replace hg := aP hg; obtain ⟨⟨hn, hnb⟩, hg⟩ := hg
  by_cases hm : 0 < m
  ·refine clone1_ok σ I w nx _ vals n e xs h1 h2 h3 hs hr ?_
   unfold clone1G
   simp only [hl, aX]
   rw [cU _ ⟨hn, hnb, hm⟩]; exact hg
  ·obtain rfl : m = 0 := by omega
   obtain rfl : l = [] := List.eq_nil_of_length_eq_zero hn
   simp only [Option.some.injEq, Prod.mk.injEq] at hg; obtain ⟨rfl, rfl, rfl⟩ := hg
   obtain ⟨v, rfl, hv⟩ := one_val hs hr
   have key : ∀ a cap, v = .slice (some a) 0 cap → Calls Tryz.prog 15 #[v] w fun e' w' => ∃ v σ' I', e' = .returned v ∧ w'.os = w.os ∧ w'.tape = w.tape ∧ w'.output = w.output ∧ w.heap.size ≤ w'.heap.size ∧ (∀ k, k < w.heap.size → w'.heap[k]? = w.heap[k]?) ∧
     (∀ id, id < nx → σ' id = σ id) ∧ (∀ k, I' k → I k ∨ w.heap.size ≤ k) ∧ (∀ k, I' k → k < w'.heap.size) ∧
     (((v = .slice none 0 0 ∨ ∃ a, v = .slice (some a) 0 0) ∧ ([] : List B8).length = 0 ∧ c8 [] = []) ∨ ∃ blk base sz cap, v = .slice (some ⟨blk, base, none⟩) ([] : List B8).length cap ∧ ([] : List B8).length ≤ cap ∧ base + cap * 1 ≤ sz ∧ w.heap.size ≤ blk ∧ ¬ I' blk ∧ RowAt σ' I' w' (c8 []) blk base sz) := by
    intro a cap e
    subst e
    refine (clone_zero a cap w).mono ?_
    rintro e' w' ⟨⟨b, rfl⟩, rfl⟩
    obtain ⟨o, hw⟩ : ∃ o, (w.alloc (.cells #[] 5)).heap = w.heap.push o := ⟨_, rfl⟩
    have hsz : (w.alloc (.cells #[] 5)).heap.size = w.heap.size + 1 := by rw [hw, Array.size_push]
    refine ⟨_, σ, I, rfl, rfl, rfl, rfl, by omega, fun k hk => ?_, fun _ _ => rfl, fun _ h => .inl h, fun k hk => by have := h2 k hk; omega, .inl ⟨.inr ⟨b, rfl⟩, rfl, rfl⟩⟩
    rw [hw, Array.getElem?_push]
    rw [if_neg (by omega)]
   cases hv with
   | sl _ _ blk off cap f g1 g2 g3 g4 g5 => exact key _ _ rfl
   | slzero a => exact key _ _ rfl
   | slnil =>
    refine (clone_nil w).mono ?_
    rintro e' w' ⟨rfl, rfl⟩
    exact ⟨_, σ, I, rfl, rfl, rfl, rfl, Nat.le_refl _, fun _ _ => rfl, fun _ _ => rfl, fun _ h => .inl h, h2, .inl ⟨.inl rfl, rfl, rfl⟩⟩
 ·cases hg
theorem ok36 : bX Tryz.prog GLh 15 (.fresh true cloneG) := ⟨⟨_, Tryz.func15, rfl, rfl⟩, clone_ok⟩
end Go.AX
namespace Go.AX
open Go Go.Proofs
def restR (l : List B8) (a : Nat) : Option (AV × List AV) := some (.sl (l.length - a) (c8 (l.drop a)), [.sl l.length (c8 l), .i (l.length : Int)])
def restG : List AV → List AV → Option (Option (AV × List AV))
 | [.op _ 0], [.sl n xs, .i a] => aK (cI xs) fun l => aN (l.length = n ∧ 0 ≤ a ∧ a ≤ n ∧ n ≤ 100000) (some (restR l a.toNat))
 | _, _ => none
theorem restG_eq (id n : Nat) (a : Int) (xs : List AV) : restG [.op id 0] [.sl n xs, .i a] = aK (cI xs) fun l => aN (l.length = n ∧ 0 ≤ a ∧ a ≤ n ∧ n ≤ 100000) (some (restR l a.toNat)) := (rfl)
theorem restR_eq (l : List B8) (a : Nat) : restR l a = some (.sl (l.length - a) (c8 (l.drop a)), [.sl l.length (c8 l), .i (l.length : Int)]) := (rfl)
attribute [go_sem] restG_eq
set_option maxHeartbeats 4000000 in
theorem rest_both : cQ Tryz.prog GLh 44 (rdH restG) ∧ dE Tryz.prog GLh 44 chM (rdP restG) := by
 refine dT Tryz.func44 (aT rfl) ?_
 intro id off rest nx xs o hg
 unfold restG at hg
 split at hg
 ·rename_i id2 n xs2 a0 heq
  simp only [List.cons.injEq, AV.op.injEq] at heq
  obtain ⟨⟨rfl, rfl⟩, rfl⟩ := heq
  replace hg := aJ hg; obtain ⟨l, hl, hg⟩ := hg
  replace hg := aP hg; obtain ⟨⟨rfl, ha, han, hnb⟩, hg⟩ := hg
  obtain rfl := Option.some.inj hg
  have := bW hl; subst this
  obtain ⟨a, rfl⟩ := Int.eq_ofNat_of_zero_le ha
  simp only [Int.toNat_natCast] at *
  refine ⟨Nat.le_of_ble_eq_true rfl, fun hid => ?_⟩
  clear hl hg
  have ht := takR_y (l := l) (k := l.length - a) (a := a) (Nat.le_refl _)
  have ed : (l.drop a).take (l.length - a) = l.drop a := List.take_of_length_le (by rw [List.length_drop]; omega)
  have ea : a + (l.length - a) = l.length := by omega
  rw [ed, ea] at ht
  have es : (l.length : Int) - (a : Int) = ((l.length - a : Nat) : Int) := by omega
  have hdl : (l.drop a).length = l.length - a := List.length_drop ..
  obtain ⟨d, hd⟩ : ∃ d, l.drop a = d := ⟨_, rfl⟩
  rw [hd] at ht hdl
  rw [restR_eq, hd]
  refine aA rfl ?_
  refine aC (Γ := aL) [0] (aD _ _) rfl rfl rfl (fun K hK => ?_)
  simp (disch := omega) only [Tryz.f44, go_sem, ↓reduceIte]
  refine hK _ ?_
  refine aB ?_
  refine aA rfl ?_
  refine bB (Γ := bC [(32, .heap (rdH fJ)), (15, .fresh true cloneG)]) (fun k => if k = 11 then 0 else if k = 12 then 0 else 2) [2] bZ (aH ok45 (aH ok36 aO)) rfl rfl rfl (by kernel_rfl) (fun K hK => ?_)
  simp (disch := omega) only [Tryz.f44, go_sem, Nat.reduceAdd, Nat.reduceLT, ↓reduceIte, es, Int.toNat_natCast, ht, hdl]
  refine hK _ ?_
  refine aB ?_
  refine aS rfl ?_
  refine ⟨by simp (disch := omega) only [bV, bK, bQ, Tryz.f44, go_sem, aV, de_app, bY, eq_self, ↓reduceIte, hdl], by simp (disch := omega) only [aV, bY, ↓reduceIte, eq_self], ?_, ?_⟩
  ·exact ids_sl _ _
  ·exact eD _ _ _
 ·cases hg
theorem ok56 : bX Tryz.prog GLh 44 (.heap (rdH restG)) := ⟨⟨_, Tryz.func44, rfl, rfl⟩, rest_both.1⟩
def textR (l : List B8) (a : Nat) : Option (AV × List AV) := if a < l.length ∧ (l.getD a 0#8).toNat ≤ l.length - (a + 1) then some (.sl (l.getD a 0#8).toNat (c8 ((l.drop (a + 1)).take (l.getD a 0#8).toNat)), [.sl l.length (c8 l), .i ((a + 1 + (l.getD a 0#8).toNat : Nat) : Int)]) else none
def textG : List AV → List AV → Option (Option (AV × List AV))
 | [.op _ 0], [.sl n xs, .i a] => aK (cI xs) fun l => aN (l.length = n ∧ 0 ≤ a ∧ a ≤ n ∧ n ≤ 100000) (some (textR l a.toNat))
 | _, _ => none
theorem textG_eq (id n : Nat) (a : Int) (xs : List AV) : textG [.op id 0] [.sl n xs, .i a] = aK (cI xs) fun l => aN (l.length = n ∧ 0 ≤ a ∧ a ≤ n ∧ n ≤ 100000) (some (textR l a.toNat)) := (rfl)
attribute [go_sem] textG_eq
theorem get1 (l : List B8) (a : Nat) (h : a < l.length) : eK ((l.drop a).take 1) = (l.getD a 0#8).setWidth 32 := by
 have h2 : 0 < (l.drop a).length := by rw [List.length_drop]; omega
 rw [getL_take _ 0 h2, List.take_zero]
 have : (l.drop a).getD 0 0#8 = l.getD a 0#8 := by rw [List.getD_eq_getElem?_getD, List.getElem?_drop, ← List.getD_eq_getElem?_getD]; rfl
 rw [this]
 show 0#32 <<< 8 ||| _ = _
 simp
theorem set32 (x : B8) : (x.setWidth 32).toNat = x.toNat := by rw [BitVec.toNat_setWidth]; exact Nat.mod_eq_of_lt (by have := x.isLt; omega)
set_option maxHeartbeats 4000000 in
theorem text_both : cQ Tryz.prog GLh 60 (rdH textG) ∧ dE Tryz.prog GLh 60 chM (rdP textG) := by
 refine dT Tryz.func60 (aT rfl) ?_
 intro id off rest nx xs o hg
 unfold textG at hg
 split at hg
 ·rename_i id2 n xs2 a0 heq
  simp only [List.cons.injEq, AV.op.injEq] at heq
  obtain ⟨⟨rfl, rfl⟩, rfl⟩ := heq
  replace hg := aJ hg; obtain ⟨l, hl, hg⟩ := hg
  replace hg := aP hg; obtain ⟨⟨rfl, ha, han, hnb⟩, hg⟩ := hg
  obtain rfl := Option.some.inj hg
  have := bW hl; subst this
  obtain ⟨a, rfl⟩ := Int.eq_ofNat_of_zero_le ha
  simp only [Int.toNat_natCast] at *
  refine ⟨Nat.le_of_ble_eq_true rfl, fun hid => ?_⟩
  clear hl hg
  refine aA rfl ?_
  refine aC (Γ := aL) [0] (aD _ _) rfl rfl rfl (fun K hK => ?_)
  simp (disch := omega) only [Tryz.f60, go_sem, ↓reduceIte]
  refine hK _ ?_
  refine aB ?_
  by_cases h1 : a < l.length
  ·skip
   have hn1 := numR_y (l := l) (k := 1) (a := a) (by omega)
   rw [get1 l a h1] at hn1
   have hx := (l.getD a 0#8).isLt
   have hx32 := set32 (l.getD a 0#8)
   obtain ⟨x, hxx⟩ : ∃ x, l.getD a 0#8 = x := ⟨_, rfl⟩
   rw [hxx] at hn1 hx hx32
   by_cases h2 : x.toNat ≤ l.length - (a + 1)
   ·skip
    have ht := takR_y h2
    have hans : textR l a = some (.sl x.toNat (c8 ((l.drop (a + 1)).take x.toNat)), [.sl l.length (c8 l), .i ((a + 1 + x.toNat : Nat) : Int)]) := by unfold textR; rw [hxx]; exact if_pos ⟨h1, h2⟩
    obtain ⟨d, hd⟩ : ∃ d, (l.drop (a + 1)).take x.toNat = d := ⟨_, rfl⟩
    have hdl : d.length = x.toNat := by rw [← hd, List.length_take, List.length_drop]; omega
    rw [hd] at ht hans
    rw [hans]
    refine aA rfl ?_
    refine aC (Γ := bC [(43, .heap (rdH eN)), (32, .heap (rdH fJ)), (15, .fresh true cloneG)]) [2] (aH fL (aH ok45 (aH ok36 aO))) rfl rfl rfl (fun K hK => ?_)
    simp (disch := omega) only [Tryz.f60, go_sem, Nat.reduceAdd, Int.reduceLE, Int.reduceToNat, ↓reduceIte, hn1, hx32, Int.toNat_natCast, ht, hdl]
    refine hK _ ?_
    refine aB ?_
    refine aS rfl ?_
    refine ⟨by simp (disch := omega) only [bV, bK, bQ, Tryz.f60, go_sem, aV, de_app, bY, eq_self, ↓reduceIte, hdl], by simp (disch := omega) only [aV, bY, ↓reduceIte, eq_self], ?_, ?_⟩
    ·exact ids_sl _ _
    ·exact eD _ _ _
   ·skip
    have ht := takR_n h2
    have hans : textR l a = none := by unfold textR; rw [hxx]; exact if_neg fun h => h2 h.2
    rw [hans]
    refine aA rfl ?_
    refine bH (Γ := bC [(43, .heap (rdH eN)), (32, .heap (rdH fJ)), (15, .fresh true cloneG)]) 4 (take_pan) call45 (aH fL (aH ok45 (aH ok36 aO))) rfl rfl rfl (fun Z hZ => ?_)
    simp (disch := omega) only [Tryz.f60, go_sem, Nat.reduceAdd, Int.reduceLE, Int.reduceToNat, ↓reduceIte, bG, eq_self, true_and, bP, List.map_cons, List.map_nil, List.append_nil, hn1, hx32, Int.toNat_natCast, ht, List.take_succ_cons, List.take_zero]
    refine hZ _ ?_; clear hZ Z
    exact rfl
  ·skip
   have hn1 := fB (l := l) (k := 1) (a := a) (by omega)
   have hans : textR l a = none := by unfold textR; exact if_neg fun h => h1 h.1
   rw [hans]
   refine aA rfl ?_
   refine bH (Γ := bC [(43, .heap (rdH eN)), (32, .heap (rdH fJ)), (15, .fresh true cloneG)]) 2 (dK) eI (aH fL (aH ok45 (aH ok36 aO))) rfl rfl rfl (fun Z hZ => ?_)
   simp (disch := omega) only [Tryz.f60, go_sem, Nat.reduceAdd, Int.reduceLE, Int.reduceToNat, ↓reduceIte, bG, eq_self, true_and, bP, List.map_cons, List.map_nil, List.append_nil, hn1, Int.toNat_natCast, List.take_succ_cons, List.take_zero]
   refine hZ _ ?_; clear hZ Z
   exact rfl
 ·cases hg
theorem text_pan : dE Tryz.prog GLh 60 chM (rdP textG) := text_both.2
theorem call59 : cJ Tryz.prog 60 := ⟨_, Tryz.func60, rfl, rfl⟩
theorem ok59 : bX Tryz.prog GLh 60 (.heap (rdH textG)) := ⟨⟨_, Tryz.func60, rfl, rfl⟩, text_both.1⟩
end Go.AX
namespace Go.AX
open Go Go.Proofs
abbrev Nm := List (List B8)
def wl (ls : Nm) : Nat := 1 + (ls.map fun l => l.length + 1).sum
theorem wl_nil : wl [] = 1 := rfl
theorem wl_cons (l : List B8) (r : Nm) : wl (l :: r) = wl r + (l.length + 1) := by unfold wl; simp only [List.map_cons, List.sum_cons]; omega
theorem wl_app (p q : Nm) : wl (p ++ q) + 1 = wl p + wl q := by unfold wl; simp only [List.map_append, List.sum_append]; omega
theorem wl_snoc (p : Nm) (l : List B8) : wl (p ++ [l]) = wl p + (l.length + 1) := by have := wl_app p [l]; rw [wl_cons, wl_nil] at this; omega
theorem wl_take (ls : Nm) (k : Nat) (h : k < ls.length) : wl (ls.take (k + 1)) = wl (ls.take k) + ((ls.getD k []).length + 1) := by
 rw [List.take_succ_eq_append_getElem h, wl_snoc, List.getD_eq_getElem?_getD, List.getElem?_eq_getElem h]; rfl
theorem wl_take_le (ls : Nm) (k : Nat) : wl (ls.take k) ≤ wl ls := by
 have := wl_app (ls.take k) (ls.drop k)
 rw [List.take_append_drop] at this
 have h1 : 1 ≤ wl (ls.drop k) := by unfold wl; omega
 omega
def gZ (l : List B8) : Prop := 1 ≤ l.length ∧ l.length ≤ 63
instance (l : List B8) : Decidable (gZ l) := by unfold gZ; infer_instance
theorem ofv_empty : ofV (Value.string { data := #[] }) = .s [] := (rfl)
def chkG : List AV → Option AV
 | [.sl n xs] => aK (unS xs) fun ls => aN (ls.length = n ∧ n ≤ 1000000 ∧ ∀ l ∈ ls, gZ l) (some (.i (if 255 < wl ls then 31 else 0)))
 | _ => none
theorem chkG_eq (n : Nat) (xs : List AV) : chkG [.sl n xs] = aK (unS xs) fun ls => aN (ls.length = n ∧ n ≤ 1000000 ∧ ∀ l ∈ ls, gZ l) (some (.i (if 255 < wl ls then 31 else 0))) := (rfl)
attribute [go_sem] chkG_eq
theorem min_le (a b : Nat) : (if (b : Int) < (a : Int) then (b : Int) else (a : Int)) = ((min a b : Nat) : Int) := by split <;> omega
theorem lab_at {ls : Nm} (h : ∀ l ∈ ls, gZ l) {k : Nat} (hk : k < ls.length) : gZ (ls.getD k []) := by
 rw [List.getD_eq_getElem?_getD, List.getElem?_eq_getElem hk]; exact h _ (List.getElem_mem hk)
set_option maxHeartbeats 2000000 in
theorem chk_ok : cL Tryz.prog GLh 77 chkG := by
 refine cC Tryz.func77 (aT rfl) ?_
 intro args r hg
 unfold chkG at hg
 split at hg
 ·rename_i n xs
  replace hg := aJ hg; obtain ⟨ls, hl, hg⟩ := hg
  replace hg := aP hg; obtain ⟨⟨rfl, hn, hall⟩, hg⟩ := hg
  obtain rfl := Option.some.inj hg
  have := gT hl; subst this
  refine ⟨Nat.le_of_ble_eq_true rfl, fun nx => ?_⟩
  clear hl hg
  refine aA rfl ?_
  refine aC (Γ := aL) [0] (aD _ _) rfl rfl rfl (fun K hK => ?_)
  simp (disch := omega) only [Tryz.f77, go_sem, ↓reduceIte]
  refine hK _ ?_
  refine aB ?_
  refine aA rfl ?_
  refine aC (Γ := aL) [0, 3, 4] (aD _ _) rfl rfl rfl (fun K hK => ?_)
  simp (disch := omega) only [Tryz.f77, go_sem, Nat.reduceAdd, ↓reduceIte]
  refine hK _ ?_
  refine aB ?_
  refine aA rfl ?_
  refine aA rfl ?_
  refine aC (Γ := aL) [3, 4, 7, 8, 9] (aD _ _) rfl rfl rfl (fun K hK => ?_)
  simp (disch := omega) only [Tryz.f77, go_sem, Nat.reduceAdd, ↓reduceIte]
  refine hK _ ?_
  refine aB ?_
  refine aR 0 rfl rfl ?_
  refine bR (fun p : KC5 => { fr := [(3, .i ((min (wl (ls.take p.k)) 510 : Nat) : Int)), (4, .b false), (7, .sl ls.length (cS ls)), (8, .i (ls.length : Int)), (9, .i (p.k : Int))], hp := fun _ => none, nx := 0, cx := p.c }) (fun p => p.k ≤ ls.length) (fun p => ls.length - p.k) rfl ⟨⟨0, _⟩, Nat.zero_le _, bD rfl rfl (Nat.le_refl _)⟩ ?_
  rintro ⟨k, c⟩ hk n0
  simp only at hk ⊢
  refine aA rfl ?_
  refine aC (Γ := aL) [10, 3, 4, 7, 8, 9] (aD _ _) rfl rfl rfl (fun K hK => ?_)
  simp (disch := omega) only [Tryz.f77, go_sem, ↓reduceIte]
  refine hK _ ?_
  refine aB ?_
  refine aA rfl ?_
  refine aW (.tmp 10) rfl rfl rfl (fun h => ?_) (fun h => ?_)
  ·skip
   refine aI rfl ?_
   have hkl : k < ls.length := by omega
   have hlk := lab_at hall hkl
   have hst := wl_take ls k hkl
   obtain ⟨l, hl⟩ : ∃ l, ls.getD k [] = l := ⟨_, rfl⟩
   rw [hl] at hlk hst
   unfold gZ at hlk
   have hne : decide (l = []) = false := decide_eq_false fun e => by rw [e] at hlk; simp at hlk
   refine aQ rfl ?_
   refine aB ?_
   refine aA rfl ?_
   refine aR 1 rfl rfl ?_
   refine aA rfl ?_
   refine aC (Γ := aL) [3, 4, 6, 7, 8, 9] (aD _ _) rfl rfl rfl (fun K hK => ?_)
   simp (disch := omega) only [Tryz.f77, go_sem, Nat.reduceAdd, ↓reduceIte, hl]
   refine hK _ ?_
   refine aB ?_
   refine aA rfl ?_
   refine aA rfl ?_
   refine aC (Γ := aL) [14, 3, 4, 6, 7, 8, 9] (aD _ _) rfl rfl rfl (fun K hK => ?_)
   simp (disch := omega) only [Tryz.f77, go_sem, Nat.reduceAdd, ↓reduceIte, hne, ofv_empty]
   refine hK _ ?_
   refine aB ?_
   refine bA (.tmp 14) rfl rfl rfl (fun h => ?_) (fun h => ?_)
   ·skip
    refine aI rfl ?_
    cases h
   ·skip
    refine aI rfl ?_
    clear h
    refine aQ rfl ?_
    refine aB ?_
    refine aA rfl ?_
    have h63 : decide (63 < (l.length : Int)) = false := decide_eq_false (by omega)
    refine aC (Γ := aL) [3, 4, 6, 7, 8, 9] (aD _ _) rfl rfl rfl (fun K hK => ?_)
    simp (disch := omega) only [Tryz.f77, go_sem, Nat.reduceAdd, reduceCtorEq, ↓reduceIte, h63]
    refine hK _ ?_
    refine aB ?_
    have e1 : (if (255 : Int) < (l.length : Int) then (255 : Int) else (l.length : Int)) = (l.length : Int) := if_neg (by omega)
    have e2 : (if (510 : Int) < ((min (wl (ls.take k)) 510 : Nat) : Int) + 1 + (l.length : Int) then (510 : Int) else ((min (wl (ls.take k)) 510 : Nat) : Int) + 1 + (l.length : Int)) = ((min (wl (ls.take (k + 1))) 510 : Nat) : Int) := by rw [hst]; split <;> omega
    refine aC (Γ := aL) [3, 4, 7, 8, 9] (aD _ _) rfl rfl rfl (fun K hK => ?_)
    simp (disch := omega) only [Tryz.f77, go_sem, Nat.reduceAdd, ↓reduceIte, e1, e2]
    refine hK _ ?_
    refine bU (aB ?_)
    refine aC (Γ := aL) [3, 4, 7, 8, 9] (aD _ _) rfl rfl rfl (fun K hK => ?_)
    simp (disch := omega) only [Tryz.f77, go_sem, Nat.reduceAdd, ↓reduceIte]
    refine hK _ ?_
    refine bT ?_
    refine ⟨⟨k + 1, _⟩, by simp only; omega, by simp only; omega, bD ?_ rfl (Nat.le_refl _)⟩
    simp only [Int.natCast_add, Int.natCast_one]
  ·skip
   refine aI rfl ?_
   obtain rfl : k = ls.length := by omega
   have et : ls.take ls.length = ls := List.take_length
   refine bF 0 rfl rfl ?_
   refine aY (aZ (bE ?_))
   refine aB ?_
   refine aA rfl ?_
   refine aA rfl ?_
   by_cases hw : 255 < wl ls
   ·skip
    have hd : decide (255 < ((min (wl ls) 510 : Nat) : Int)) = true := decide_eq_true (by omega)
    refine aC (Γ := aL) [33] (aD _ _) rfl rfl rfl (fun K hK => ?_)
    simp (disch := omega) only [Tryz.f77, go_sem, Nat.reduceAdd, reduceCtorEq, ↓reduceIte, et, hd]
    refine hK _ ?_
    refine aB ?_
    refine bA (.tmp 33) rfl rfl rfl (fun h => ?_) (fun h => ?_)
    ·skip
     refine aI rfl ?_
     refine aA rfl ?_
     refine aC (Γ := aL) [2] (aD _ _) rfl rfl rfl (fun K hK => ?_)
     simp (disch := omega) only [Tryz.f77, go_sem, ↓reduceIte]
     refine hK _ ?_
     refine aB ?_
     refine aS rfl ?_
     refine bI ?_
     simp (disch := omega) only [cN, bV, bK, bQ, Tryz.f77, go_sem, ↓reduceIte, hw]
    ·skip
     refine aI rfl ?_
     cases h
   ·skip
    have hd : decide (255 < ((min (wl ls) 510 : Nat) : Int)) = false := decide_eq_false (by omega)
    refine aC (Γ := aL) [33] (aD _ _) rfl rfl rfl (fun K hK => ?_)
    simp (disch := omega) only [Tryz.f77, go_sem, Nat.reduceAdd, reduceCtorEq, ↓reduceIte, et, hd]
    refine hK _ ?_
    refine aB ?_
    refine bA (.tmp 33) rfl rfl rfl (fun h => ?_) (fun h => ?_)
    ·skip
     refine aI rfl ?_
     cases h
    ·skip
     refine aI rfl ?_
     clear h
     refine aQ rfl ?_
     refine aB ?_
     refine aA rfl ?_
     refine aC (Γ := aL) [2] (aD _ _) rfl rfl rfl (fun K hK => ?_)
     simp (disch := omega) only [Tryz.f77, go_sem, ↓reduceIte]
     refine hK _ ?_
     refine aB ?_
     refine aS rfl ?_
     simp (disch := omega) only [cN, bV, bK, bQ, Tryz.f77, go_sem, ↓reduceIte, hw]
 ·cases hg
theorem ok86 : bX Tryz.prog GLh 77 (.pure true chkG) := ⟨⟨_, Tryz.func77, rfl, rfl⟩, chk_ok⟩
end Go.AX
namespace Go.AX
open Go Go.Proofs
theorem cvb5 (hp hp2 : H) (cx id : Nat) (x : AV) (sd : Bool) : cvF hp hp2 cx id x Tryz.prog.underlying sd (some (.slice 5)) (some .string) = aK (fG hp2 1 x) fun nl => aK (cI nl.2) fun l => some (.s l, hp, cx) := cvF_b2s _ _ _ _ _ _ _ _ Tryz.underlying5
theorem cvs5 (hp hp2 : H) (cx id : Nat) (l : List B8) (sd : Bool) : cvF hp hp2 cx id (.s l) Tryz.prog.underlying sd (some .string) (some (.slice 5)) = aN (l.length ≤ 140737488355328) (some (.os id 0 l.length 1 true, upd hp id (.cells (l.map .w8) true), cx)) := cvF_s2b _ _ _ _ _ _ _ _ Tryz.underlying5
attribute [go_sem] cvb5 cvs5
def opN : Nat → List B8 → Option (Nm × Nat)
 | 0, _ => none
 | _ + 1, [] => none
 | f + 1, k :: r => if k.toNat = 0 then some ([], 1) else if 63 < k.toNat ∨ r.length < k.toNat then none else match opN f (r.drop k.toNat) with
  | some (n, s) => some (r.take k.toNat :: n, s + 1 + k.toNat)
  | none => none
def addN (ns : Nm) (i : Nat) : Option (Nm × Nat) → Option (Nm × Nat)
 | some (n, s) => some (ns ++ n, i + s)
 | none => none
theorem opN_nil (f : Nat) : opN (f + 1) [] = none := rfl
theorem opN_end {f : Nat} {b : List B8} {i : Nat} (h : i < b.length) (hk : (b.getD i 0#8).toNat = 0) : opN (f + 1) (b.drop i) = some ([], 1) := by
 rw [List.drop_eq_getElem_cons h, opN]
 rw [List.getD_eq_getElem?_getD, List.getElem?_eq_getElem h] at hk
 exact if_pos hk
theorem opN_bad {f : Nat} {b : List B8} {i : Nat} (h : i < b.length) (hk : ¬ (b.getD i 0#8).toNat = 0) (h2 : 63 < (b.getD i 0#8).toNat ∨ b.length - (i + 1) < (b.getD i 0#8).toNat) : opN (f + 1) (b.drop i) = none := by
 rw [List.drop_eq_getElem_cons h, opN]
 rw [List.getD_eq_getElem?_getD, List.getElem?_eq_getElem h] at hk h2
 simp only [Option.getD_some] at hk h2
 rw [if_neg hk, if_pos (by rw [List.length_drop]; exact h2)]
theorem opN_step {f : Nat} {b : List B8} {i : Nat} (ns : Nm) (h : i < b.length) (hk : ¬ (b.getD i 0#8).toNat = 0) (h2 : ¬ 63 < (b.getD i 0#8).toNat) (h3 : ¬ b.length - (i + 1) < (b.getD i 0#8).toNat) :
  addN ns i (opN (f + 1) (b.drop i)) = addN (ns ++ [(b.drop (i + 1)).take (b.getD i 0#8).toNat]) (i + 1 + (b.getD i 0#8).toNat) (opN f (b.drop (i + 1 + (b.getD i 0#8).toNat))) := by
 rw [List.drop_eq_getElem_cons h, opN]
 rw [List.getD_eq_getElem?_getD, List.getElem?_eq_getElem h] at hk h2 h3 ⊢
 simp only [Option.getD_some] at hk h2 h3 ⊢
 rw [if_neg hk, if_neg (by rw [List.length_drop]; omega), List.drop_drop]
 cases opN f (b.drop (i + 1 + b[i].toNat)) with
 | none => rfl
 | some p => obtain ⟨n, s⟩ := p; simp only [addN, List.append_assoc, List.singleton_append]; congr 2; omega
theorem opN_ok : ∀ (f : Nat) (b : List B8) (n : Nm) (s : Nat), opN f b = some (n, s) → (∀ l ∈ n, gZ l) ∧ wl n = s ∧ s ≤ b.length
 | 0, _, _, _, h => by cases h
 | _ + 1, [], _, _, h => by cases h
 | f + 1, k :: r, n, s, h => by
  rw [opN] at h
  split at h
  ·simp only [Option.some.injEq, Prod.mk.injEq] at h; obtain ⟨rfl, rfl⟩ := h
   exact ⟨fun l hl => (by cases hl), rfl, by simp⟩
  ·rename_i h1
   split at h
   ·cases h
   ·rename_i h2
    split at h
    ·rename_i n2 s2 e
     simp only [Option.some.injEq, Prod.mk.injEq] at h; obtain ⟨rfl, rfl⟩ := h
     obtain ⟨a1, a2, a3⟩ := opN_ok f _ _ _ e
     rw [List.length_drop] at a3
     have hl : (r.take k.toNat).length = k.toNat := by rw [List.length_take]; omega
     refine ⟨fun l hl2 => ?_, ?_, by rw [List.length_cons]; omega⟩
     ·rcases List.mem_cons.1 hl2 with rfl | hl2
      ·unfold gZ; omega
      ·exact a1 l hl2
     ·rw [wl_cons, hl, a2]; omega
    ·cases h
def o1T : Option (Nm × Nat) → Option AV
 | some (n, s) => some (.tup [.sl n.length (cS n), .i (s : Int)])
 | none => none
theorem o1T_s (n : Nm) (s : Nat) : o1T (some (n, s)) = some (.tup [.sl n.length (cS n), .i (s : Int)]) := (rfl)
attribute [go_sem] o1T_s
def o1G : List AV → Option (Option AV)
 | [.rp [.sl n xs]] => aK (cI xs) fun b => aN (b.length = n ∧ n ≤ 100000) (some (o1T (opN (b.length + 1) b)))
 | _ => none
theorem o1G_eq (n : Nat) (xs : List AV) : o1G [.rp [.sl n xs]] = aK (cI xs) fun b => aN (b.length = n ∧ n ≤ 100000) (some (o1T (opN (b.length + 1) b))) := (rfl)
attribute [go_sem] o1G_eq
theorem fail30 : dE Tryz.prog GLh 72 (chF 30) (failP 30) := fail_pan 30
structure SON where
 i : Nat
 f : Nat
 id : Nat
 ns : Nm
 c : Nat
set_option maxHeartbeats 4000000 in
theorem o1_both : cL Tryz.prog GLh 71 (ppG o1G) ∧ dE Tryz.prog GLh 71 (chF 30) (ppP o1G) := by
 refine pp_of_awp Tryz.func71 (aT rfl) ?_
 intro args o hg
 unfold o1G at hg
 split at hg
 ·rename_i n xs
  replace hg := aJ hg; obtain ⟨b, hl, hg⟩ := hg
  replace hg := aP hg; obtain ⟨⟨rfl, hn⟩, hg⟩ := hg
  obtain rfl := Option.some.inj hg
  have := bW hl; subst this
  refine ⟨Nat.le_of_ble_eq_true rfl, fun nx => ?_⟩
  clear hl hg
  obtain ⟨ans, hans⟩ : ∃ a, opN (b.length + 1) b = a := ⟨_, rfl⟩
  rw [hans]
  have hadd : addN [] 0 (opN (b.length + 1) (b.drop 0)) = ans := by
   rw [List.drop_zero, hans]
   cases ans with
   | none => rfl
   | some p => obtain ⟨n, s⟩ := p; simp [addN]
  refine aA rfl ?_
  refine aC (Γ := aL) [0] (aD _ _) rfl rfl rfl (fun K hK => ?_)
  simp (disch := omega) only [Tryz.f71, go_sem, Nat.reduceAdd, ↓reduceIte]
  refine hK _ ?_
  refine aB ?_
  refine aA rfl ?_
  refine aC (Γ := aL) [0, 3] (aD _ _) rfl rfl rfl (fun K hK => ?_)
  simp (disch := omega) only [Tryz.f71, go_sem, ↓reduceIte]
  refine hK _ ?_
  refine aB ?_
  refine aA rfl ?_
  refine aC (Γ := aL) [0, 3, 4] (aD _ _) rfl rfl rfl (fun K hK => ?_)
  simp (disch := omega) only [Tryz.f71, go_sem, ↓reduceIte]
  refine hK _ ?_
  refine aB ?_
  refine iE 3 1 rfl ?_
  refine fF [0, 3, 4] ?_
  simp only [iB, fU, eB, ↓reduceIte, Nat.reduceEqDiff]
  refine aR 0 rfl rfl ?_
  refine bR (fun p : SON => { fr := [(0, .rp [.sl b.length (c8 b)]), (3, .os p.id 0 p.ns.length 1 true), (4, .i (p.i : Int))], hp := upd (fun _ => none) p.id (.cells (cS p.ns) true), nx := 0, cx := p.c }) (fun p => p.i ≤ b.length ∧ p.ns.length ≤ p.i ∧ b.length < p.i + p.f ∧ addN p.ns p.i (opN p.f (b.drop p.i)) = ans ∧ p.id < p.c) (fun p => b.length - p.i) rfl ⟨⟨0, b.length + 1, _, [], _⟩, ⟨Nat.zero_le _, Nat.zero_le _, by simp only; omega, hadd, by simp only; omega⟩, bD rfl rfl (Nat.le_refl _)⟩ ?_
  rintro ⟨i, f, id, ns, cx⟩ ⟨hi, hnl, hf, hop, hid⟩ n0
  simp only at hi hnl hf hop hid ⊢
  refine aR 1 rfl rfl ?_
  refine aA rfl ?_
  refine aA rfl ?_
  refine aC (Γ := aL) [9, 0, 3, 4] (aD _ _) rfl rfl rfl (fun K hK => ?_)
  simp (disch := omega) only [Tryz.f71, go_sem, Nat.reduceAdd, ↓reduceIte]
  refine hK _ ?_
  refine aB ?_
  refine aW (.tmp 9) rfl rfl rfl (fun h => ?_) (fun h => ?_)
  ·skip
   refine aI rfl ?_
   obtain ⟨g, rfl⟩ : ∃ g, f = g + 1 := ⟨f - 1, by omega⟩
   have hno : ans = none := by
    rw [← hop, List.drop_of_length_le (by omega), opN_nil]; rfl
   refine bH (Γ := aL) 0 (fail30) call81 (aD _ _) rfl rfl rfl (fun Z hZ => ?_)
   simp (disch := omega) only [Tryz.f71, go_sem, bG, eq_self, true_and, bP, List.map_cons, List.map_nil, List.append_nil, List.take_zero]
   refine hZ _ ?_; clear hZ Z
   rw [hno]
   exact rfl
  ·skip
   refine aI rfl ?_
   have hil : i < b.length := by omega
   obtain ⟨g, rfl⟩ : ∃ g, f = g + 1 := ⟨f - 1, by omega⟩
   have hend := opN_end (f := g) hil
   have hbad := opN_bad (f := g) hil
   have hstep := opN_step (f := g) ns hil
   obtain ⟨k, hk⟩ : ∃ k, b.getD i 0#8 = k := ⟨_, rfl⟩
   rw [hk] at hend hbad hstep
   have hkl := k.isLt
   refine aQ rfl ?_
   refine aB ?_
   refine aA rfl ?_
   refine aC (Γ := aL) [0, 3, 4, 5] (aD _ _) rfl rfl rfl (fun K hK => ?_)
   simp (disch := omega) only [Tryz.f71, go_sem, Nat.reduceAdd, ↓reduceIte, hk]
   refine hK _ ?_
   refine aB ?_
   refine aA rfl ?_
   refine aA rfl ?_
   refine aC (Γ := aL) [17, 0, 3, 4, 5] (aD _ _) rfl rfl rfl (fun K hK => ?_)
   simp (disch := omega) only [Tryz.f71, go_sem, Nat.reduceAdd, ↓reduceIte]
   refine hK _ ?_
   refine aB ?_
   refine aW (.tmp 17) rfl rfl rfl (fun h => ?_) (fun h => ?_)
   ·skip
    refine aI rfl ?_
    have hno : ans = none := by rw [← hop, hbad (by omega) (.inl (by omega))]; rfl
    refine bH (Γ := aL) 0 (fail30) call81 (aD _ _) rfl rfl rfl (fun Z hZ => ?_)
    simp (disch := omega) only [Tryz.f71, go_sem, bG, eq_self, true_and, bP, List.map_cons, List.map_nil, List.append_nil, List.take_zero]
    refine hZ _ ?_; clear hZ Z
    rw [hno]
    exact rfl
   ·skip
    refine aI rfl ?_
    refine aQ rfl ?_
    refine aB ?_
    refine aA rfl ?_
    refine aC (Γ := aL) [0, 3, 4, 5] (aD _ _) rfl rfl rfl (fun K hK => ?_)
    simp (disch := omega) only [Tryz.f71, go_sem, Nat.reduceAdd, ↓reduceIte]
    refine hK _ ?_
    refine aB ?_
    refine aA rfl ?_
    refine aA rfl ?_
    refine aC (Γ := aL) [22, 0, 3, 4, 5] (aD _ _) rfl rfl rfl (fun K hK => ?_)
    simp (disch := omega) only [Tryz.f71, go_sem, Nat.reduceAdd, ↓reduceIte]
    refine hK _ ?_
    refine aB ?_
    refine aW (.tmp 22) rfl rfl rfl (fun h => ?_) (fun h => ?_)
    ·skip
     refine aI rfl ?_
     have hyes : ans = some (ns, i + 1) := by rw [← hop, hend (by omega)]; simp [addN]
     refine aA rfl ?_
     refine aC (Γ := aL) [1, 2] (aD _ _) rfl rfl rfl (fun K hK => ?_)
     simp (disch := omega) only [Tryz.f71, go_sem, Nat.reduceAdd, ↓reduceIte]
     refine hK _ ?_
     refine aB ?_
     rw [hyes]
     have ei : (i : Int) + 1 = ((i + 1 : Nat) : Int) := rfl
     refine aS rfl ?_
     refine bI (bN (dF (bN ?_)))
     simp (disch := omega) only [cN, bV, bK, bQ, Tryz.f71, go_sem, ↓reduceIte, ei]
    ·skip
     refine aI rfl ?_
     refine aQ rfl ?_
     refine aB ?_
     refine aA rfl ?_
     refine aA rfl ?_
     refine aC (Γ := aL) [30, 0, 3, 4, 5] (aD _ _) rfl rfl rfl (fun K hK => ?_)
     simp (disch := omega) only [Tryz.f71, go_sem, Nat.reduceAdd, ↓reduceIte]
     refine hK _ ?_
     refine aB ?_
     refine aW (.tmp 30) rfl rfl rfl (fun h => ?_) (fun h => ?_)
     ·skip
      refine aI rfl ?_
      have hno : ans = none := by rw [← hop, hbad (by omega) (.inr (by omega))]; rfl
      refine bH (Γ := aL) 0 (fail30) call81 (aD _ _) rfl rfl rfl (fun Z hZ => ?_)
      simp (disch := omega) only [Tryz.f71, go_sem, bG, eq_self, true_and, bP, List.map_cons, List.map_nil, List.append_nil, List.take_zero]
      refine hZ _ ?_; clear hZ Z
      rw [hno]
      exact rfl
     ·skip
      refine aI rfl ?_
      have hst := hstep (by omega) (by omega) (by omega)
      rw [hop] at hst
      have e1 : ((i : Int) + 1).toNat = i + 1 := by omega
      have e2 : ((i : Int) + 1 + (k.toNat : Int)).toNat = i + 1 + k.toNat := by omega
      have e3 : i + 1 + k.toNat - (i + 1) = k.toNat := by omega
      obtain ⟨d, hd⟩ : ∃ d, (b.drop (i + 1)).take k.toNat = d := ⟨_, rfl⟩
      have hdl : d.length = k.toNat := by rw [← hd, List.length_take, List.length_drop]; omega
      rw [hd] at hst
      refine aQ rfl ?_
      refine aB ?_
      refine aC (Γ := aL) [0, 3, 4] (aD _ _) rfl rfl rfl (fun K hK => ?_)
      simp (disch := omega) only [Tryz.f71, go_sem, Nat.reduceAdd, Nat.reduceLeDiff, Nat.reduceLT, ↓reduceIte, e1, e2, e3, hd, hdl]
      refine hK _ ?_
      refine bU (bT ?_)
      have hsn : cS ns ++ [AV.s d] = cS (ns ++ [d]) := cS_app ns [d]
      refine ⟨⟨i + 1 + k.toNat, g, cx + 4 + 6 + 2 + 3 + 2 + 6 + 9, ns ++ [d], _⟩, ⟨by simp only; omega, by simp only [List.length_append, List.length_singleton]; omega, by simp only; omega, hst.symm, by simp only; omega⟩, by simp only; omega, ⟨fun _ => .inr ?_, fun j o h => ?_, Nat.le_refl _⟩⟩
      ·simp only [List.length_append, List.length_singleton, Int.natCast_add, Int.natCast_one]
      ·simp only at h
       exact bS (by simp (disch := omega) only [aV, ↓reduceIte, eq_self, hsn]) (cB) j o h
 ·cases hg
theorem o1_pan : dE Tryz.prog GLh 71 (chF 30) (ppP o1G) := o1_both.2
theorem call80 : cJ Tryz.prog 71 := ⟨_, Tryz.func71, rfl, rfl⟩
theorem ok80 : bX Tryz.prog GLh 71 (.pure false (ppG o1G)) := ⟨⟨_, Tryz.func71, rfl, rfl⟩, o1_both.1⟩
end Go.AX
