/-
  Hash, part R: from calls over abstract values to the given rows. Hash, part T: the global table; the lift of a statement's call to its row.
-/
import Derived.Test.YtkpgebeipmedeaaDoorBG
import Derived.Test.YtkpgebeipmedeaaDoorRows
import Derived.ProofKit
import Derived.LaidMore
import Derived.OpenShut
import Derived.Stop.Joined
import Derived.WideKeyArgs
import Derived.SevenTiedAt
import Derived.Below
import Derived.ChangeSame
import Derived.Test.YtkpgebeipmedeaaDoorTie
import Derived.Test.YtkpgebeipmedeaaDoorCards
namespace Go.AX
open Go Go.Proofs Go.RowKit Go.WideShapes Go.ChangeShapes

section
variable {H : Type} {enc : TypeId × Value → H} {P : Program}

theorem trodAll_stays (hl : laidOutB P = true) {W W' : World} {sp : Nat → Bool} : ∀ {ts : List TypeId} {vs : List Value} {ds : List (DataW H)} {ps : List MemPlace}, (ts.all fun t => P.readableRec t && decide (t < P.types.size)) = true →
    DataW.TrodAll enc P W 0 (fun _ => true) true ts vs ds ps → (∀ p ∈ ps, W.sameAt W' p) → (∀ p ∈ ps, sp p.block = true) → DataW.TrodAll enc P W' 0 sp true ts vs ds ps
  | [], [], [], _, _, h, _, _ => h
  | t :: ts, v :: vs, d :: ds, ps, ha, h, hs, hp => by
    obtain ⟨p, q, h1, h2, e⟩ := h
    simp only [List.all_cons, Bool.and_eq_true, decide_eq_true_eq] at ha
    refine ⟨p, q, WideElems.Trod_stays hl ha.1.1 ha.1.2 h1 (fun x hx => hs x (by rw [e]; exact List.mem_append_left _ hx)) (fun x hx => hp x (by rw [e]; exact List.mem_append_left _ hx)), ?_, e⟩
    exact trodAll_stays hl (by simpa using ha.2) h2 (fun x hx => hs x (by rw [e]; exact List.mem_append_right _ hx)) (fun x hx => hp x (by rw [e]; exact List.mem_append_right _ hx))
  | [], _ :: _, _, _, _, h, _, _ => h.elim
  | [], [], _ :: _, _, _, h, _, _ => h.elim
  | _ :: _, [], _, _, _, h, _, _ => h.elim
  | _ :: _, _ :: _, [], _, _, h, _, _ => h.elim

/-- The row's last step, where old memory stays as it was and the answer is true. -/
theorem post_true {f : Func} {s : ChangeSpec} {apart fresh handsOn again : Bool} {W W' : World} {args : Array Value} {ds gs : List (DataW H)} {before : List MemPlace} {tb : TypeId}
    (hl : laidOutB P = true) (hro : (f.params.toList.all fun t => P.readableRec t && decide (t < P.types.size)) = true) (hrt : f.resultTypes = #[tb]) (htb : P.underlying tb = some .bool) (hvs : s.vars = [])
    (hfn : s.fn H (ds ++ gs) = { results := [.lit (.bool true)], args := ds })
    (hW : DataW.Whole enc P f.params.toList s.vars apart W args.toList ds gs before) (hb : Below W.heap.size W W') :
    s.post enc P f apart fresh handsOn again W args (.bool true) W' := by
  have hlt : ∀ p ∈ before, p.block < W.heap.size := fun p hp => hW.lt p hp
  have hW' := hW
  obtain ⟨p, q, hA, hV, hpq, hz, hn⟩ := hW
  have hq : q = [] ∧ gs = [] := by
    rw [hvs] at hV
    cases gs with
    | nil => exact ⟨hV, rfl⟩
    | cons g r => exact hV.elim
  obtain ⟨rfl, rfl⟩ := hq
  rw [List.append_nil] at hpq
  subst hpq
  have hargs : ∀ sp : Nat → Bool, (∀ p ∈ before, sp p.block = true) → DataW.TrodAll enc P W' 0 sp true f.params.toList args.toList (s.fn H (ds ++ [])).args before := by
    intro sp hsp
    rw [hfn]
    exact trodAll_stays hl hro hA (fun x hx => hb.same (hlt x hx)) hsp
  have hres : ∀ (b : Nat) (sp : Nat → Bool) (hd : Bool), DataW.TrodAll enc P W' b sp hd f.resultTypes.toList ((Value.bool true).resultList f.resultTypes.size) (s.fn H (ds ++ [])).results [] := by
    intro b sp hd
    rw [hfn, hrt]
    exact trodAll_mk1 (shut_bool htb true)
  have hvars : ∀ sp : Nat → Bool, (∀ p ∈ before, sp p.block = true) → DataW.TrodVars enc P W' sp s.vars (s.fn H (ds ++ [])).vars [] := by
    intro sp _
    rw [hfn, hvs]; rfl
  have hold : ∀ p ∈ before, (fun b => decide (b < W.heap.size)) p.block = true := fun p hp => by simpa using hlt p hp
  refine ⟨ds, [], before, [], before, [], hW', hres _ _ _, hargs _ hold, hvars _ hold, World.keptBut_mono (fun p hp => ⟨hp, ?_⟩) (hb.frame (· ∈ before)), fun _ => ?_⟩
  · exact Or.inr (by simpa using hp)
  · refine ⟨ok_one hrt rfl (okWide_bool_mk htb true), _, _, ([] ++ before) ++ [], ⟨[] ++ before, [], trodAll_append (hargs _ (fun _ _ => rfl)) (hres _ _ _), hvars _ (fun _ _ => rfl), rfl, ?_, ?_⟩, ?_⟩
    · intro b off hp
      have hin : MemPlace.cell b off ∈ before := by simpa using hp
      rw [hb.frozen (hlt _ hin)]
      exact hz b off hin
    · intro ha
      have := hn ha
      simpa using this
    · intro p hp _
      simpa using hp
end

/-! What arguments read as, in abstract values: every block that there is stays as it is. -/
section
variable {H : Type} {enc : TypeId × Value → H} {P : Program} {W : World} {σ : Nat → Loc}

/-- A type whose values are one cell, read as what Q tells. -/
def Opens (enc : TypeId × Value → H) (P : Program) (W : World) (σ : Nat → Loc) (t : TypeId) (Q : AV → Prop) : Prop :=
  ∀ (m : Nat) (cs : List Value) (x : DataW H × List MemPlace), DataW.trod enc P W 0 (fun _ => true) true m t cs = some x → ∃ v y, cs = [v] ∧ Q y ∧ y.isCell = true ∧ Rel σ (fun k => k < W.heap.size) W y v

theorem wf_bound {k : IntKind} {n : Int} (h : (Lit.int k n).wf = true) : k.min ≤ n ∧ n ≤ k.max := by
  simpa [Lit.wf] using h

theorem opens_u8 {t : TypeId} (ht : P.underlying t = some (.int .u8)) : Opens enc P W σ t (fun y => ∃ b : B8, y = .w8 b) := by
  intro m cs x h
  obtain ⟨n, rfl, _, hw⟩ := DataW.trod_int ht h
  have hb := wf_bound hw
  have e1 : IntKind.min .u8 = 0 := by decide
  have e2 : IntKind.max .u8 = 255 := by decide
  rw [e1, e2] at hb
  refine ⟨_, .w8 (BitVec.ofInt 8 n), rfl, ⟨_, rfl⟩, rfl, ?_⟩
  have e : ((BitVec.ofInt 8 n).toNat : Int) = n := by simp [BitVec.toNat_ofInt]; omega
  have := Rel.w8 (σ := σ) (I := fun k => k < W.heap.size) (w := W) (BitVec.ofInt 8 n)
  rwa [e] at this
end
end Go.AX

namespace Go.AX
open Go Go.Proofs Go.RowKit Go.WideShapes Go.ChangeShapes Go.Proofs.YtkpgebeipmedeaaDoor

theorem laidOutT : laidOutB Tryd.prog = true := by kernel_rfl
theorem ownT : ownKnob Tryd.prog.godebug = none := by kernel_rfl
theorem gRounds : Tryd.prog.globalNamed "signet/hash.rounds" = some 0 := by kernel_rfl
theorem tRounds : (Tryd.prog.globals[0]?).map (·.type) = some 131 := by kernel_rfl
def laid1 : List (String × DataW Unit) := [("signet/hash.rounds", Rows.laid_signet_hash_rounds)]
theorem laid_KT {H : Type} : (Rows.laid_signet_hash_rounds : DataW H) = .agg (KT.map fun x => .lit (.int .u32 (x.toNat : Int))) := rfl
theorem c29 : Tryd.prog.cellsOf 29 = 1 := by kernel_rfl
theorem door_met (os : Os) (args : Array Value) : laidMetH Tryd.prog laid1 ((World.doorLaid Tryd.prog 400 os).forCall (fun _ _ => 0) ⟨#[], args, []⟩).memory :=
  laidMetH_of_parts3 (fuel := 8) (laidMet_of_run' 8 (by kernel_rfl) (by kernel_rfl)) (by kernel_rfl) (by kernel_rfl)

theorem glob_of_laid {W : World} (h : laidMetH Tryd.prog laid1 W) (σ : Nat → Loc) : 0 < W.heap.size ∧ Rel σ (fun k => k < W.heap.size) W (.rp (c32 KT)) (.pointer (some ⟨0, 0, none⟩)) := by
  rw [MakeChecks.laidMetH_plain _ _ _ (by kernel_rfl)] at h
  obtain ⟨ps, ⟨g0, t0, cs0, f0, p0, q0, hg0, ht0, hv0, hd0, _⟩, _⟩ := h
  obtain rfl := Option.some.inj (gRounds.symm.trans hg0)
  obtain rfl := Option.some.inj (tRounds.symm.trans ht0)
  obtain ⟨xs, m1, rfl, hx1, hlen, hn3, hel⟩ := DataW.trod_array Tryd.underlying131 hd0
  have hx : Rows.laid_signet_hash_rounds = DataW.agg (xs.map (·.1)) := by
    have := congrArg Prod.fst hx1
    simpa using this
  rw [laid_KT, DataW.agg.injEq] at hx
  have hcell : ∀ i (h : i < 64), W.cell? ⟨0, i, none⟩ = some (.int .u32 ((KT.getD i 0#32).toNat : Int)) := by
    intro i hi
    have h1 := hel i hi
    rw [c29, Nat.mul_one, List.getElem?_eq_getElem (by omega : i < xs.length)] at h1
    obtain ⟨n, e1, e2, _⟩ := DataW.trod_int Tryd.underlying29 h1
    have hk : (KT.map fun x => (DataW.lit (.int .u32 (x.toNat : Int)) : DataW Unit))[i]? = (xs.map (·.1))[i]? := by rw [hx]
    rw [List.getElem?_map, List.getElem?_map, List.getElem?_eq_getElem (by omega : i < xs.length), e2, List.getElem?_eq_getElem (by rw [KT_len]; exact hi)] at hk
    simp only [Option.map_some, Option.some.injEq, DataW.lit.injEq, Lit.int.injEq, true_and] at hk
    have := World.var?_cell hg0 hv0 i
    have e3 : cs0[i]? = some (.int .u32 n) := by
      have := congrArg (·[0]?) e1
      simpa [List.getElem?_take, List.getElem?_drop] using this
    rw [this, e3, ← hk, List.getD_eq_getElem?_getD, List.getElem?_eq_getElem (by rw [KT_len]; exact hi)]
    rfl
  have h0 := hcell 0 (by omega)
  have hlt : 0 < W.heap.size := by
    simp only [World.cell?] at h0
    split at h0
    · rename_i hh; exact (Array.getElem?_eq_some_iff.1 hh).1
    · cases h0
  refine ⟨hlt, .rp (c32 KT) 0 0 (fun i => .int .u32 ((KT.getD i 0#32).toNat : Int)) hlt (fun i hi => ?_) (fun i hi => ?_) (fun i hi => ?_)⟩
  · rw [c32_len, KT_len] at hi
    rw [Nat.zero_add]; exact hcell i hi
  · simp [c32, AV.isCell]
  · have hi2 : i < KT.length := by rw [c32_len] at hi; exact hi
    have : (c32 KT)[i] = .w32 (KT.getD i 0#32) := by
      simp [c32, List.getD_eq_getElem?_getD, List.getElem?_eq_getElem hi2]
    have r := Rel.w32 (σ := σ) (I := fun k => k < W.heap.size) (w := W) (KT.getD i 0#32)
    rw [← this] at r; exact r

/-- The call of a statement that answers true, in the row's world. -/
theorem law_calls {f : Nat} {g : List AV → Option AV} (hf : PureOK Tryd.prog GLh f g) {W : World} (hL : laidMetH Tryd.prog laid1 W) {args : List AV} {vals : Array Value} (hs : vals.size = args.length)
    (hr : ∀ i (_h : i < args.length), Rel (fun _ => .unset) (fun k => k < W.heap.size) W args[i] (vals.getD i undef)) (hg : g args = some (.b true)) :
    Calls Tryd.prog f vals W fun e W' => e = .returned (.bool true) ∧ Below W.heap.size W W' := by
  obtain ⟨h0, hgl⟩ := glob_of_laid hL (fun _ => .unset)
  refine (hf (fun _ => .unset) (fun k => k < W.heap.size) W 0 args vals _ (fun _ _ => rfl) (fun _ h => h) (fun g xs h => ?_) hs hr hg).mono ?_
  · unfold GLh at h
    split at h
    · rename_i e; subst e; obtain rfl := Option.some.inj h; exact hgl
    · cases h
  · rintro e w' ⟨v, σ', I', rfl, a1, a2, a3, a4, a5, _, _, _, a9⟩
    cases a9
    exact ⟨rfl, a1, a2, a3, a4, a5⟩

theorem arg_of {H : Type} {enc : TypeId × Value → H} {P : Program} {W : World} {σ : Nat → Loc} {t : TypeId} {Q : AV → Prop} {v : Value} {d : DataW H} {ps : List MemPlace} (ho : Opens enc P W σ t Q) (hv : v.cells.toList = [v]) (h : DataW.Trod enc P W 0 (fun _ => true) true t v d ps) :
    ∃ y, Q y ∧ Rel σ (fun k => k < W.heap.size) W y v := by
  obtain ⟨m, h⟩ := h
  obtain ⟨v', y, e, hq, _, hr⟩ := ho m _ _ h
  rw [hv] at e
  obtain rfl : v = v' := by simpa using e
  exact ⟨y, hq, hr⟩
theorem arg_int {H : Type} {enc : TypeId × Value → H} {P : Program} {W W2 : World} {σ : Nat → Loc} {t : TypeId} {k : IntKind} {Q : AV → Prop} {v : Value} {d : DataW H} {ps : List MemPlace} {r : Reach} {b : Nat} (ht : P.underlying t = some (.int k)) (hval : Value.okWide P W2 r b t v) (ho : Opens enc P W σ t Q) (h : DataW.Trod enc P W 0 (fun _ => true) true t v d ps) :
    ∃ y, Q y ∧ Rel σ (fun k => k < W.heap.size) W y v := by
  obtain ⟨n, rfl⟩ := okWide_int ht hval
  exact arg_of ho rfl h
end Go.AX
