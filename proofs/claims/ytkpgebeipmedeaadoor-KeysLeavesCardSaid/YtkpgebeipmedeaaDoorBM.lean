/-
  Hash, part R: from calls over abstract values to the given rows. Hash, part T: the global table; the lift of a statement's call to its row.
-/
import Derived.Test.YtkpgebeipmedeaaDoorBG
import Derived.Test.YtkpgebeipmedeaaDoorRows
import Derived.ProofKit
import Derived.LaidMore
import Derived.OpenShut
import Derived.Stop.Joined
import Derived.WideKeyArgs
import Derived.SevenTiedAt
import Derived.Below
import Derived.ChangeSame
import Derived.Test.YtkpgebeipmedeaaDoorTie
import Derived.Test.YtkpgebeipmedeaaDoorCards
namespace Go.AX
open Go Go.Proofs Go.RowKit Go.WideShapes Go.ChangeShapes

section
variable {H : Type} {enc : TypeId × Value → H} {P : Program}

theorem trodAll_stays (hl : laidOutB P = true) {W W' : World} {sp : Nat → Bool} : ∀ {ts : List TypeId} {vs : List Value} {ds : List (DataW H)} {ps : List MemPlace}, (ts.all fun t => P.readableRec t && decide (t < P.types.size)) = true →
    DataW.TrodAll enc P W 0 (fun _ => true) true ts vs ds ps → (∀ p ∈ ps, W.sameAt W' p) → (∀ p ∈ ps, sp p.block = true) → DataW.TrodAll enc P W' 0 sp true ts vs ds ps
  | [], [], [], _, _, h, _, _ => h
  | t :: ts, v :: vs, d :: ds, ps, ha, h, hs, hp => by
    obtain ⟨p, q, h1, h2, e⟩ := h
    simp only [List.all_cons, Bool.and_eq_true, decide_eq_true_eq] at ha
    refine ⟨p, q, WideElems.Trod_stays hl ha.1.1 ha.1.2 h1 (fun x hx => hs x (by rw [e]; exact List.mem_append_left _ hx)) (fun x hx => hp x (by rw [e]; exact List.mem_append_left _ hx)), ?_, e⟩
    exact trodAll_stays hl (by simpa using ha.2) h2 (fun x hx => hs x (by rw [e]; exact List.mem_append_right _ hx)) (fun x hx => hp x (by rw [e]; exact List.mem_append_right _ hx))
  | [], _ :: _, _, _, _, h, _, _ => h.elim
  | [], [], _ :: _, _, _, h, _, _ => h.elim
  | _ :: _, [], _, _, _, h, _, _ => h.elim
  | _ :: _, _ :: _, [], _, _, h, _, _ => h.elim

/-- The row's last step, where old memory stays as it was and the answer is true. -/
theorem post_true {f : Func} {s : ChangeSpec} {apart fresh handsOn again : Bool} {W W' : World} {args : Array Value} {ds gs : List (DataW H)} {before : List MemPlace} {tb : TypeId}
    (hl : laidOutB P = true) (hro : (f.params.toList.all fun t => P.readableRec t && decide (t < P.types.size)) = true) (hrt : f.resultTypes = #[tb]) (htb : P.underlying tb = some .bool) (hvs : s.vars = [])
    (hfn : s.fn H (ds ++ gs) = { results := [.lit (.bool true)], args := ds })
    (hW : DataW.Whole enc P f.params.toList s.vars apart W args.toList ds gs before) (hb : Below W.heap.size W W') :
    s.post enc P f apart fresh handsOn again W args (.bool true) W' := by
  have hlt : ∀ p ∈ before, p.block < W.heap.size := fun p hp => hW.lt p hp
  have hW' := hW
  obtain ⟨p, q, hA, hV, hpq, hz, hn⟩ := hW
  have hq : q = [] ∧ gs = [] := by
    rw [hvs] at hV
    cases gs with
    | nil => exact ⟨hV, rfl⟩
    | cons g r => exact hV.elim
  obtain ⟨rfl, rfl⟩ := hq
  rw [List.append_nil] at hpq
  subst hpq
  have hargs : ∀ sp : Nat → Bool, (∀ p ∈ before, sp p.block = true) → DataW.TrodAll enc P W' 0 sp true f.params.toList args.toList (s.fn H (ds ++ [])).args before := by
    intro sp hsp
    rw [hfn]
    exact trodAll_stays hl hro hA (fun x hx => hb.same (hlt x hx)) hsp
  have hres : ∀ (b : Nat) (sp : Nat → Bool) (hd : Bool), DataW.TrodAll enc P W' b sp hd f.resultTypes.toList ((Value.bool true).resultList f.resultTypes.size) (s.fn H (ds ++ [])).results [] := by
    intro b sp hd
    rw [hfn, hrt]
    exact trodAll_mk1 (shut_bool htb true)
  have hvars : ∀ sp : Nat → Bool, (∀ p ∈ before, sp p.block = true) → DataW.TrodVars enc P W' sp s.vars (s.fn H (ds ++ [])).vars [] := by
    intro sp _
    rw [hfn, hvs]; rfl
  have hold : ∀ p ∈ before, (fun b => decide (b < W.heap.size)) p.block = true := fun p hp => by simpa using hlt p hp
  refine ⟨ds, [], before, [], before, [], hW', hres _ _ _, hargs _ hold, hvars _ hold, World.keptBut_mono (fun p hp => ⟨hp, ?_⟩) (hb.frame (· ∈ before)), fun _ => ?_⟩
  · exact Or.inr (by simpa using hp)
  · refine ⟨ok_one hrt rfl (okWide_bool_mk htb true), _, _, ([] ++ before) ++ [], ⟨[] ++ before, [], trodAll_append (hargs _ (fun _ _ => rfl)) (hres _ _ _), hvars _ (fun _ _ => rfl), rfl, ?_, ?_⟩, ?_⟩
    · intro b off hp
      have hin : MemPlace.cell b off ∈ before := by simpa using hp
      rw [hb.frozen (hlt _ hin)]
      exact hz b off hin
    · intro ha
      have := hn ha
      simpa using this
    · intro p hp _
      simpa using hp
end

/-! What arguments read as, in abstract values: every block that there is stays as it is. -/
section
variable {H : Type} {enc : TypeId × Value → H} {P : Program} {W : World} {σ : Nat → Loc}

/-- A type whose values are one cell, read as what Q tells. -/
def Opens (enc : TypeId × Value → H) (P : Program) (W : World) (σ : Nat → Loc) (t : TypeId) (Q : AV → Prop) : Prop :=
  ∀ (m : Nat) (cs : List Value) (x : DataW H × List MemPlace), DataW.trod enc P W 0 (fun _ => true) true m t cs = some x → ∃ v y, cs = [v] ∧ Q y ∧ y.isCell = true ∧ Rel σ (fun k => k < W.heap.size) W y v

theorem wf_bound {k : IntKind} {n : Int} (h : (Lit.int k n).wf = true) : k.min ≤ n ∧ n ≤ k.max := by
  simpa [Lit.wf] using h

theorem opens_u8 {t : TypeId} (ht : P.underlying t = some (.int .u8)) : Opens enc P W σ t (fun y => ∃ b : B8, y = .w8 b) := by
  intro m cs x h
  obtain ⟨n, rfl, _, hw⟩ := DataW.trod_int ht h
  have hb := wf_bound hw
  have e1 : IntKind.min .u8 = 0 := by decide
  have e2 : IntKind.max .u8 = 255 := by decide
  rw [e1, e2] at hb
  refine ⟨_, .w8 (BitVec.ofInt 8 n), rfl, ⟨_, rfl⟩, rfl, ?_⟩
  have e : ((BitVec.ofInt 8 n).toNat : Int) = n := by simp [BitVec.toNat_ofInt]; omega
  have := Rel.w8 (σ := σ) (I := fun k => k < W.heap.size) (w := W) (BitVec.ofInt 8 n)
  rwa [e] at this
theorem opens_u16 {t : TypeId} (ht : P.underlying t = some (.int .u16)) : Opens enc P W σ t (fun y => ∃ b : BitVec 16, y = .w16 b) := by
  intro m cs x h
  obtain ⟨n, rfl, _, hw⟩ := DataW.trod_int ht h
  have hb := wf_bound hw
  have e1 : IntKind.min .u16 = 0 := by decide
  have e2 : IntKind.max .u16 = 65535 := by decide
  rw [e1, e2] at hb
  refine ⟨_, .w16 (BitVec.ofInt 16 n), rfl, ⟨_, rfl⟩, rfl, ?_⟩
  have e : ((BitVec.ofInt 16 n).toNat : Int) = n := by simp [BitVec.toNat_ofInt]; omega
  have := Rel.w16 (σ := σ) (I := fun k => k < W.heap.size) (w := W) (BitVec.ofInt 16 n)
  rwa [e] at this
theorem opens_u32 {t : TypeId} (ht : P.underlying t = some (.int .u32)) : Opens enc P W σ t (fun y => ∃ b : W32, y = .w32 b) := by
  intro m cs x h
  obtain ⟨n, rfl, _, hw⟩ := DataW.trod_int ht h
  have hb := wf_bound hw
  have e1 : IntKind.min .u32 = 0 := by decide
  have e2 : IntKind.max .u32 = 4294967295 := by decide
  rw [e1, e2] at hb
  refine ⟨_, .w32 (BitVec.ofInt 32 n), rfl, ⟨_, rfl⟩, rfl, ?_⟩
  have e : ((BitVec.ofInt 32 n).toNat : Int) = n := by simp [BitVec.toNat_ofInt]; omega
  have := Rel.w32 (σ := σ) (I := fun k => k < W.heap.size) (w := W) (BitVec.ofInt 32 n)
  rwa [e] at this
theorem opens_i64 {t : TypeId} (ht : P.underlying t = some (.int .i64)) : Opens enc P W σ t (fun y => ∃ n : Int, y = .i n ∧ -9223372036854775808 ≤ n ∧ n ≤ 9223372036854775807) := by
  intro m cs x h
  obtain ⟨n, rfl, _, hw⟩ := DataW.trod_int ht h
  have hb := wf_bound hw
  have e1 : IntKind.min .i64 = -9223372036854775808 := by decide
  have e2 : IntKind.max .i64 = 9223372036854775807 := by decide
  rw [e1, e2] at hb
  exact ⟨_, .i n, rfl, ⟨_, rfl, hb⟩, rfl, .i _⟩
theorem opens_bool {t : TypeId} (ht : P.underlying t = some .bool) : Opens enc P W σ t (fun y => ∃ b : Bool, y = .b b) := by
  intro m cs x h
  obtain ⟨b, rfl, _⟩ := DataW.trod_bool ht h
  exact ⟨_, .b b, rfl, ⟨_, rfl⟩, rfl, .b _⟩
theorem opens_string {t : TypeId} (ht : P.underlying t = some .string) : Opens enc P W σ t (fun y => ∃ l : List B8, y = .s l ∧ l.length ≤ 9223372036854775807) := by
  intro m cs x h
  obtain ⟨s, rfl, _, hs⟩ := DataW.trod_string ht h
  refine ⟨_, .s (s.data.toList.map UInt8.toBitVec), rfl, ⟨_, rfl, ?_⟩, rfl, ?_⟩
  · rw [List.length_map, Array.length_toList]
    unfold maxLen at hs
    have : s.data.size = s.size := rfl
    omega
  · have e : encS (s.data.toList.map UInt8.toBitVec) = s := by simp [encS, List.map_map, Function.comp_def]
    have := Rel.s (σ := σ) (I := fun k => k < W.heap.size) (w := W) (s.data.toList.map UInt8.toBitVec)
    rwa [e] at this

theorem cells1 {base : Nat} {a : Addr} {l : List Value} (h : W.cells? base a 1 = some l) : ∃ v, l = [v] ∧ W.cell? a = some v := by
  unfold World.cells? at h
  split at h
  · simp only [List.range_one, List.mapM_cons, List.mapM_nil, bind, Option.bind_eq_some_iff, pure, Option.some.injEq] at h
    obtain ⟨v, hv, l', rfl, rfl⟩ := h
    exact ⟨v, rfl, by simpa [Addr.add] using hv⟩
  · cases h

theorem opens_slice {t e : TypeId} {Q : AV → Prop} (ht : P.underlying t = some (.slice e)) (hc : P.cellsOf e = 1) (he : Opens enc P W σ e Q) :
    Opens enc P W σ t (fun y => ∃ xs : List AV, y = .sl xs.length xs ∧ (∀ z ∈ xs, Q z) ∧ xs.length ≤ 9223372036854775807) := by
  intro m cs x h
  rcases DataW.trod_slice ht h with ⟨rfl, _⟩ | ⟨a, len, cap, elems, rest, n, rfl, rfl, rfl, hb, hl, hm, hlen, hel, hsp, _⟩
  · exact ⟨_, .sl 0 [], rfl, ⟨[], rfl, by simp, by simp⟩, rfl, .slnil⟩
  · have hmax : len ≤ 9223372036854775807 := by unfold maxLen at hm; omega
    have get : ∀ i, i < len → ∃ v y, W.cell? (a.add i) = some v ∧ Q y ∧ y.isCell = true ∧ Rel σ (fun k => k < W.heap.size) W y v := by
      intro i hi
      have h1 := hel i hi
      rw [hc, Nat.mul_one] at h1
      rw [List.getElem?_eq_getElem (by omega : i < elems.length)] at h1
      obtain ⟨l, hl1, hl2⟩ := Option.bind_eq_some_iff.1 h1
      obtain ⟨v, rfl, hv⟩ := cells1 hl1
      obtain ⟨v', y, e1, hq, hcell, hr⟩ := he _ _ _ hl2
      obtain rfl : v = v' := by simpa using e1
      exact ⟨v, y, hv, hq, hcell, hr⟩
    by_cases h0 : len = 0
    · subst h0
      by_cases hcap : cap = 0
      · subst hcap
        exact ⟨_, .sl 0 [], rfl, ⟨[], rfl, by simp, by simp⟩, rfl, .slzero a⟩
      · obtain ⟨hr1, hr2⟩ := hsp rfl
        have h1 := hr2 0 (by omega)
        rw [hc, List.getElem?_eq_getElem (by omega : 0 < rest.length)] at h1
        obtain ⟨l, hl1, _⟩ := Option.bind_eq_some_iff.1 h1
        obtain ⟨v, rfl, hv⟩ := cells1 hl1
        have hspot : a.spot = none := by
          have := World.cell?_spot hv
          simpa [Addr.add] using this
        have hblk : a.block < W.heap.size := by
          simp only [World.cell?, Addr.add] at hv
          split at hv
          · rename_i hh; exact (Array.getElem?_eq_some_iff.1 hh).1
          · cases hv
        obtain ⟨blk, off, spot⟩ := a
        subst hspot
        exact ⟨_, .sl 0 [], rfl, ⟨[], rfl, by simp, by simp⟩, rfl, .sl 0 [] blk off cap (fun _ => undef) hblk (by omega) (fun i hi => by simp at hi) (fun i hi => by simp at hi) (fun i hi => by simp at hi)⟩
    · have hex : ∀ i : Fin len, ∃ p : Value × AV, W.cell? (a.add i.1) = some p.1 ∧ Q p.2 ∧ p.2.isCell = true ∧ Rel σ (fun k => k < W.heap.size) W p.2 p.1 := by
        intro i
        obtain ⟨v, y, h⟩ := get i.1 i.2
        exact ⟨(v, y), h⟩
      obtain ⟨F, hF⟩ := Classical.axiomOfChoice hex
      have hv0 := (hF ⟨0, by omega⟩).1
      simp only [Addr.add, if_true] at hv0
      have hspot : a.spot = none := World.cell?_spot hv0
      have hblk : a.block < W.heap.size := by
        simp only [World.cell?] at hv0
        split at hv0
        · rename_i hh; exact (Array.getElem?_eq_some_iff.1 hh).1
        · cases hv0
      obtain ⟨blk, off, spot⟩ := a
      subst hspot
      have hlx : (List.ofFn fun i => (F i).2).length = len := List.length_ofFn
      refine ⟨_, .sl len (List.ofFn fun i => (F i).2), rfl, ⟨_, by rw [hlx], ?_, by rw [hlx]; exact hmax⟩, rfl, ?_⟩
      · intro z hz
        rw [List.mem_ofFn] at hz
        obtain ⟨i, rfl⟩ := hz
        exact (hF i).2.1
      · refine .sl len _ blk off cap (fun i => if h : i < len then (F ⟨i, h⟩).1 else undef) hblk hl (fun i hi => ?_) (fun i hi => ?_) (fun i hi => ?_)
        · rw [hlx] at hi
          rw [dif_pos hi]; have := (hF ⟨i, hi⟩).1; rwa [add_off] at this
        · rw [hlx] at hi
          rw [List.getElem_ofFn]; exact (hF ⟨i, hi⟩).2.2.1
        · rw [hlx] at hi
          rw [dif_pos hi, List.getElem_ofFn]; exact (hF ⟨i, hi⟩).2.2.2

theorem all_w8 : ∀ {xs : List AV}, (∀ z ∈ xs, ∃ b : B8, z = .w8 b) → ∃ l : List B8, xs = c8 l
  | [], _ => ⟨[], rfl⟩
  | x :: r, h => by
    obtain ⟨b, rfl⟩ := h x (by simp)
    obtain ⟨l, hl⟩ := all_w8 (xs := r) (fun z hz => h z (by simp [hz]))
    exact ⟨b :: l, by rw [hl]; rfl⟩
theorem opens_bytes {t e : TypeId} (ht : P.underlying t = some (.slice e)) (hc : P.cellsOf e = 1) (he : P.underlying e = some (.int .u8)) :
    Opens enc P W σ t (fun y => ∃ l : List B8, y = .sl l.length (c8 l) ∧ l.length ≤ 9223372036854775807) := by
  intro m cs x h
  obtain ⟨v, y, e1, ⟨xs, rfl, hq, hlen⟩, h2, h3⟩ := opens_slice ht hc (opens_u8 he) m cs x h
  obtain ⟨l, rfl⟩ := all_w8 hq
  rw [c8_len] at hlen h3
  exact ⟨v, _, e1, ⟨l, rfl, hlen⟩, rfl, h3⟩
theorem all_sl8 : ∀ {xs : List AV}, (∀ z ∈ xs, ∃ l : List B8, z = .sl l.length (c8 l) ∧ l.length ≤ 9223372036854775807) → ∃ ps : List (List B8), xs = cP ps
  | [], _ => ⟨[], rfl⟩
  | x :: r, h => by
    obtain ⟨b, rfl, _⟩ := h x (by simp)
    obtain ⟨l, hl⟩ := all_sl8 (xs := r) (fun z hz => h z (by simp [hz]))
    exact ⟨b :: l, by rw [hl]; rfl⟩
theorem opens_blobs {t e e2 : TypeId} (ht : P.underlying t = some (.slice e)) (hc : P.cellsOf e = 1) (he : P.underlying e = some (.slice e2)) (hc2 : P.cellsOf e2 = 1) (he2 : P.underlying e2 = some (.int .u8)) :
    Opens enc P W σ t (fun y => ∃ ps : List (List B8), y = .sl ps.length (cP ps) ∧ ps.length ≤ 9223372036854775807) := by
  intro m cs x h
  obtain ⟨v, y, e1, ⟨xs, rfl, hq, hlen⟩, h2, h3⟩ := opens_slice ht hc (opens_bytes he hc2 he2) m cs x h
  obtain ⟨ps, rfl⟩ := all_sl8 hq
  rw [cP_len] at hlen h3
  exact ⟨v, _, e1, ⟨ps, rfl, hlen⟩, rfl, h3⟩
end
end Go.AX

namespace Go.AX
open Go Go.Proofs Go.RowKit Go.WideShapes Go.ChangeShapes Go.Proofs.YtkpgebeipmedeaaDoor

theorem laidOutT : laidOutB Tryd.prog = true := by kernel_rfl
theorem ownT : ownKnob Tryd.prog.godebug = none := by kernel_rfl
theorem gRounds : Tryd.prog.globalNamed "signet/hash.rounds" = some 0 := by kernel_rfl
theorem tRounds : (Tryd.prog.globals[0]?).map (·.type) = some 131 := by kernel_rfl
def laid1 : List (String × DataW Unit) := [("signet/hash.rounds", Rows.laid_signet_hash_rounds)]
theorem laid_KT {H : Type} : (Rows.laid_signet_hash_rounds : DataW H) = .agg (KT.map fun x => .lit (.int .u32 (x.toNat : Int))) := rfl
theorem c29 : Tryd.prog.cellsOf 29 = 1 := by kernel_rfl
theorem c5 : Tryd.prog.cellsOf 5 = 1 := by kernel_rfl
theorem c23 : Tryd.prog.cellsOf 23 = 1 := by kernel_rfl

theorem door_met (os : Os) (args : Array Value) : laidMetH Tryd.prog laid1 ((World.doorLaid Tryd.prog 400 os).forCall (fun _ _ => 0) ⟨#[], args, []⟩).memory :=
  laidMetH_of_parts3 (fuel := 8) (laidMet_of_run' 8 (by kernel_rfl) (by kernel_rfl)) (by kernel_rfl) (by kernel_rfl)

theorem glob_of_laid {W : World} (h : laidMetH Tryd.prog laid1 W) (σ : Nat → Loc) : 0 < W.heap.size ∧ Rel σ (fun k => k < W.heap.size) W (.rp (c32 KT)) (.pointer (some ⟨0, 0, none⟩)) := by
  rw [MakeChecks.laidMetH_plain _ _ _ (by kernel_rfl)] at h
  obtain ⟨ps, ⟨g0, t0, cs0, f0, p0, q0, hg0, ht0, hv0, hd0, _⟩, _⟩ := h
  obtain rfl := Option.some.inj (gRounds.symm.trans hg0)
  obtain rfl := Option.some.inj (tRounds.symm.trans ht0)
  obtain ⟨xs, m1, rfl, hx1, hlen, hn3, hel⟩ := DataW.trod_array Tryd.underlying131 hd0
  have hx : Rows.laid_signet_hash_rounds = DataW.agg (xs.map (·.1)) := by
    have := congrArg Prod.fst hx1
    simpa using this
  rw [laid_KT, DataW.agg.injEq] at hx
  have hcell : ∀ i (h : i < 64), W.cell? ⟨0, i, none⟩ = some (.int .u32 ((KT.getD i 0#32).toNat : Int)) := by
    intro i hi
    have h1 := hel i hi
    rw [c29, Nat.mul_one, List.getElem?_eq_getElem (by omega : i < xs.length)] at h1
    obtain ⟨n, e1, e2, _⟩ := DataW.trod_int Tryd.underlying29 h1
    have hk : (KT.map fun x => (DataW.lit (.int .u32 (x.toNat : Int)) : DataW Unit))[i]? = (xs.map (·.1))[i]? := by rw [hx]
    rw [List.getElem?_map, List.getElem?_map, List.getElem?_eq_getElem (by omega : i < xs.length), e2, List.getElem?_eq_getElem (by rw [KT_len]; exact hi)] at hk
    simp only [Option.map_some, Option.some.injEq, DataW.lit.injEq, Lit.int.injEq, true_and] at hk
    have := World.var?_cell hg0 hv0 i
    have e3 : cs0[i]? = some (.int .u32 n) := by
      have := congrArg (·[0]?) e1
      simpa [List.getElem?_take, List.getElem?_drop] using this
    rw [this, e3, ← hk, List.getD_eq_getElem?_getD, List.getElem?_eq_getElem (by rw [KT_len]; exact hi)]
    rfl
  have h0 := hcell 0 (by omega)
  have hlt : 0 < W.heap.size := by
    simp only [World.cell?] at h0
    split at h0
    · rename_i hh; exact (Array.getElem?_eq_some_iff.1 hh).1
    · cases h0
  refine ⟨hlt, .rp (c32 KT) 0 0 (fun i => .int .u32 ((KT.getD i 0#32).toNat : Int)) hlt (fun i hi => ?_) (fun i hi => ?_) (fun i hi => ?_)⟩
  · rw [c32_len, KT_len] at hi
    rw [Nat.zero_add]; exact hcell i hi
  · simp [c32, AV.isCell]
  · have hi2 : i < KT.length := by rw [c32_len] at hi; exact hi
    have : (c32 KT)[i] = .w32 (KT.getD i 0#32) := by
      simp [c32, List.getD_eq_getElem?_getD, List.getElem?_eq_getElem hi2]
    have r := Rel.w32 (σ := σ) (I := fun k => k < W.heap.size) (w := W) (KT.getD i 0#32)
    rw [← this] at r; exact r

/-- The call of a statement that answers true, in the row's world. -/
theorem law_calls {f : Nat} {g : List AV → Option AV} (hf : PureOK Tryd.prog GLh f g) {W : World} (hL : laidMetH Tryd.prog laid1 W) {args : List AV} {vals : Array Value} (hs : vals.size = args.length)
    (hr : ∀ i (_h : i < args.length), Rel (fun _ => .unset) (fun k => k < W.heap.size) W args[i] (vals.getD i undef)) (hg : g args = some (.b true)) :
    Calls Tryd.prog f vals W fun e W' => e = .returned (.bool true) ∧ Below W.heap.size W W' := by
  obtain ⟨h0, hgl⟩ := glob_of_laid hL (fun _ => .unset)
  refine (hf (fun _ => .unset) (fun k => k < W.heap.size) W 0 args vals _ (fun _ _ => rfl) (fun _ h => h) (fun g xs h => ?_) hs hr hg).mono ?_
  · unfold GLh at h
    split at h
    · rename_i e; subst e; obtain rfl := Option.some.inj h; exact hgl
    · cases h
  · rintro e w' ⟨v, σ', I', rfl, a1, a2, a3, a4, a5, _, _, _, a9⟩
    cases a9
    exact ⟨rfl, a1, a2, a3, a4, a5⟩

theorem arg_of {H : Type} {enc : TypeId × Value → H} {P : Program} {W : World} {σ : Nat → Loc} {t : TypeId} {Q : AV → Prop} {v : Value} {d : DataW H} {ps : List MemPlace} (ho : Opens enc P W σ t Q) (hv : v.cells.toList = [v]) (h : DataW.Trod enc P W 0 (fun _ => true) true t v d ps) :
    ∃ y, Q y ∧ Rel σ (fun k => k < W.heap.size) W y v := by
  obtain ⟨m, h⟩ := h
  obtain ⟨v', y, e, hq, _, hr⟩ := ho m _ _ h
  rw [hv] at e
  obtain rfl : v = v' := by simpa using e
  exact ⟨y, hq, hr⟩
theorem arg_slice {H : Type} {enc : TypeId × Value → H} {P : Program} {W W2 : World} {σ : Nat → Loc} {t e : TypeId} {Q : AV → Prop} {v : Value} {d : DataW H} {ps : List MemPlace} {r : Reach} {b : Nat} (ht : P.underlying t = some (.slice e)) (hval : Value.okWide P W2 r b t v) (ho : Opens enc P W σ t Q) (h : DataW.Trod enc P W 0 (fun _ => true) true t v d ps) :
    ∃ y, Q y ∧ Rel σ (fun k => k < W.heap.size) W y v := by
  obtain ⟨a, len, cap, rfl⟩ := okWide_slice ht hval
  exact arg_of ho rfl h
theorem arg_int {H : Type} {enc : TypeId × Value → H} {P : Program} {W W2 : World} {σ : Nat → Loc} {t : TypeId} {k : IntKind} {Q : AV → Prop} {v : Value} {d : DataW H} {ps : List MemPlace} {r : Reach} {b : Nat} (ht : P.underlying t = some (.int k)) (hval : Value.okWide P W2 r b t v) (ho : Opens enc P W σ t Q) (h : DataW.Trod enc P W 0 (fun _ => true) true t v d ps) :
    ∃ y, Q y ∧ Rel σ (fun k => k < W.heap.size) W y v := by
  obtain ⟨n, rfl⟩ := okWide_int ht hval
  exact arg_of ho rfl h
theorem arg_bool {H : Type} {enc : TypeId × Value → H} {P : Program} {W W2 : World} {σ : Nat → Loc} {t : TypeId} {Q : AV → Prop} {v : Value} {d : DataW H} {ps : List MemPlace} {r : Reach} {b : Nat} (ht : P.underlying t = some .bool) (hval : Value.okWide P W2 r b t v) (ho : Opens enc P W σ t Q) (h : DataW.Trod enc P W 0 (fun _ => true) true t v d ps) :
    ∃ y, Q y ∧ Rel σ (fun k => k < W.heap.size) W y v := by
  obtain ⟨n, rfl⟩ := okWide_bool ht hval
  exact arg_of ho rfl h
/-- An array of bytes. -/
theorem arg_arr8 {H : Type} {enc : TypeId × Value → H} {P : Program} {W W2 : World} {σ : Nat → Loc} {t e : TypeId} {n : Nat} {v : Value} {d : DataW H} {ps : List MemPlace} {r : Reach} {b : Nat} (ht : P.underlying t = some (.array n e)) (hc : P.cellsOf e = 1) (hct : P.cellsOf t = n) (he : P.underlying e = some (.int .u8)) (hval : Value.okWide P W2 r b t v) (h : DataW.Trod enc P W 0 (fun _ => true) true t v d ps) :
    ∃ l : List B8, l.length = n ∧ Rel σ (fun k => k < W.heap.size) W (.agg (c8 l)) v := by
  simp only [Value.okWide, ht] at hval
  obtain ⟨cs, rfl, h2, _⟩ := hval
  obtain ⟨m, h⟩ := h
  obtain ⟨xs, m1, rfl, _, hlen, hn, hel⟩ := DataW.trod_array ht h
  simp only [Value.cells, Array.length_toList] at hlen
  rw [hct] at hlen
  have get : ∀ i : Fin n, ∃ c : B8, Rel σ (fun k => k < W.heap.size) W (.w8 c) (cs.getD i.1 undef) := by
    intro i
    have h1 := hel i.1 i.2
    rw [hc, Nat.mul_one, List.getElem?_eq_getElem (by omega : i.1 < xs.length)] at h1
    obtain ⟨v, y, e1, ⟨c, rfl⟩, _, hr⟩ := opens_u8 (W := W) (σ := σ) he _ _ _ h1
    refine ⟨c, ?_⟩
    have e3 : cs[i.1]? = some v := by
      have := congrArg (·[0]?) e1
      simpa [Value.cells, List.getElem?_take, List.getElem?_drop] using this
    rw [Array.getD_eq_getD_getElem?, e3]; exact hr
  obtain ⟨F, hF⟩ := Classical.axiomOfChoice get
  have hl : (List.ofFn F).length = n := List.length_ofFn
  refine ⟨List.ofFn F, hl, .agg _ _ (by rw [c8_len, hl, hlen]) (fun i hi => by simp [c8, AV.isCell]) (fun i hi => ?_)⟩
  have hi2 : i < n := by rw [c8_len, hl] at hi; exact hi
  have : (c8 (List.ofFn F))[i] = .w8 (F ⟨i, hi2⟩) := by simp [c8]
  have r := hF ⟨i, hi2⟩
  rw [← this] at r; exact r
end Go.AX
