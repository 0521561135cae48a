/-
  Hash, part T: the global table; the lift of a statement's call to its row.
-/
import Derived.Test.YtnnkmoaipcdhnaaDoorHsR
import Derived.Test.YtnnkmoaipcdhnaaDoorTie
import Derived.Test.YtnnkmoaipcdhnaaDoorCards
namespace Go.AX
open Go Go.Proofs Go.RowKit Go.WideShapes Go.ChangeShapes Go.Proofs.YtnnkmoaipcdhnaaDoor

theorem laidOutT : laidOutB Tryd.prog = true := by kernel_rfl
theorem ownT : ownKnob Tryd.prog.godebug = none := by kernel_rfl
theorem gRounds : Tryd.prog.globalNamed "signet/hash.rounds" = some 0 := by kernel_rfl
theorem tRounds : (Tryd.prog.globals[0]?).map (·.type) = some 88 := by kernel_rfl
def laid1 : List (String × DataW Unit) := [("signet/hash.rounds", Rows.laid_signet_hash_rounds)]
theorem laid_KT {H : Type} : (Rows.laid_signet_hash_rounds : DataW H) = .agg (KT.map fun x => .lit (.int .u32 (x.toNat : Int))) := rfl
theorem c36 : Tryd.prog.cellsOf 36 = 1 := by kernel_rfl
theorem c5 : Tryd.prog.cellsOf 5 = 1 := by kernel_rfl
theorem c22 : Tryd.prog.cellsOf 22 = 1 := by kernel_rfl

theorem door_met (os : Os) (args : Array Value) : laidMetH Tryd.prog laid1 ((World.doorLaid Tryd.prog 400 os).forCall (fun _ _ => 0) ⟨#[], args, []⟩).memory :=
  laidMetH_of_parts3 (fuel := 8) (laidMet_of_run' 8 (by kernel_rfl) (by kernel_rfl)) (by kernel_rfl) (by kernel_rfl)

theorem glob_of_laid {W : World} (h : laidMetH Tryd.prog laid1 W) (σ : Nat → Loc) : 0 < W.heap.size ∧ Rel σ (fun k => k < W.heap.size) W (.rp (c32 KT)) (.pointer (some ⟨0, 0, none⟩)) := by
  rw [MakeChecks.laidMetH_plain _ _ _ (by kernel_rfl)] at h
  obtain ⟨ps, ⟨g0, t0, cs0, f0, p0, q0, hg0, ht0, hv0, hd0, _⟩, _⟩ := h
  obtain rfl := Option.some.inj (gRounds.symm.trans hg0)
  obtain rfl := Option.some.inj (tRounds.symm.trans ht0)
  obtain ⟨xs, m1, rfl, hx1, hlen, hn3, hel⟩ := DataW.trod_array Tryd.underlying88 hd0
  have hx : Rows.laid_signet_hash_rounds = DataW.agg (xs.map (·.1)) := by
    have := congrArg Prod.fst hx1
    simpa using this
  rw [laid_KT, DataW.agg.injEq] at hx
  have hcell : ∀ i (h : i < 64), W.cell? ⟨0, i, none⟩ = some (.int .u32 ((KT.getD i 0#32).toNat : Int)) := by
    intro i hi
    have h1 := hel i hi
    rw [c36, Nat.mul_one, List.getElem?_eq_getElem (by omega : i < xs.length)] at h1
    obtain ⟨n, e1, e2, _⟩ := DataW.trod_int Tryd.underlying36 h1
    have hk : (KT.map fun x => (DataW.lit (.int .u32 (x.toNat : Int)) : DataW Unit))[i]? = (xs.map (·.1))[i]? := by rw [hx]
    rw [List.getElem?_map, List.getElem?_map, List.getElem?_eq_getElem (by omega : i < xs.length), e2, List.getElem?_eq_getElem (by rw [KT_len]; exact hi)] at hk
    simp only [Option.map_some, Option.some.injEq, DataW.lit.injEq, Lit.int.injEq, true_and] at hk
    have := World.var?_cell hg0 hv0 i
    have e3 : cs0[i]? = some (.int .u32 n) := by
      have := congrArg (·[0]?) e1
      simpa [List.getElem?_take, List.getElem?_drop] using this
    rw [this, e3, ← hk, List.getD_eq_getElem?_getD, List.getElem?_eq_getElem (by rw [KT_len]; exact hi)]
    rfl
  have h0 := hcell 0 (by omega)
  have hlt : 0 < W.heap.size := by
    simp only [World.cell?] at h0
    split at h0
    · rename_i hh; exact (Array.getElem?_eq_some_iff.1 hh).1
    · cases h0
  refine ⟨hlt, .rp (c32 KT) 0 0 (fun i => .int .u32 ((KT.getD i 0#32).toNat : Int)) hlt (fun i hi => ?_) (fun i hi => ?_) (fun i hi => ?_)⟩
  · rw [c32_len, KT_len] at hi
    rw [Nat.zero_add]; exact hcell i hi
  · simp [c32, AV.isCell]
  · have hi2 : i < KT.length := by rw [c32_len] at hi; exact hi
    have : (c32 KT)[i] = .w32 (KT.getD i 0#32) := by
      simp [c32, List.getD_eq_getElem?_getD, List.getElem?_eq_getElem hi2]
    have r := Rel.w32 (σ := σ) (I := fun k => k < W.heap.size) (w := W) (KT.getD i 0#32)
    rw [← this] at r; exact r

/-- The call of a statement that answers true, in the row's world. -/
theorem law_calls {f : Nat} {g : List AV → Option AV} (hf : PureOK Tryd.prog GLh f g) {W : World} (hL : laidMetH Tryd.prog laid1 W) {args : List AV} {vals : Array Value} (hs : vals.size = args.length)
    (hr : ∀ i (_h : i < args.length), Rel (fun _ => .unset) (fun k => k < W.heap.size) W args[i] (vals.getD i undef)) (hg : g args = some (.b true)) :
    Calls Tryd.prog f vals W fun e W' => e = .returned (.bool true) ∧ Below W.heap.size W W' := by
  obtain ⟨h0, hgl⟩ := glob_of_laid hL (fun _ => .unset)
  refine (hf (fun _ => .unset) (fun k => k < W.heap.size) W 0 args vals _ (fun _ _ => rfl) (fun _ h => h) (fun g xs h => ?_) hs hr hg).mono ?_
  · unfold GLh at h
    split at h
    · rename_i e; subst e; obtain rfl := Option.some.inj h; exact hgl
    · cases h
  · rintro e w' ⟨v, σ', I', rfl, a1, a2, a3, a4, a5, _, _, _, a9⟩
    cases a9
    exact ⟨rfl, a1, a2, a3, a4, a5⟩

theorem arg_of {H : Type} {enc : TypeId × Value → H} {P : Program} {W : World} {σ : Nat → Loc} {t : TypeId} {Q : AV → Prop} {v : Value} {d : DataW H} {ps : List MemPlace} (ho : Opens enc P W σ t Q) (hv : v.cells.toList = [v]) (h : DataW.Trod enc P W 0 (fun _ => true) true t v d ps) :
    ∃ y, Q y ∧ Rel σ (fun k => k < W.heap.size) W y v := by
  obtain ⟨m, h⟩ := h
  obtain ⟨v', y, e, hq, _, hr⟩ := ho m _ _ h
  rw [hv] at e
  obtain rfl : v = v' := by simpa using e
  exact ⟨y, hq, hr⟩
theorem arg_slice {H : Type} {enc : TypeId × Value → H} {P : Program} {W W2 : World} {σ : Nat → Loc} {t e : TypeId} {Q : AV → Prop} {v : Value} {d : DataW H} {ps : List MemPlace} {r : Reach} {b : Nat} (ht : P.underlying t = some (.slice e)) (hval : Value.okWide P W2 r b t v) (ho : Opens enc P W σ t Q) (h : DataW.Trod enc P W 0 (fun _ => true) true t v d ps) :
    ∃ y, Q y ∧ Rel σ (fun k => k < W.heap.size) W y v := by
  obtain ⟨a, len, cap, rfl⟩ := okWide_slice ht hval
  exact arg_of ho rfl h
theorem arg_int {H : Type} {enc : TypeId × Value → H} {P : Program} {W W2 : World} {σ : Nat → Loc} {t : TypeId} {k : IntKind} {Q : AV → Prop} {v : Value} {d : DataW H} {ps : List MemPlace} {r : Reach} {b : Nat} (ht : P.underlying t = some (.int k)) (hval : Value.okWide P W2 r b t v) (ho : Opens enc P W σ t Q) (h : DataW.Trod enc P W 0 (fun _ => true) true t v d ps) :
    ∃ y, Q y ∧ Rel σ (fun k => k < W.heap.size) W y v := by
  obtain ⟨n, rfl⟩ := okWide_int ht hval
  exact arg_of ho rfl h
theorem arg_bool {H : Type} {enc : TypeId × Value → H} {P : Program} {W W2 : World} {σ : Nat → Loc} {t : TypeId} {Q : AV → Prop} {v : Value} {d : DataW H} {ps : List MemPlace} {r : Reach} {b : Nat} (ht : P.underlying t = some .bool) (hval : Value.okWide P W2 r b t v) (ho : Opens enc P W σ t Q) (h : DataW.Trod enc P W 0 (fun _ => true) true t v d ps) :
    ∃ y, Q y ∧ Rel σ (fun k => k < W.heap.size) W y v := by
  obtain ⟨n, rfl⟩ := okWide_bool ht hval
  exact arg_of ho rfl h
/-- An array of bytes. -/
theorem arg_arr8 {H : Type} {enc : TypeId × Value → H} {P : Program} {W W2 : World} {σ : Nat → Loc} {t e : TypeId} {n : Nat} {v : Value} {d : DataW H} {ps : List MemPlace} {r : Reach} {b : Nat} (ht : P.underlying t = some (.array n e)) (hc : P.cellsOf e = 1) (hct : P.cellsOf t = n) (he : P.underlying e = some (.int .u8)) (hval : Value.okWide P W2 r b t v) (h : DataW.Trod enc P W 0 (fun _ => true) true t v d ps) :
    ∃ l : List B8, l.length = n ∧ Rel σ (fun k => k < W.heap.size) W (.agg (c8 l)) v := by
  simp only [Value.okWide, ht] at hval
  obtain ⟨cs, rfl, h2, _⟩ := hval
  obtain ⟨m, h⟩ := h
  obtain ⟨xs, m1, rfl, _, hlen, hn, hel⟩ := DataW.trod_array ht h
  simp only [Value.cells, Array.length_toList] at hlen
  rw [hct] at hlen
  have get : ∀ i : Fin n, ∃ c : B8, Rel σ (fun k => k < W.heap.size) W (.w8 c) (cs.getD i.1 undef) := by
    intro i
    have h1 := hel i.1 i.2
    rw [hc, Nat.mul_one, List.getElem?_eq_getElem (by omega : i.1 < xs.length)] at h1
    obtain ⟨v, y, e1, ⟨c, rfl⟩, _, hr⟩ := opens_u8 (W := W) (σ := σ) he _ _ _ h1
    refine ⟨c, ?_⟩
    have e3 : cs[i.1]? = some v := by
      have := congrArg (·[0]?) e1
      simpa [Value.cells, List.getElem?_take, List.getElem?_drop] using this
    rw [Array.getD_eq_getD_getElem?, e3]; exact hr
  obtain ⟨F, hF⟩ := Classical.axiomOfChoice get
  have hl : (List.ofFn F).length = n := List.length_ofFn
  refine ⟨List.ofFn F, hl, .agg _ _ (by rw [c8_len, hl, hlen]) (fun i hi => by simp [c8, AV.isCell]) (fun i hi => ?_)⟩
  have hi2 : i < n := by rw [c8_len, hl] at hi; exact hi
  have : (c8 (List.ofFn F))[i] = .w8 (F ⟨i, hi2⟩) := by simp [c8]
  have r := hF ⟨i, hi2⟩
  rw [← this] at r; exact r
end Go.AX
