/-
  AX, part H: operations that read say what the model's do.
-/
import Derived.Test.YtnnkmoaipcdhnaaDoorAxG
namespace Go.AX
open Go
section
variable {P : Program} {σ : Nat → Loc} {I : Nat → Prop} {w : World}

theorem RowAt.get {xs : List AV} {blk base sz : Nat} (h : RowAt σ I w xs blk base sz) (i : Nat) (hi : i < xs.length) :
    ∃ v, w.cell? ⟨blk, base + i, none⟩ = some v ∧ xs[i].isCell = true ∧ Rel σ I w xs[i] v := by
  obtain ⟨⟨c, T, lo, hi', h1, h2, h3, _, h5⟩, h6⟩ := h
  have hlt : base + i < c.size := by omega
  refine ⟨c.getD (base + i) undef, ?_, h6 i hi, h5 i hi⟩
  simp only [World.cell?, h1, Option.isSome_none, Bool.false_eq_true, if_false]
  rw [Array.getElem?_eq_getElem hlt, Array.getD_eq_getD_getElem?, Array.getElem?_eq_getElem hlt]; rfl

theorem own_row {id : Nat} {xs : List AV} {mt : Bool} {blk base sz : Nat} (h : OwnRel σ I w id (.cells xs mt)) (e : σ id = .at_ blk base sz) : RowAt σ I w xs blk base sz := by
  simp only [OwnRel, e] at h; exact h.1
theorem own_len {id : Nat} {xs : List AV} {mt : Bool} {blk base sz : Nat} (h : OwnRel σ I w id (.cells xs mt)) (e : σ id = .at_ blk base sz) : base + xs.length ≤ sz := by
  obtain ⟨⟨_, _, _, _, _, _, h3, _⟩, _⟩ := own_row h e; exact h3
theorem own_nil {id : Nat} {xs : List AV} {mt : Bool} (h : OwnRel σ I w id (.cells xs mt)) (e : σ id = .nil) : xs = [] := by
  simpa only [OwnRel, e] using h

theorem rp_get {xs : List AV} {blk o : Nat} (h : Rel σ I w (.rp xs) (.pointer (some ⟨blk, o, none⟩))) (i : Nat) (hi : i < xs.length) :
    ∃ v, w.cell? ⟨blk, o + i, none⟩ = some v ∧ xs[i].isCell = true ∧ Rel σ I w xs[i] v := by
  cases h with
  | rp _ _ _ f hb hc h1 h2 => exact ⟨f i, hc i hi, h1 i hi, h2 i hi⟩

theorem unW8_inv : ∀ {xs : List AV} {l : List (BitVec 8)}, unW8 xs = some l → xs = l.map .w8
  | [], l, h => by obtain rfl := Option.some.inj h; rfl
  | .w8 x :: r, l, h => by
    simp only [unW8] at h
    obtain ⟨l', h1, h⟩ := obind_inv h
    obtain rfl := Option.some.inj h
    rw [unW8_inv h1]; rfl
  | .w16 _ :: _, _, h | .w32 _ :: _, _, h | .w64 _ :: _, _, h | .i _ :: _, _, h | .b _ :: _, _, h | .s _ :: _, _, h | .v _ :: _, _, h | .agg _ :: _, _, h | .tup _ :: _, _, h | .sl _ _ :: _, _, h
  | .rp _ :: _, _, h | .os _ _ _ _ _ :: _, _, h | .op _ _ :: _, _, h | .mp _ :: _, _, h | .fn _ _ :: _, _, h | .junk :: _, _, h => by cases h

/-- A slice's cells as the model reads them. -/
theorem slCells_run {hp : H} {z n : Nat} {x : AV} {xs : List AV} {v : Value} (h : slCells hp z x = some (n, xs)) (hx : Rel σ I w x v) (hown : ∀ id o, hp id = some o → OwnRel σ I w id o) :
    xs.length = n * z ∧ (∀ i (_h : i < xs.length), xs[i].isCell = true) ∧ ∃ (a : Option Addr) (cap : Nat) (vs : Array Value), v = .slice a n cap ∧ vs.size = xs.length ∧ (∀ i (_h : i < xs.length), Rel σ I w xs[i] (vs.getD i undef)) ∧
      (match a with | some a => ∀ k (vv : Value), vs.toList[k]? = some vv → w.cell? (a.add k) = some vv | none => n = 0) := by
  have mk : ∀ (blk o : Nat) (hc : ∀ i (_h : i < xs.length), ∃ v, w.cell? ⟨blk, o + i, none⟩ = some v ∧ xs[i].isCell = true ∧ Rel σ I w xs[i] v),
      ∃ vs : Array Value, vs.size = xs.length ∧ (∀ i (_h : i < xs.length), Rel σ I w xs[i] (vs.getD i undef)) ∧ ∀ k (vv : Value), vs.toList[k]? = some vv → w.cell? ((⟨blk, o, none⟩ : Addr).add k) = some vv := by
    intro blk o hc
    refine ⟨((List.range xs.length).map fun i => (w.cell? ⟨blk, o + i, none⟩).getD undef).toArray, by simp, fun i hi => ?_, fun k vv hk => ?_⟩
    · obtain ⟨v, hv, _, hr⟩ := hc i hi
      rw [getD_list, List.getD_eq_getElem?_getD, List.getElem?_map, List.getElem?_range hi]
      simp [hv, hr]
    · simp only [List.getElem?_map] at hk
      obtain ⟨m, hm, rfl⟩ := Option.map_eq_some_iff.1 hk
      rw [List.getElem?_eq_some_iff] at hm
      obtain ⟨hlt, hm⟩ := hm
      simp at hlt hm
      subst hm
      obtain ⟨v, hv, _, _⟩ := hc k hlt
      rw [add_off, hv]; rfl
  unfold slCells at h
  split at h
  · rename_i n' ys
    obtain ⟨hl, h⟩ := guardO_inv h
    obtain ⟨rfl, rfl⟩ := Prod.mk.inj (Option.some.inj h)
    cases hx with
    | sl _ _ blk o cap f hb hle hc h1 h2 =>
      obtain ⟨vs, e1, e2, e3⟩ := mk blk o (fun i hi => ⟨f i, hc i hi, h1 i hi, h2 i hi⟩)
      exact ⟨hl, h1, _, cap, vs, rfl, e1, e2, e3⟩
    | slnil => exact ⟨hl, fun i hi => by simp at hi, _, 0, #[], rfl, rfl, fun i hi => by simp at hi, rfl⟩
    | slzero a => exact ⟨hl, fun i hi => by simp at hi, _, 0, #[], rfl, rfl, fun i hi => by simp at hi, fun k vv hk => by simp at hk⟩
  · rename_i id off n' e g
    obtain ⟨o, ho, h⟩ := obind_inv h
    split at h
    rename_i ys mt
    obtain ⟨⟨he, hl⟩, h⟩ := guardO_inv h
    obtain ⟨rfl, rfl⟩ := Prod.mk.inj (Option.some.inj h)
    have hlen : ((ys.drop off).take (n' * z)).length = n' * z := by simp; omega
    cases hx with
    | os _ _ _ _ _ blk base sz cap g1 g2 g3 =>
      have hrow := own_row (hown id _ ho) g1
      have hget : ∀ i (_h : i < ((ys.drop off).take (n' * z)).length), ∃ v, w.cell? ⟨blk, base + off + i, none⟩ = some v ∧ ((ys.drop off).take (n' * z))[i].isCell = true ∧ Rel σ I w ((ys.drop off).take (n' * z))[i] v := by
        intro i hi
        rw [getElem_take', getElem_drop']
        rw [hlen] at hi
        have := hrow.get (off + i) (by omega)
        rwa [← Nat.add_assoc] at this
      obtain ⟨vs, e1, e2, e3⟩ := mk blk (base + off) hget
      exact ⟨hlen, fun i hi => (hget i hi).choose_spec.2.1, _, cap, vs, rfl, e1, e2, e3⟩
    | osnil => exact ⟨hlen, fun i hi => by simp at hi, _, 0, #[], rfl, by simp, fun i hi => by simp at hi, rfl⟩
    | oszero _ _ _ _ a => exact ⟨hlen, fun i hi => by simp at hi, _, 0, #[], rfl, by simp, fun i hi => by simp at hi, fun k vv hk => by simp at hk⟩
  · obtain ⟨rfl, rfl⟩ := Prod.mk.inj (Option.some.inj h)
    cases hx
    exact ⟨by simp, fun i hi => by simp at hi, _, 0, #[], rfl, rfl, fun i hi => by simp at hi, rfl⟩
  · cases h

theorem bytes_sound {hp : H} {x : AV} {n : Nat} {xs : List AV} {l : List (BitVec 8)} {v : Value} (h : slCells hp 1 x = some (n, xs)) (hu : unW8 xs = some l) (hx : Rel σ I w x v)
    (hown : ∀ id o, hp id = some o → OwnRel σ I w id o) : (Conv.bytesToString v).run P w = .ok (.string (encS l)) w := by
  obtain ⟨hl, _, a, cap, vs, rfl, hs, hr, hc⟩ := slCells_run h hx hown
  have hxs := unW8_inv hu
  have hlen : l.length = n := by rw [hxs] at hl; simpa using hl
  cases a with
  | none =>
    simp only at hc
    have : l = [] := List.eq_nil_of_length_eq_zero (by omega)
    subst this; rfl
  | some a =>
    simp only at hc
    have hvs : vs.toList = (l.map fun x => ((x.toNat : Nat) : Int)).map (Value.int .u8) := by
      apply List.ext_getElem
      · simp [hs, hxs]
      · intro i h1 h2
        have hi : i < xs.length := by simpa [hs] using h1
        have := hr i hi
        have hil : i < l.length := by rw [hxs] at hi; simpa using hi
        have hx' : xs[i] = .w8 l[i] := by simp [hxs]
        rw [hx'] at this
        have e : vs.getD i undef = .int .u8 (l[i].toNat : Int) := by
          generalize vs.getD i undef = u at this
          cases this; rfl
        rw [Array.getD_eq_getD_getElem?, Array.getElem?_eq_getElem (by rw [hs]; exact hi)] at e
        simp only [Option.getD_some] at e
        rw [Array.getElem_toList, e]; simp
    have hload := run_loadCells_list (P := P) w a vs.toList hc
    rw [Array.length_toList, hs, hl, Nat.mul_one] at hload
    rw [hvs] at hload
    rw [run_bytesToString w a n cap _ hload, foldl_push_bytes]
    simp only [ByteArray.data_empty, List.map_map, Function.comp_def, Int.toNat_natCast]
    have : (fun x : BitVec 8 => UInt8.ofNat x.toNat) = UInt8.ofBitVec := by
      funext x
      apply UInt8.toBitVec_inj.1
      simp
    rw [this]; simp [encS]

theorem read_sound {o : Oper} {ρA : Operand → AV} {ρ : Operand → Value} {hp : H} {x : AV} (h : readOp P o.op ρA hp = some x) (hρ : ∀ y, Rel σ I w (ρA y) (ρ y))
    (hown : ∀ id o, hp id = some o → OwnRel σ I w id o) :
    ∃ v, (execOp ρ o).run P w = .ok (.value v) w ∧ Rel σ I w x v := by
  obtain ⟨dst, op, type, pos, after, guard⟩ := o
  simp only at h
  unfold readOp at h
  split at h
  · rename_i t y
    have hy := hρ y
    split at h
    · rename_i ys e
      rw [e] at hy
      obtain ⟨blk, o, hv⟩ := rp_inv hy
      rw [hv] at hy
      obtain ⟨v, hrun, hr⟩ := ldV_load (P := P) h (fun i hi => rp_get hy i hi)
      exact ⟨v, runV (by simp only [Instr.loadAt, Instr.sureAddr, hv, Sem.run_bind, Sem.run_pure, Result.andThen_ok, hrun]), hr⟩
    · rename_i id off e
      obtain ⟨o, ho, h⟩ := obind_inv h
      split at h
      rename_i xs mt
      rw [e] at hy
      obtain ⟨blk, base, sz, g1, hv⟩ := op_inv hy
      have hrow := own_row (hown id _ ho) g1
      obtain ⟨v, hrun, hr⟩ := ldV_load (P := P) (blk := blk) (o := base + off) h (fun i hi => by
        rw [getElem_drop']
        simp at hi
        have := hrow.get (off + i) (by omega)
        rwa [← Nat.add_assoc] at this)
      exact ⟨v, runV (by simp only [Instr.loadAt, Instr.sureAddr, hv, Sem.run_bind, Sem.run_pure, Result.andThen_ok, hrun]), hr⟩
    · cases h
  · rename_i src dst' y
    split at h
    · rename_i e hs hd
      split at h
      · rename_i he
        obtain ⟨nl, hnl, h⟩ := obind_inv h
        obtain ⟨l, hl, h⟩ := obind_inv h
        obtain rfl := Option.some.inj h
        have hrun := bytes_sound (P := P) hnl hl (hρ y) hown
        refine ⟨_, runV ?_, .s l⟩
        obtain ⟨_, _, a, cap, vs, hv, _⟩ := slCells_run hnl (hρ y) hown
        rw [hv] at hrun ⊢
        rw [run_convert_bytes_string w src dst' e a _ cap hs he hd, hrun]
      · cases h
    · cases h
  · cases h
end
end Go.AX
