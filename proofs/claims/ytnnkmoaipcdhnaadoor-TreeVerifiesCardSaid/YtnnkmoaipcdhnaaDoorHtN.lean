/-
  The given statement TreeVerifies: for every input the statement's function returns true, and the input reads as it did; the listed variable is tied to the program's text.
-/
import Derived.Test.YtnnkmoaipcdhnaaDoorBQ
import Derived.Test.YtnnkmoaipcdhnaaDoorBP
namespace Go.Proofs.YtnnkmoaipcdhnaaDoor
open Go Go.AX Go.Proofs Go.RowKit Go.WideShapes Go.ChangeShapes

set_option maxRecDepth 100000 in
theorem treeVerifies_lifted (os : Os) (started : os.Started) (H : Type) (enc : TypeId × Value → H) :
    ReturnsInHanded {} Tryd.checked os 17 .any (fun w args => (Rows.treeVerifiesSpec.pre enc Tryd.prog Tryd.f17 [] false w args ∧ laidMetH Tryd.prog laid1 w) ∧ sizedMet enc Tryd.prog Tryd.f17 (OpenSpec.ofChange Rows.treeVerifiesSpec) false w args)
      (Rows.treeVerifiesSpec.post enc Tryd.prog Tryd.f17 false true false false) := by
  refine returnsInHanded_of_change_and (C := Tryd.checked) (X := fun w _ => laidMetH Tryd.prog laid1 w) (fun _ _ _ hh h => h.of_heap hh) ownT started (by kernel_rfl) Tryd.func17
    (ChangeSpec.witness_shaped (enc := enc) (C := Tryd.checked) (os := os) (X := fun w _ => laidMetH Tryd.prog laid1 w) false (World.doorLaid Tryd.prog 400 os) #[.agg #[.int .u8 0, .int .u8 0, .int .u8 0, .int .u8 0, .int .u8 0, .int .u8 0, .int .u8 0, .int .u8 0], .int .i64 0, .int .u32 0, .slice none 0 0, .slice none 0 0, .int .i64 0, .int .u8 0, .int .u16 0] 8 rfl (World.shaped_of_RefB (by kernel_rfl) (by kernel_rfl)) (by kernel_rfl) (by kernel_rfl) (by kernel_rfl) (door_met os _)) ?_
  intro W base args ds gs before hval0 hW _ _ hL _
  have hval : ∀ (j : Nat) t v, Tryd.f17.params[j]? = some t → args[j]? = some v → Value.okWide Tryd.prog W .any base t v := hval0
  have hW' := hW
  obtain ⟨p, q, hA0, hV, rfl, hfz, hnd⟩ := hW
  have hA : DataW.TrodAll enc Tryd.prog W 0 (fun _ => true) true Tryd.f17.params.toList args.toList ds p := hA0
  rw [Tryd.params17] at hA hval
  obtain ⟨v0, v1, v2, v3, v4, v5, v6, v7, d0, d1, d2, d3, d4, d5, d6, d7, p0, p1, p2, p3, p4, p5, p6, p7, rfl, rfl, rfl, h0, h1, h2, h3, h4, h5, h6, h7⟩ := trodAll_eight hA
  obtain ⟨rfl, rfl⟩ := trodVars_none hV
  obtain ⟨x0, hx0, r0⟩ := arg_arr8 (σ := fun _ => .unset) Tryd.underlying28 c5 c28 Tryd.underlying5 (hval 0 28 v0 rfl rfl) h0
  obtain ⟨_, ⟨x1, rfl, hx1⟩, r1⟩ := arg_int (σ := fun _ => .unset) Tryd.underlying3 (hval 1 3 v1 rfl rfl) (opens_i64 Tryd.underlying3) h1
  obtain ⟨_, ⟨x2, rfl⟩, r2⟩ := arg_int (σ := fun _ => .unset) Tryd.underlying36 (hval 2 36 v2 rfl rfl) (opens_u32 Tryd.underlying36) h2
  obtain ⟨_, ⟨x3, rfl, hx3⟩, r3⟩ := arg_slice (σ := fun _ => .unset) Tryd.underlying22 (hval 3 22 v3 rfl rfl) (opens_bytes Tryd.underlying22 c5 Tryd.underlying5) h3
  obtain ⟨_, ⟨x4, rfl, hx4⟩, r4⟩ := arg_slice (σ := fun _ => .unset) Tryd.underlying22 (hval 4 22 v4 rfl rfl) (opens_bytes Tryd.underlying22 c5 Tryd.underlying5) h4
  obtain ⟨_, ⟨x5, rfl, hx5⟩, r5⟩ := arg_int (σ := fun _ => .unset) Tryd.underlying3 (hval 5 3 v5 rfl rfl) (opens_i64 Tryd.underlying3) h5
  obtain ⟨_, ⟨x6, rfl⟩, r6⟩ := arg_int (σ := fun _ => .unset) Tryd.underlying5 (hval 6 5 v6 rfl rfl) (opens_u8 Tryd.underlying5) h6
  obtain ⟨_, ⟨x7, rfl⟩, r7⟩ := arg_int (σ := fun _ => .unset) Tryd.underlying44 (hval 7 44 v7 rfl rfl) (opens_u16 Tryd.underlying44) h7
  refine (law_calls (args := [.agg (c8 x0), .i x1, .w32 x2, .sl x3.length (c8 x3), .sl x4.length (c8 x4), .i x5, .w8 x6, .w16 x7]) Hp.law8c_ok hL rfl (fun i hi => ?_) ?_).mono fun e W' ⟨he, hw⟩ => ⟨_, he, post_true laidOutT (by kernel_rfl) rfl Tryd.underlying4 rfl rfl hW' hw⟩
  · match i, hi with
    | 0, _ => exact r0
    | 1, _ => exact r1
    | 2, _ => exact r2
    | 3, _ => exact r3
    | 4, _ => exact r4
    | 5, _ => exact r5
    | 6, _ => exact r6
    | 7, _ => exact r7
  · show obind (un8 (c8 x0)) _ = _
    rw [un8_c8, obind_some]
    show obind (un8 (c8 x3)) _ = _
    rw [un8_c8, obind_some]
    show obind (un8 (c8 x4)) _ = _
    rw [un8_c8, obind_some]
    rw [guardO_true _ ⟨hx0, rfl, hx3, rfl, hx4⟩]

theorem treeVerifies_said : Rows.TreeVerifiesSaid :=
  OpenClaim.holds_of_wide 17 Tryd.f17 rfl rfl rfl rfl rfl rfl rfl ⟨rfl, rfl, rfl, rfl, rfl⟩ rfl rfl rfl rfl rfl (by kernel_rfl) Tryd.func17 (by kernel_rfl)
    (of_decide_eq_true (by kernel_rfl)) (by unfold Func.isWrapper; first | (rw [if_pos (by decide +kernel)]; kernel_rfl) | (rw [if_neg (by decide +kernel)]; exact ⟨rfl, rfl⟩))
    (fun os started H enc _ => treeVerifies_lifted os started H enc)

theorem treeVerifies_holds : Rows.TreeVerifiesCardSaid :=
  Claim7.holds_tied_plain_at .later [] [.data] true (true, "a2e3bade3874e377f403593ef666f54a4f49d7a2c9eaf8d36576955741063a0e") false
    treeVerifies_said (fun _ h => by cases h) (by kernel_rfl) (fun _ h => by cases h) treeVerifies_row_tie rfl ⟨rfl, rfl⟩ (by kernel_rfl) rfl
    (fun f fn hf hfn => by
      obtain rfl : f = 17 := Option.some.inj ((show Tryd.prog.funcNamed "signet/signetlaw8.TreeVerifies" = some 17 by kernel_rfl).symm.trans hf) |>.symm
      obtain rfl : fn = Tryd.f17 := (Option.some.inj (Tryd.func17.symm.trans hfn)).symm
      exact ⟨by kernel_rfl, fun j t ht => by
        rw [Tryd.params17] at ht
        have hm : t ∈ [28, 3, 36, 22, 22, 3, 5, 44] := by simpa using Array.mem_of_getElem? ht
        have hall : ([28, 3, 36, 22, 22, 3, 5, 44].all fun u => !Tryd.prog.wantsStandIn u) = true := by kernel_rfl
        exact (show Tryd.prog.wantsStandIn t = false by simpa using List.all_eq_true.1 hall t hm)⟩)
    (by kernel_rfl)
end Go.Proofs.YtnnkmoaipcdhnaaDoor
