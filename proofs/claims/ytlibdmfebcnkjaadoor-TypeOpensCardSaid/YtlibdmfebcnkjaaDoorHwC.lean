/-
  The given statement TypeOpens: for every input the statement's function returns true, and the input reads as it did; the listed variables are tied to the program's text.
-/
import Derived.Test.YtlibdmfebcnkjaaDoorBM
namespace Go.Proofs.YtlibdmfebcnkjaaDoor
open Go Go.AX Go.Proofs Go.RowKit Go.WideShapes Go.ChangeShapes

set_option maxRecDepth 100000 in
theorem typeOpens_lifted (os : Os) (started : os.Started) (H : Type) (enc : TypeId × Value → H) :
    ReturnsInHanded {} Tryd.checked os 5 .any (fun w args => (Rows.typeOpensSpec.pre enc Tryd.prog Tryd.f5 [] false w args ∧ laidMetH Tryd.prog laid1 w) ∧ sizedMet enc Tryd.prog Tryd.f5 (OpenSpec.ofChange Rows.typeOpensSpec) false w args)
      (Rows.typeOpensSpec.post enc Tryd.prog Tryd.f5 false true false false) := by
  refine returnsInHanded_of_change_and (C := Tryd.checked) (X := fun w _ => laidMetH Tryd.prog laid1 w) (fun _ _ _ hh h => h.of_heap hh) ownT started (by kernel_rfl) Tryd.func5
    (ChangeSpec.witness_shaped (enc := enc) (C := Tryd.checked) (os := os) (X := fun w _ => laidMetH Tryd.prog laid1 w) false (World.doorLaid Tryd.prog 400 os) #[.slice none 0 0] 8 rfl (World.shaped_of_RefB (by kernel_rfl) (by kernel_rfl)) (by kernel_rfl) (by kernel_rfl) (by kernel_rfl) (door_met os _)) ?_
  intro W base args ds gs before hval0 hW _ _ hL _
  have hval : ∀ (j : Nat) t v, Tryd.f5.params[j]? = some t → args[j]? = some v → Value.okWide Tryd.prog W .any base t v := hval0
  have hW' := hW
  obtain ⟨p, q, hA0, hV, rfl, hfz, hnd⟩ := hW
  have hA : DataW.TrodAll enc Tryd.prog W 0 (fun _ => true) true Tryd.f5.params.toList args.toList ds p := hA0
  rw [Tryd.params5] at hA hval
  obtain ⟨v0, d0, rfl, rfl, h0⟩ := trodAll_one hA
  obtain ⟨rfl, rfl⟩ := trodVars_none hV
  obtain ⟨_, ⟨x0, rfl, hx0⟩, r0⟩ := arg_slice (σ := fun _ => .unset) Tryd.underlying29 (hval 0 29 v0 rfl rfl) (opens_bytes Tryd.underlying29 c5 Tryd.underlying5) h0
  refine (law_calls (args := [.sl x0.length (c8 x0)]) law4o_ok hL rfl (fun i hi => ?_) ?_).mono fun e W' ⟨he, hw⟩ => ⟨_, he, post_true laidOutT (by kernel_rfl) rfl Tryd.underlying4 rfl rfl hW' hw⟩
  · match i, hi with
    | 0, _ => exact r0
  · show obind (un8 (c8 x0)) _ = _
    rw [un8_c8, obind_some]
    rw [guardO_true _ ⟨rfl, hx0⟩]

theorem typeOpens_said : Rows.TypeOpensSaid :=
  OpenClaim.holds_of_wide 5 Tryd.f5 rfl rfl rfl rfl rfl rfl rfl ⟨rfl, rfl, rfl, rfl, rfl⟩ rfl rfl rfl rfl rfl (by kernel_rfl) Tryd.func5 (by kernel_rfl)
    (of_decide_eq_true (by kernel_rfl)) (by unfold Func.isWrapper; first | (rw [if_pos (by decide +kernel)]; kernel_rfl) | (rw [if_neg (by decide +kernel)]; exact ⟨rfl, rfl⟩))
    (fun os started H enc _ => typeOpens_lifted os started H enc)

theorem typeOpens_holds : Rows.TypeOpensCardSaid :=
  Claim7.holds_tied_plain_at .later [] [.data, .data, .data] true (true, "04bf1afb1c1079bf09ace54a023cf2a7d37cb37081ef8d50300365671a21e15f") false
    typeOpens_said (fun _ h => by cases h) (by kernel_rfl) (fun _ h => by cases h) typeOpens_row_tie rfl ⟨rfl, rfl⟩ (by kernel_rfl) rfl
    (fun f fn hf hfn => by
      obtain rfl : f = 5 := Option.some.inj ((show Tryd.prog.funcNamed "signet/signetlaw4.TypeOpens" = some 5 by kernel_rfl).symm.trans hf) |>.symm
      obtain rfl : fn = Tryd.f5 := (Option.some.inj (Tryd.func5.symm.trans hfn)).symm
      exact ⟨by kernel_rfl, fun j t ht => by
        rw [Tryd.params5] at ht
        have hm : t ∈ [29] := by simpa using Array.mem_of_getElem? ht
        have hall : ([29].all fun u => !Tryd.prog.wantsStandIn u) = true := by kernel_rfl
        exact (show Tryd.prog.wantsStandIn t = false by simpa using List.all_eq_true.1 hall t hm)⟩)
    (by kernel_rfl)
end Go.Proofs.YtlibdmfebcnkjaaDoor
