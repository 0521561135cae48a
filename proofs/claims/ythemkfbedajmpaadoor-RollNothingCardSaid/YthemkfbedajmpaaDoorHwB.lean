/-
  The given statement RollNothing: for every input the statement's function returns true, and the input reads as it did; the listed variable is tied to the program's text.
-/
import Derived.Test.YthemkfbedajmpaaDoorBD
import Derived.Test.YthemkfbedajmpaaDoorBH
namespace Go.Proofs.YthemkfbedajmpaaDoor
open Go Go.AX Go.Proofs Go.RowKit Go.WideShapes Go.ChangeShapes
set_option maxRecDepth 100000 in
theorem rollNothing_lifted (os : Os) (started : os.Started) (H : Type) (enc : TypeId × Value → H) :
  ReturnsInHanded {} Tryd.checked os 4 .any (fun w args => (Rows.rollNothingSpec.pre enc Tryd.prog Tryd.f4 [] false w args ∧ laidMetH Tryd.prog laid1 w) ∧ sizedMet enc Tryd.prog Tryd.f4 (OpenSpec.ofChange Rows.rollNothingSpec) false w args)
   (Rows.rollNothingSpec.post enc Tryd.prog Tryd.f4 false true false false) := by
 refine returnsInHanded_of_change_and (C := Tryd.checked) (X := fun w _ => laidMetH Tryd.prog laid1 w) (fun _ _ _ hh h => h.of_heap hh) ownT started (by kernel_rfl) Tryd.func4
  (ChangeSpec.witness_shaped (enc := enc) (C := Tryd.checked) (os := os) (X := fun w _ => laidMetH Tryd.prog laid1 w) false (World.doorLaid Tryd.prog 400 os) #[.int .u16 0, .int .u32 0, .int .u32 0] 8 rfl (World.shaped_of_RefB (by kernel_rfl) (by kernel_rfl)) (by kernel_rfl) (by kernel_rfl) (by kernel_rfl) (door_met os _)) ?_
 intro W base args ds gs before hval0 hW _ _ hL _
 have hval : ∀ (j : Nat) t v, Tryd.f4.params[j]? = some t → args[j]? = some v → Value.okWide Tryd.prog W .any base t v := hval0
 have hW' := hW
 obtain ⟨p, q, hA0, hV, rfl, hfz, hnd⟩ := hW
 have hA : DataW.TrodAll enc Tryd.prog W 0 (fun _ => true) true Tryd.f4.params.toList args.toList ds p := hA0
 rw [Tryd.params4] at hA hval
 obtain ⟨v0, v1, v2, d0, d1, d2, p0, p1, p2, rfl, rfl, rfl, h0, h1, h2⟩ := trodAll_three hA
 obtain ⟨rfl, rfl⟩ := trodVars_none hV
 obtain ⟨_, ⟨x0, rfl⟩, r0⟩ := arg_int (σ := fun _ => .unset) Tryd.underlying22 (hval 0 22 v0 rfl rfl) (opens_u16 Tryd.underlying22) h0
 obtain ⟨_, ⟨x1, rfl⟩, r1⟩ := arg_int (σ := fun _ => .unset) Tryd.underlying23 (hval 1 23 v1 rfl rfl) (gV Tryd.underlying23) h1
 obtain ⟨_, ⟨x2, rfl⟩, r2⟩ := arg_int (σ := fun _ => .unset) Tryd.underlying23 (hval 2 23 v2 rfl rfl) (gV Tryd.underlying23) h2
 refine (law_calls (args := [.w16 x0, .w32 x1, .w32 x2]) nothing_ok hL rfl (fun i hi => ?_) ?_).mono fun e W' ⟨he, hw⟩ => ⟨_, he, post_true laidOutT (by kernel_rfl) rfl Tryd.underlying4 rfl rfl hW' hw⟩
 ·match i, hi with
  | 0, _ => exact r0
  | 1, _ => exact r1
  | 2, _ => exact r2
 ·rfl
theorem rollNothing_said : Rows.RollNothingSaid :=
 OpenClaim.holds_of_wide 4 Tryd.f4 rfl rfl rfl rfl rfl rfl rfl ⟨rfl, rfl, rfl, rfl, rfl⟩ rfl rfl rfl rfl rfl (by kernel_rfl) Tryd.func4 (by kernel_rfl)
  (of_decide_eq_true (by kernel_rfl)) (by unfold Func.isWrapper; first | (rw [if_pos (by decide +kernel)]; kernel_rfl) | (rw [if_neg (by decide +kernel)]; exact ⟨rfl, rfl⟩))
  (fun os started H enc _ => rollNothing_lifted os started H enc)
theorem rollNothing_holds : Rows.RollNothingCardSaid :=
 Claim7.holds_tied_plain_at .later [] [.data] true (true, "ed139cf29f35559d5823574a9f7ee9f6d5288c3960aad9c3b88c3e4584223e00") false
  rollNothing_said (fun _ h => by cases h) (by kernel_rfl) (fun _ h => by cases h) rollNothing_row_tie rfl ⟨rfl, rfl⟩ (by kernel_rfl) rfl
  (fun f fn hf hfn => by
   obtain rfl : f = 4 := Option.some.inj ((show Tryd.prog.funcNamed "signet/signetlaw21.RollNothing" = some 4 by kernel_rfl).symm.trans hf) |>.symm
   obtain rfl : fn = Tryd.f4 := (Option.some.inj (Tryd.func4.symm.trans hfn)).symm
   exact ⟨by kernel_rfl, fun j t ht => by
    rw [Tryd.params4] at ht
    have hm : t ∈ [22, 23, 23] := by simpa using Array.mem_of_getElem? ht
    have hall : ([22, 23, 23].all fun u => !Tryd.prog.wantsStandIn u) = true := by kernel_rfl
    exact (show Tryd.prog.wantsStandIn t = false by simpa using List.all_eq_true.1 hall t hm)⟩)
  (by kernel_rfl)
end Go.Proofs.YthemkfbedajmpaaDoor
