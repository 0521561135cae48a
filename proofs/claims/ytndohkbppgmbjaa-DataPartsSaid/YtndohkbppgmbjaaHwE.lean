/-
  The given statement DataParts: for every input the statement's function returns true, and the input reads as it did.
-/
import Derived.Test.YtndohkbppgmbjaaBM
import Derived.Test.YtndohkbppgmbjaaCQ
namespace Go.Proofs.Ytndohkbppgmbjaa
open Go Go.AX Go.Proofs Go.RowKit Go.WideShapes Go.ChangeShapes
set_option maxRecDepth 100000 in
theorem dataParts_lifted (os : Os) (started : os.Started) (H : Type) (enc : TypeId × Value → H) :
  ReturnsInHanded {} Try.checked os 7 .any (Rows.dataPartsSpec.pre6 enc Try.prog Try.f7 Rows.dataPartsRow.domain false)
   (Rows.dataPartsSpec.post enc Try.prog Try.f7 false true false false) := by
 refine returnsInHanded_of_change (C := Try.checked) ownT started (by kernel_rfl) Try.func7
  (ChangeSpec.witness6 (enc := enc) (C := Try.checked) false ⟨#[], #[.slice none 0 0], []⟩ 8 (by kernel_rfl) (by kernel_rfl) (by kernel_rfl) (by kernel_rfl)) ?_
 intro W base args ds gs before hval0 hW _ _
 have hval : ∀ (j : Nat) t v, Try.f7.params[j]? = some t → args[j]? = some v → Value.okWide Try.prog W .any base t v := hval0
 have hW' := hW
 obtain ⟨p, q, hA0, hV, rfl, hfz, hnd⟩ := hW
 have hA : DataW.TrodAll enc Try.prog W 0 (fun _ => true) true Try.f7.params.toList args.toList ds p := hA0
 rw [Try.params7] at hA hval
 obtain ⟨v0, d0, rfl, rfl, h0⟩ := trodAll_one hA
 obtain ⟨rfl, rfl⟩ := trodVars_none hV
 obtain ⟨_, ⟨x0, rfl, hx0⟩, r0⟩ := arg_slice (σ := fun _ => .unset) Try.underlying23 (hval 0 23 v0 rfl rfl) (iC Try.underlying23 c5 Try.underlying5) h0
 refine (law_calls (args := [.sl x0.length (c8 x0)]) parts_ok rfl (fun i hi => ?_) ?_).mono fun e W' ⟨he, hw⟩ => ⟨_, he, post_true laidOutT (by kernel_rfl) rfl Try.underlying4 rfl rfl hW' hw⟩
 ·match i, hi with
  | 0, _ => exact r0
 ·exact partsG_y _
theorem dataParts_holds : Rows.DataPartsSaid :=
 OpenClaim.holds_of_wide 7 Try.f7 rfl rfl rfl rfl rfl rfl rfl ⟨rfl, rfl, rfl, rfl, rfl⟩ rfl rfl rfl rfl rfl (by kernel_rfl) Try.func7 (by kernel_rfl)
  (of_decide_eq_true (by kernel_rfl)) (by unfold Func.isWrapper; first | (rw [if_pos (by decide +kernel)]; kernel_rfl) | (rw [if_neg (by decide +kernel)]; exact ⟨rfl, rfl⟩))
  (fun os started H enc _ => dataParts_lifted os started H enc)
end Go.Proofs.Ytndohkbppgmbjaa
