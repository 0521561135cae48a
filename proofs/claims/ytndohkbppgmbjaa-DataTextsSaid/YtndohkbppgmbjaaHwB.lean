/-
  The given statement DataTexts: for every input the statement's function returns true, and the input reads as it did.
-/
import Derived.Test.YtndohkbppgmbjaaBM
import Derived.Test.YtndohkbppgmbjaaBK
namespace Go.Proofs.Ytndohkbppgmbjaa
open Go Go.AX Go.Proofs Go.RowKit Go.WideShapes Go.ChangeShapes

set_option maxRecDepth 100000 in
theorem dataTexts_lifted (os : Os) (started : os.Started) (H : Type) (enc : TypeId × Value → H) :
    ReturnsInHanded {} Try.checked os 6 .any (Rows.dataTextsSpec.pre6 enc Try.prog Try.f6 Rows.dataTextsRow.domain false)
      (Rows.dataTextsSpec.post enc Try.prog Try.f6 false true false false) := by
  refine returnsInHanded_of_change (C := Try.checked) ownT started (by kernel_rfl) Try.func6
    (ChangeSpec.witness6 (enc := enc) (C := Try.checked) false ⟨#[], #[.slice none 0 0, .int .i64 0], []⟩ 8 (by kernel_rfl) (by kernel_rfl) (by kernel_rfl) (by kernel_rfl)) ?_
  intro W base args ds gs before hval0 hW _ _
  have hval : ∀ (j : Nat) t v, Try.f6.params[j]? = some t → args[j]? = some v → Value.okWide Try.prog W .any base t v := hval0
  have hW' := hW
  obtain ⟨p, q, hA0, hV, rfl, hfz, hnd⟩ := hW
  have hA : DataW.TrodAll enc Try.prog W 0 (fun _ => true) true Try.f6.params.toList args.toList ds p := hA0
  rw [Try.params6] at hA hval
  obtain ⟨v0, v1, d0, d1, p0, p1, rfl, rfl, rfl, h0, h1⟩ := trodAll_two hA
  obtain ⟨rfl, rfl⟩ := trodVars_none hV
  obtain ⟨_, ⟨x0, rfl, hx0⟩, r0⟩ := arg_slice (σ := fun _ => .unset) Try.underlying23 (hval 0 23 v0 rfl rfl) (opens_bytes Try.underlying23 c5 Try.underlying5) h0
  obtain ⟨_, ⟨x1, rfl, hx1⟩, r1⟩ := arg_int (σ := fun _ => .unset) Try.underlying3 (hval 1 3 v1 rfl rfl) (opens_i64 Try.underlying3) h1
  refine (law_calls (args := [.sl x0.length (c8 x0), .i x1]) texts_ok rfl (fun i hi => ?_) ?_).mono fun e W' ⟨he, hw⟩ => ⟨_, he, post_true laidOutT (by kernel_rfl) rfl Try.underlying4 rfl rfl hW' hw⟩
  · match i, hi with
    | 0, _ => exact r0
    | 1, _ => exact r1
  · exact textsG_y _ _ hx0

theorem dataTexts_holds : Rows.DataTextsSaid :=
  OpenClaim.holds_of_wide 6 Try.f6 rfl rfl rfl rfl rfl rfl rfl ⟨rfl, rfl, rfl, rfl, rfl⟩ rfl rfl rfl rfl rfl (by kernel_rfl) Try.func6 (by kernel_rfl)
    (of_decide_eq_true (by kernel_rfl)) (by unfold Func.isWrapper; first | (rw [if_pos (by decide +kernel)]; kernel_rfl) | (rw [if_neg (by decide +kernel)]; exact ⟨rfl, rfl⟩))
    (fun os started H enc _ => dataTexts_lifted os started H enc)

end Go.Proofs.Ytndohkbppgmbjaa
