/-
  The given statement DiskBounds: for every input the statement's function returns true, and the input reads as it did.
-/
import Derived.Test.YtkpgebeipmedeaaBM
import Derived.Test.YtkpgebeipmedeaaQD
namespace Go.Proofs.Ytkpgebeipmedeaa
open Go Go.AX Go.Proofs Go.RowKit Go.WideShapes Go.ChangeShapes

set_option maxRecDepth 100000 in
theorem diskBounds_lifted (os : Os) (started : os.Started) (H : Type) (enc : TypeId × Value → H) :
    ReturnsInHanded {} Try.checked os 3 .any (Rows.diskBoundsSpec.pre6 enc Try.prog Try.f3 Rows.diskBoundsRow.domain false)
      (Rows.diskBoundsSpec.post enc Try.prog Try.f3 false true false false) := by
  refine returnsInHanded_of_change (C := Try.checked) ownT started (by kernel_rfl) Try.func3
    (ChangeSpec.witness6 (enc := enc) (C := Try.checked) false ⟨#[], #[.int .i64 0, .int .i64 0], []⟩ 8 (by kernel_rfl) (by kernel_rfl) (by kernel_rfl) (by kernel_rfl)) ?_
  intro W base args ds gs before hval0 hW _ _
  have hval : ∀ (j : Nat) t v, Try.f3.params[j]? = some t → args[j]? = some v → Value.okWide Try.prog W .any base t v := hval0
  have hW' := hW
  obtain ⟨p, q, hA0, hV, rfl, hfz, hnd⟩ := hW
  have hA : DataW.TrodAll enc Try.prog W 0 (fun _ => true) true Try.f3.params.toList args.toList ds p := hA0
  rw [Try.params3] at hA hval
  obtain ⟨v0, v1, d0, d1, p0, p1, rfl, rfl, rfl, h0, h1⟩ := trodAll_two hA
  obtain ⟨rfl, rfl⟩ := trodVars_none hV
  obtain ⟨_, ⟨x0, rfl, hx0⟩, r0⟩ := arg_int (σ := fun _ => .unset) Try.underlying3 (hval 0 3 v0 rfl rfl) (opens_i64 Try.underlying3) h0
  obtain ⟨_, ⟨x1, rfl, hx1⟩, r1⟩ := arg_int (σ := fun _ => .unset) Try.underlying3 (hval 1 3 v1 rfl rfl) (opens_i64 Try.underlying3) h1
  refine (law_calls (args := [.i x0, .i x1]) bnd_ok rfl (fun i hi => ?_) ?_).mono fun e W' ⟨he, hw⟩ => ⟨_, he, post_true laidOutT (by kernel_rfl) rfl Try.underlying4 rfl rfl hW' hw⟩
  · match i, hi with
    | 0, _ => exact r0
    | 1, _ => exact r1
  · rfl

theorem diskBounds_holds : Rows.DiskBoundsSaid :=
  OpenClaim.holds_of_wide 3 Try.f3 rfl rfl rfl rfl rfl rfl rfl ⟨rfl, rfl, rfl, rfl, rfl⟩ rfl rfl rfl rfl rfl (by kernel_rfl) Try.func3 (by kernel_rfl)
    (of_decide_eq_true (by kernel_rfl)) (by unfold Func.isWrapper; first | (rw [if_pos (by decide +kernel)]; kernel_rfl) | (rw [if_neg (by decide +kernel)]; exact ⟨rfl, rfl⟩))
    (fun os started H enc _ => diskBounds_lifted os started H enc)

end Go.Proofs.Ytkpgebeipmedeaa
