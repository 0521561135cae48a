/-
  The given statement RollLate: for every input the statement's function returns true, and the input reads as it did.
-/
import Derived.Test.YthemkfbedajmpaaBD
import Derived.Test.YthemkfbedajmpaaBG
namespace Go.Proofs.Ythemkfbedajmpaa
open Go Go.AX Go.Proofs Go.RowKit Go.WideShapes Go.ChangeShapes

set_option maxRecDepth 100000 in
theorem rollLate_lifted (os : Os) (started : os.Started) (H : Type) (enc : TypeId × Value → H) :
    ReturnsInHanded {} Try.checked os 4 .any (Rows.rollLateSpec.pre6 enc Try.prog Try.f4 Rows.rollLateRow.domain false)
      (Rows.rollLateSpec.post enc Try.prog Try.f4 false true false false) := by
  refine returnsInHanded_of_change (C := Try.checked) ownT started (by kernel_rfl) Try.func4
    (ChangeSpec.witness6 (enc := enc) (C := Try.checked) false ⟨#[], #[.int .u16 0, .int .u32 0, .int .u16 0], []⟩ 8 (by kernel_rfl) (by kernel_rfl) (by kernel_rfl) (by kernel_rfl)) ?_
  intro W base args ds gs before hval0 hW _ _
  have hval : ∀ (j : Nat) t v, Try.f4.params[j]? = some t → args[j]? = some v → Value.okWide Try.prog W .any base t v := hval0
  have hW' := hW
  obtain ⟨p, q, hA0, hV, rfl, hfz, hnd⟩ := hW
  have hA : DataW.TrodAll enc Try.prog W 0 (fun _ => true) true Try.f4.params.toList args.toList ds p := hA0
  rw [Try.params4] at hA hval
  obtain ⟨v0, v1, v2, d0, d1, d2, p0, p1, p2, rfl, rfl, rfl, h0, h1, h2⟩ := trodAll_three hA
  obtain ⟨rfl, rfl⟩ := trodVars_none hV
  obtain ⟨_, ⟨x0, rfl⟩, r0⟩ := arg_int (σ := fun _ => .unset) Try.underlying22 (hval 0 22 v0 rfl rfl) (opens_u16 Try.underlying22) h0
  obtain ⟨_, ⟨x1, rfl⟩, r1⟩ := arg_int (σ := fun _ => .unset) Try.underlying23 (hval 1 23 v1 rfl rfl) (opens_u32 Try.underlying23) h1
  obtain ⟨_, ⟨x2, rfl⟩, r2⟩ := arg_int (σ := fun _ => .unset) Try.underlying22 (hval 2 22 v2 rfl rfl) (opens_u16 Try.underlying22) h2
  refine (law_calls (args := [.w16 x0, .w32 x1, .w16 x2]) late_ok rfl (fun i hi => ?_) ?_).mono fun e W' ⟨he, hw⟩ => ⟨_, he, post_true laidOutT (by kernel_rfl) rfl Try.underlying4 rfl rfl hW' hw⟩
  · match i, hi with
    | 0, _ => exact r0
    | 1, _ => exact r1
    | 2, _ => exact r2
  · rfl

theorem rollLate_holds : Rows.RollLateSaid :=
  OpenClaim.holds_of_wide 4 Try.f4 rfl rfl rfl rfl rfl rfl rfl ⟨rfl, rfl, rfl, rfl, rfl⟩ rfl rfl rfl rfl rfl (by kernel_rfl) Try.func4 (by kernel_rfl)
    (of_decide_eq_true (by kernel_rfl)) (by unfold Func.isWrapper; first | (rw [if_pos (by decide +kernel)]; kernel_rfl) | (rw [if_neg (by decide +kernel)]; exact ⟨rfl, rfl⟩))
    (fun os started H enc _ => rollLate_lifted os started H enc)

end Go.Proofs.Ythemkfbedajmpaa
