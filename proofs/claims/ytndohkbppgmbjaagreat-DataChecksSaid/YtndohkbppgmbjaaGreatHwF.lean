/-
  The given statement DataChecks: for every input the statement's function returns true, and the input reads as it did.
-/
import Derived.Test.YtndohkbppgmbjaaGreatBM
import Derived.Test.YtndohkbppgmbjaaGreatCO
namespace Go.Proofs.YtndohkbppgmbjaaGreat
open Go Go.AX Go.Proofs Go.RowKit Go.WideShapes Go.ChangeShapes
set_option maxRecDepth 100000 in
theorem dataChecks_lifted (os : Os) (started : os.Started) (H : Type) (enc : TypeId × Value → H) :
  ReturnsInHanded {} Tryz.checked os 3 .any (Rows.dataChecksSpec.pre6 enc Tryz.prog Tryz.f3 Rows.dataChecksRow.domain false)
   (Rows.dataChecksSpec.post enc Tryz.prog Tryz.f3 false true false false) := by
 refine returnsInHanded_of_change (C := Tryz.checked) ownT started (by kernel_rfl) Tryz.func3
  (ChangeSpec.witness6 (enc := enc) (C := Tryz.checked) false ⟨#[], #[.int .u16 0, .slice none 0 0], []⟩ 8 (by kernel_rfl) (by kernel_rfl) (by kernel_rfl) (by kernel_rfl)) ?_
 intro W base args ds gs before hval0 hW _ _
 have hval : ∀ (j : Nat) t v, Tryz.f3.params[j]? = some t → args[j]? = some v → Value.okWide Tryz.prog W .any base t v := hval0
 have hW' := hW
 obtain ⟨p, q, hA0, hV, rfl, hfz, hnd⟩ := hW
 have hA : DataW.TrodAll enc Tryz.prog W 0 (fun _ => true) true Tryz.f3.params.toList args.toList ds p := hA0
 rw [Tryz.params3] at hA hval
 obtain ⟨v0, v1, d0, d1, p0, p1, rfl, rfl, rfl, h0, h1⟩ := trodAll_two hA
 obtain ⟨rfl, rfl⟩ := trodVars_none hV
 obtain ⟨_, ⟨x0, rfl⟩, r0⟩ := arg_int (σ := fun _ => .unset) Tryz.underlying22 (hval 0 22 v0 rfl rfl) (opens_u16 Tryz.underlying22) h0
 obtain ⟨_, ⟨x1, rfl, hx1⟩, r1⟩ := arg_slice (σ := fun _ => .unset) Tryz.underlying23 (hval 1 23 v1 rfl rfl) (iC Tryz.underlying23 c5 Tryz.underlying5) h1
 refine (law_calls (args := [.w16 x0, .sl x1.length (c8 x1)]) checks_ok rfl (fun i hi => ?_) ?_).mono fun e W' ⟨he, hw⟩ => ⟨_, he, post_true laidOutT (by kernel_rfl) rfl Tryz.underlying4 rfl rfl hW' hw⟩
 ·match i, hi with
  | 0, _ => exact r0
  | 1, _ => exact r1
 ·exact checksG_y _ _ hx1
theorem dataChecks_holds : Rows.DataChecksSaid :=
 OpenClaim.holds_of_wide 3 Tryz.f3 rfl rfl rfl rfl rfl rfl rfl ⟨rfl, rfl, rfl, rfl, rfl⟩ rfl rfl rfl rfl rfl (by kernel_rfl) Tryz.func3 (by kernel_rfl)
  (of_decide_eq_true (by kernel_rfl)) (by unfold Func.isWrapper; first | (rw [if_pos (by decide +kernel)]; kernel_rfl) | (rw [if_neg (by decide +kernel)]; exact ⟨rfl, rfl⟩))
  (fun os started H enc _ => dataChecks_lifted os started H enc)
end Go.Proofs.YtndohkbppgmbjaaGreat
