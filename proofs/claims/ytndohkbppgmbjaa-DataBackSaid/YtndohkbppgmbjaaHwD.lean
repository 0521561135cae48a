/-
  The given statement DataBack: for every input the statement's function returns true, and the input reads as it did.
-/
import Derived.Test.YtndohkbppgmbjaaBM
import Derived.Test.YtndohkbppgmbjaaCP
namespace Go.Proofs.Ytndohkbppgmbjaa
open Go Go.AX Go.Proofs Go.RowKit Go.WideShapes Go.ChangeShapes
theorem cst42 : Try.prog.cellsOf 42 = 7 := by kernel_rfl
theorem cst53 : Try.prog.cellsOf 53 = 9 := by kernel_rfl
theorem cst62 : Try.prog.cellsOf 62 = 6 := by kernel_rfl
theorem cst70 : Try.prog.cellsOf 70 = 4 := by kernel_rfl
set_option maxRecDepth 100000 in
theorem dataBack_lifted (os : Os) (started : os.Started) (H : Type) (enc : TypeId × Value → H) :
  ReturnsInHanded {} Try.checked os 8 .any (Rows.dataBackSpec.pre6 enc Try.prog Try.f8 Rows.dataBackRow.domain false)
   (Rows.dataBackSpec.post enc Try.prog Try.f8 false true false false) := by
 refine returnsInHanded_of_change (C := Try.checked) ownT started (by kernel_rfl) Try.func8
  (ChangeSpec.witness6 (enc := enc) (C := Try.checked) false ⟨#[], #[.agg #[.slice none 0 0, .slice none 0 0, .int .u32 0, .int .u32 0, .int .u32 0, .int .u32 0, .int .u32 0], .agg #[.int .u16 0, .int .u8 0, .int .u8 0, .int .u32 0, .int .u32 0, .int .u32 0, .int .u16 0, .slice none 0 0, .slice none 0 0], .agg #[.int .u8 0, .int .u8 0, .int .u16 0, .slice none 0 0, .slice none 0 0, .slice none 0 0], .agg #[.int .u16 0, .int .u8 0, .int .u8 0, .slice none 0 0]], []⟩ 8 (by kernel_rfl) (by kernel_rfl) (by kernel_rfl) (by kernel_rfl)) ?_
 intro W base args ds gs before hval0 hW _ _
 have hval : ∀ (j : Nat) t v, Try.f8.params[j]? = some t → args[j]? = some v → Value.okWide Try.prog W .any base t v := hval0
 have hW' := hW
 obtain ⟨p, q, hA0, hV, rfl, hfz, hnd⟩ := hW
 have hA : DataW.TrodAll enc Try.prog W 0 (fun _ => true) true Try.f8.params.toList args.toList ds p := hA0
 rw [Try.params8] at hA hval
 obtain ⟨v0, v1, v2, v3, d0, d1, d2, d3, p0, p1, p2, p3, rfl, rfl, rfl, h0, h1, h2, h3⟩ := trodAll_four hA
 obtain ⟨rfl, rfl⟩ := trodVars_none hV
 obtain ⟨c0, rfl, z0, F0⟩ := arg_struct (σ := fun _ => .unset) Try.underlying42 (hval 0 42 v0 rfl rfl) h0
 obtain ⟨_, ⟨x0_0, rfl, hlx0_0, hsx0_0⟩, _, r0_0⟩ := F0 0 _ _ rfl rfl c34 (opens_names Try.underlying34 c9 Try.underlying9)
 obtain ⟨_, ⟨x0_1, rfl, hlx0_1, hsx0_1⟩, _, r0_1⟩ := F0 1 _ _ rfl rfl c34 (opens_names Try.underlying34 c9 Try.underlying9)
 obtain ⟨_, ⟨x0_2, rfl⟩, _, r0_2⟩ := F0 2 _ _ rfl rfl c38 (gV Try.underlying38)
 obtain ⟨_, ⟨x0_3, rfl⟩, _, r0_3⟩ := F0 3 _ _ rfl rfl c38 (gV Try.underlying38)
 obtain ⟨_, ⟨x0_4, rfl⟩, _, r0_4⟩ := F0 4 _ _ rfl rfl c38 (gV Try.underlying38)
 obtain ⟨_, ⟨x0_5, rfl⟩, _, r0_5⟩ := F0 5 _ _ rfl rfl c38 (gV Try.underlying38)
 obtain ⟨_, ⟨x0_6, rfl⟩, _, r0_6⟩ := F0 6 _ _ rfl rfl c38 (gV Try.underlying38)
 have R0 : Rel (fun _ => .unset) (fun k => k < W.heap.size) W (.agg [.sl x0_0.length (cS x0_0), .sl x0_1.length (cS x0_1), .w32 x0_2, .w32 x0_3, .w32 x0_4, .w32 x0_5, .w32 x0_6]) (.agg c0) := by
  refine .agg _ _ (by rw [z0, cst42]; rfl) (fun i hi => ?_) (fun i hi => ?_)
  ·match i, hi with
   | 0, _ => rfl
   | 1, _ => rfl
   | 2, _ => rfl
   | 3, _ => rfl
   | 4, _ => rfl
   | 5, _ => rfl
   | 6, _ => rfl
  ·match i, hi with
   | 0, _ => exact r0_0
   | 1, _ => exact r0_1
   | 2, _ => exact r0_2
   | 3, _ => exact r0_3
   | 4, _ => exact r0_4
   | 5, _ => exact r0_5
   | 6, _ => exact r0_6
 obtain ⟨c1, rfl, z1, F1⟩ := arg_struct (σ := fun _ => .unset) Try.underlying53 (hval 1 53 v1 rfl rfl) h1
 obtain ⟨_, ⟨x1_0, rfl⟩, _, r1_0⟩ := F1 0 _ _ rfl rfl c22 (opens_u16 Try.underlying22)
 obtain ⟨_, ⟨x1_1, rfl⟩, _, r1_1⟩ := F1 1 _ _ rfl rfl c5 (opens_u8 Try.underlying5)
 obtain ⟨_, ⟨x1_2, rfl⟩, _, r1_2⟩ := F1 2 _ _ rfl rfl c5 (opens_u8 Try.underlying5)
 obtain ⟨_, ⟨x1_3, rfl⟩, _, r1_3⟩ := F1 3 _ _ rfl rfl c38 (gV Try.underlying38)
 obtain ⟨_, ⟨x1_4, rfl⟩, _, r1_4⟩ := F1 4 _ _ rfl rfl c38 (gV Try.underlying38)
 obtain ⟨_, ⟨x1_5, rfl⟩, _, r1_5⟩ := F1 5 _ _ rfl rfl c38 (gV Try.underlying38)
 obtain ⟨_, ⟨x1_6, rfl⟩, _, r1_6⟩ := F1 6 _ _ rfl rfl c22 (opens_u16 Try.underlying22)
 obtain ⟨_, ⟨x1_7, rfl, hlx1_7, hsx1_7⟩, _, r1_7⟩ := F1 7 _ _ rfl rfl c34 (opens_names Try.underlying34 c9 Try.underlying9)
 obtain ⟨_, ⟨x1_8, rfl, _⟩, _, r1_8⟩ := F1 8 _ _ rfl rfl c23 (iC Try.underlying23 c5 Try.underlying5)
 have R1 : Rel (fun _ => .unset) (fun k => k < W.heap.size) W (.agg [.w16 x1_0, .w8 x1_1, .w8 x1_2, .w32 x1_3, .w32 x1_4, .w32 x1_5, .w16 x1_6, .sl x1_7.length (cS x1_7), .sl x1_8.length (c8 x1_8)]) (.agg c1) := by
  refine .agg _ _ (by rw [z1, cst53]; rfl) (fun i hi => ?_) (fun i hi => ?_)
  ·match i, hi with
   | 0, _ => rfl
   | 1, _ => rfl
   | 2, _ => rfl
   | 3, _ => rfl
   | 4, _ => rfl
   | 5, _ => rfl
   | 6, _ => rfl
   | 7, _ => rfl
   | 8, _ => rfl
  ·match i, hi with
   | 0, _ => exact r1_0
   | 1, _ => exact r1_1
   | 2, _ => exact r1_2
   | 3, _ => exact r1_3
   | 4, _ => exact r1_4
   | 5, _ => exact r1_5
   | 6, _ => exact r1_6
   | 7, _ => exact r1_7
   | 8, _ => exact r1_8
 obtain ⟨c2, rfl, z2, F2⟩ := arg_struct (σ := fun _ => .unset) Try.underlying62 (hval 2 62 v2 rfl rfl) h2
 obtain ⟨_, ⟨x2_0, rfl⟩, _, r2_0⟩ := F2 0 _ _ rfl rfl c5 (opens_u8 Try.underlying5)
 obtain ⟨_, ⟨x2_1, rfl⟩, _, r2_1⟩ := F2 1 _ _ rfl rfl c5 (opens_u8 Try.underlying5)
 obtain ⟨_, ⟨x2_2, rfl⟩, _, r2_2⟩ := F2 2 _ _ rfl rfl c22 (opens_u16 Try.underlying22)
 obtain ⟨_, ⟨x2_3, rfl, _⟩, _, r2_3⟩ := F2 3 _ _ rfl rfl c23 (iC Try.underlying23 c5 Try.underlying5)
 obtain ⟨_, ⟨x2_4, rfl, _⟩, _, r2_4⟩ := F2 4 _ _ rfl rfl c23 (iC Try.underlying23 c5 Try.underlying5)
 obtain ⟨_, ⟨x2_5, rfl, _⟩, _, r2_5⟩ := F2 5 _ _ rfl rfl c60 (opens_types Try.underlying60 c22 Try.underlying22)
 have R2 : Rel (fun _ => .unset) (fun k => k < W.heap.size) W (.agg [.w8 x2_0, .w8 x2_1, .w16 x2_2, .sl x2_3.length (c8 x2_3), .sl x2_4.length (c8 x2_4), .sl x2_5.length (c16 x2_5)]) (.agg c2) := by
  refine .agg _ _ (by rw [z2, cst62]; rfl) (fun i hi => ?_) (fun i hi => ?_)
  ·match i, hi with
   | 0, _ => rfl
   | 1, _ => rfl
   | 2, _ => rfl
   | 3, _ => rfl
   | 4, _ => rfl
   | 5, _ => rfl
  ·match i, hi with
   | 0, _ => exact r2_0
   | 1, _ => exact r2_1
   | 2, _ => exact r2_2
   | 3, _ => exact r2_3
   | 4, _ => exact r2_4
   | 5, _ => exact r2_5
 obtain ⟨c3, rfl, z3, F3⟩ := arg_struct (σ := fun _ => .unset) Try.underlying70 (hval 3 70 v3 rfl rfl) h3
 obtain ⟨_, ⟨x3_0, rfl⟩, _, r3_0⟩ := F3 0 _ _ rfl rfl c22 (opens_u16 Try.underlying22)
 obtain ⟨_, ⟨x3_1, rfl⟩, _, r3_1⟩ := F3 1 _ _ rfl rfl c5 (opens_u8 Try.underlying5)
 obtain ⟨_, ⟨x3_2, rfl⟩, _, r3_2⟩ := F3 2 _ _ rfl rfl c5 (opens_u8 Try.underlying5)
 obtain ⟨_, ⟨x3_3, rfl, _⟩, _, r3_3⟩ := F3 3 _ _ rfl rfl c23 (iC Try.underlying23 c5 Try.underlying5)
 have R3 : Rel (fun _ => .unset) (fun k => k < W.heap.size) W (.agg [.w16 x3_0, .w8 x3_1, .w8 x3_2, .sl x3_3.length (c8 x3_3)]) (.agg c3) := by
  refine .agg _ _ (by rw [z3, cst70]; rfl) (fun i hi => ?_) (fun i hi => ?_)
  ·match i, hi with
   | 0, _ => rfl
   | 1, _ => rfl
   | 2, _ => rfl
   | 3, _ => rfl
  ·match i, hi with
   | 0, _ => exact r3_0
   | 1, _ => exact r3_1
   | 2, _ => exact r3_2
   | 3, _ => exact r3_3
 refine (law_calls (args := backA ⟨x0_0, x0_1, x0_2, x0_3, x0_4, x0_5, x0_6, x1_0, x1_1, x1_2, x1_3, x1_4, x1_5, x1_6, x1_7, x1_8, x2_0, x2_1, x2_2, x2_3, x2_4, x2_5, x3_0, x3_1, x3_2, x3_3⟩) back_ok rfl (fun i hi => ?_) (backG_y _ ⟨hlx0_0, hsx0_0⟩ ⟨hlx0_1, hsx0_1⟩ ⟨hlx1_7, hsx1_7⟩)).mono fun e W' ⟨he, hw⟩ => ⟨_, he, post_true laidOutT (by kernel_rfl) rfl Try.underlying4 rfl rfl hW' hw⟩
 match i, hi with
 | 0, _ => exact R0
 | 1, _ => exact R1
 | 2, _ => exact R2
 | 3, _ => exact R3
theorem dataBack_holds : Rows.DataBackSaid :=
 OpenClaim.holds_of_wide 8 Try.f8 rfl rfl rfl rfl rfl rfl rfl ⟨rfl, rfl, rfl, rfl, rfl⟩ rfl rfl rfl rfl rfl (by kernel_rfl) Try.func8 (by kernel_rfl)
  (of_decide_eq_true (by kernel_rfl)) (by unfold Func.isWrapper; first | (rw [if_pos (by decide +kernel)]; kernel_rfl) | (rw [if_neg (by decide +kernel)]; exact ⟨rfl, rfl⟩))
  (fun os started H enc _ => dataBack_lifted os started H enc)
end Go.Proofs.Ytndohkbppgmbjaa
