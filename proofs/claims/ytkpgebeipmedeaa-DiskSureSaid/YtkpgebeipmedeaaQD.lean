/-
  Disk, part L: how many sectors, and how great ones.
-/
import Derived.Test.YtkpgebeipmedeaaQC
namespace Go.AX
open Go Go.Proofs

theorem nw_len (n z : Int) : ((nwC n z).rows.length : Int) = wit n 1 4096 := by
  have := wit_le n 1 4096 (by decide)
  simp only [nwC, List.length_replicate]; omega
theorem nw_siz (n z : Int) : sizR (nwC n z).rows = some (wit z 64 4096) := by
  have h1 := wit_le n 1 4096 (by decide)
  have h2 := wit_le z 64 4096 (by decide)
  obtain ⟨k, hk⟩ : ∃ k, (wit n 1 4096).toNat = k + 1 := ⟨(wit n 1 4096).toNat - 1, by omega⟩
  simp only [nwC, hk, List.replicate_succ, sizR, zrow, List.length_replicate]
  congr 1; omega
theorem wit_mm (x lo hi : Int) : (if hi < (if x < lo then lo else x) then hi else if x < lo then lo else x) = wit x lo hi := (rfl)
def bndG : List AV → Option AV
  | [.i _, .i _] => some (.b true)
  | _ => none
set_option maxHeartbeats 2000000 in
theorem bnd_tail (n z : Int) (a b : Nat) : Awp Try.prog GLh Try.f3.ntmps (cr (cr (cr (bodyOf Try.f3)))) { fr := [(0, .i n), (1, .i z)], hp := fun _ => none, nx := a, cx := b } (pureQ Try.prog Try.f3.results.toList (.b true)) := by
  have hw : 1 ≤ (wit n 1 4096).toNat := by have := wit_le n 1 4096 (by decide); omega
  refine awp_seqP rfl ?_
  refine awp_regP (Γ := noEnv) [0, 1] (noEnv_ok _ _) rfl rfl rfl (fun K hK => ?_)
  simp (disch := omega) only [Try.f3, go_sem, Nat.reduceAdd, ↓reduceIte]
  refine hK _ ?_
  clear hK K
  refine nx_then ?_
  obtain ⟨y, hy⟩ : ∃ y, (if 70000 < z then 70000 else z) = y := ⟨_, rfl⟩
  rw [hy]
  refine awp_seqP rfl ?_
  refine awp_regP (Γ := envL [(7, .heap newG)]) [0, 1, 5] (envOK_cons ok7 envOK_nil) rfl rfl rfl (fun K hK => ?_)
  simp (disch := omega) only [Try.f3, go_sem, Nat.reduceAdd, ↓reduceIte]
  refine hK _ ?_
  clear hK K
  refine nx_then ?_
  refine awp_seqP rfl ?_
  refine awp_regP (Γ := envL [(8, .heap secG), (9, .heap sizG)]) [4] (envOK_cons ok8 (envOK_cons ok9 envOK_nil)) rfl rfl rfl (fun K hK => ?_)
  simp (disch := omega) only [Try.f3, go_sem, Nat.reduceAdd, ↓reduceIte, nw_len, nw_siz, wit_mm, ip23, eq_self, decide_true, Bool.not_false]
  refine hK _ ?_
  clear hK K
  refine nx_then ?_
  refine awp_retP rfl ?_
  simp (disch := omega) only [pureQ, resA, resAL, resA1, Try.f3, go_sem, ↓reduceIte]
set_option maxHeartbeats 2000000 in
theorem bnd_ok : PureOK Try.prog GLh 3 bndG := by
  refine pure_of_awp Try.func3 (bodyOf_some rfl) ?_
  intro args r hg
  unfold bndG at hg
  split at hg
  · rename_i n z
    obtain rfl := Option.some.inj hg
    refine ⟨Nat.le_of_ble_eq_true rfl, fun nx => ?_⟩
    refine awp_seqP rfl ?_
    refine awp_regP (Γ := noEnv) [0, 1] (noEnv_ok _ _) rfl rfl rfl (fun K hK => ?_)
    simp (disch := omega) only [Try.f3, go_sem, ↓reduceIte]
    refine hK _ ?_
    clear hK K
    refine nx_then ?_
    refine awp_seqP rfl ?_
    refine awp_seqP rfl ?_
    refine awp_regP (Γ := envL [(6, .pure true knG)]) [7, 0, 1] (envOK_cons ok6 envOK_nil) rfl rfl rfl (fun K hK => ?_)
    simp (disch := omega) only [Try.f3, go_sem, Nat.reduceAdd, ↓reduceIte]
    refine hK _ ?_
    clear hK K
    refine nx_then ?_
    refine awp_ifB (.tmp 7) rfl rfl rfl (fun h => ?_) (fun h => ?_)
    · skip
      refine awp_drop rfl ?_
      cases h
    · skip
      refine awp_drop rfl ?_
      refine awp_skipP rfl ?_
      refine nx_then ?_
      refine awp_seqP rfl ?_
      refine awp_seqP rfl ?_
      obtain ⟨x, hx⟩ : ∃ x, decide (20 < n) = x := ⟨_, rfl⟩
      cases x
      · skip
        refine awp_regP (Γ := noEnv) [13, 0, 1] (noEnv_ok _ _) rfl rfl rfl (fun K hK => ?_)
        simp (disch := omega) only [Try.f3, go_sem, Nat.reduceAdd, reduceCtorEq, ↓reduceIte, hx]
        refine hK _ ?_
        clear hK K
        refine nx_then ?_
        refine awp_ifB (.tmp 13) rfl rfl rfl (fun h => ?_) (fun h => ?_)
        · skip
          refine awp_drop rfl ?_
          cases h
        · skip
          refine awp_drop rfl ?_
          refine awp_skipP rfl ?_
          refine nx_then ?_
          exact bnd_tail n z _ _
      · skip
        refine awp_regP (Γ := noEnv) [13, 0, 1] (noEnv_ok _ _) rfl rfl rfl (fun K hK => ?_)
        simp (disch := omega) only [Try.f3, go_sem, Nat.reduceAdd, ↓reduceIte, hx]
        refine hK _ ?_
        clear hK K
        refine nx_then ?_
        refine awp_ifD (.tmp 13) rfl rfl rfl (fun h => ?_) (fun h => ?_)
        · skip
          refine awp_drop rfl ?_
          refine awp_regP (Γ := noEnv) [0, 1] (noEnv_ok _ _) rfl rfl rfl (fun K hK => ?_)
          simp (disch := omega) only [Try.f3, go_sem, ↓reduceIte]
          refine hK _ ?_
          clear hK K
          refine nx_then ?_
          exact bnd_tail n 64 _ _
        · skip
          refine awp_drop rfl ?_
          refine awp_skipP rfl ?_
          refine nx_then ?_
          exact bnd_tail n z _ _
  · cases hg
theorem ok3 : EntOK Try.prog GLh 3 (.pure true bndG) := ⟨⟨_, Try.func3, rfl, rfl⟩, bnd_ok⟩
end Go.AX
