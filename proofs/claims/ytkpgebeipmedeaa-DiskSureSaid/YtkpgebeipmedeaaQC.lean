/-
  Disk, part H: contracts of a map's keys, sorted. Disk, part I: what was written is settled. Disk, part J: synced, crashed. Disk, part K: a disk that is known.
-/
import Derived.Test.YtkpgebeipmedeaaQA
import Derived.Test.YtkpgebeipmedeaaQB
namespace Go.AX
open Go Go.Proofs
open Go.WideElems (Fit rd rg)

def keyG : List AV → H → Nat → Option (AV × H × Nat)
  | [.mp m], hp, nx => some (.fn 34 [.op nx 0], upd hp nx (.cells [.mp m] true), nx + 10)
  | _, _, _ => none
theorem keyG_eq (m : Nat) (hp : H) (nx : Nat) : keyG [.mp m] hp nx = some (.fn 34 [.op nx 0], upd hp nx (.cells [.mp m] true), nx + 10) := (rfl)
attribute [go_sem] keyG_eq
theorem key_ok : HeapOK Try.prog GLh 30 keyG := by
  refine heap_of_awp Try.func30 (bodyOf_some rfl) ?_
  intro args hp nx r hp' nx' hg
  unfold keyG at hg
  split at hg
  · rename_i m
    simp only [Option.some.injEq, Prod.mk.injEq] at hg; obtain ⟨rfl, rfl, rfl⟩ := hg
    refine ⟨Nat.le_of_ble_eq_true rfl, by omega, fun hnone => ?_⟩
    refine awp_seqP rfl ?_
    refine awp_regP (Γ := noEnv) [1] (noEnv_ok _ _) rfl rfl rfl (fun K hK => ?_)
    simp (disch := omega) only [Try.f30, go_sem, Nat.reduceAdd, ↓reduceIte]
    refine hK _ ?_
    clear hK K
    refine nx_then ?_
    refine awp_seqP rfl ?_
    refine awp_regP (Γ := noEnv) [2] (noEnv_ok _ _) rfl rfl rfl (fun K hK => ?_)
    simp (disch := omega) only [Try.f30, go_sem, Nat.reduceAdd, ↓reduceIte]
    refine hK _ ?_
    clear hK K
    refine nx_then ?_
    refine awp_retP rfl ?_
    exact ⟨rfl, fun j o h => h, by simp only; omega⟩
  · cases hg
theorem ok30 : EntOK Try.prog GLh 30 (.heap keyG) := ⟨⟨_, Try.func30, rfl, rfl⟩, key_ok⟩

def keysI : List (AV × AV) → Option (List Int)
  | [] => some []
  | p :: r => match p.1 with
    | .i k => obind (keysI r) fun l => some (k :: l)
    | _ => none
theorem keysI_D (l : List (Int × List B8)) : keysI (encD l) = some (l.map (·.1)) := by
  induction l with
  | nil => rfl
  | cons p r ih => simp only [encD, List.map_cons, keysI] at ih ⊢; rw [ih]; rfl
theorem keysI_inv : ∀ {es : List (AV × AV)} {ks : List Int}, keysI es = some ks → ks.length = es.length ∧ ∀ i (h : i < es.length), es[i].1 = .i (ks.getD i 0)
  | [], ks, h => by obtain rfl := Option.some.inj h; exact ⟨rfl, fun i h => by simp at h⟩
  | p :: r, ks, h => by
    simp only [keysI] at h
    split at h
    · rename_i k e
      replace h := obind_inv h; obtain ⟨l, hl, h⟩ := h
      obtain rfl := Option.some.inj h
      obtain ⟨i1, i2⟩ := keysI_inv hl
      refine ⟨by simp [i1], fun i hi => ?_⟩
      cases i with
      | zero => exact e
      | succ i => simpa using i2 i (by simpa using hi)
    · cases h
def srt (ks : List Int) : List Int := ks.mergeSort (fun x y => decide (x ≤ y))
def srtO (nx : Nat) (hp : H) : AO → Option (AV × H × Nat)
  | .mapo es _ => obind (keysI es) fun ks => guardO ((ks.all fun k => decide (0 ≤ k ∧ k < 1000000)) = true ∧ ks.length ≤ 1000000) (some (.os nx 0 ks.length 1 true, upd hp nx (.cells ((srt ks).map .i) true), nx + 1))
  | _ => none
def srtP (nx : Nat) (hp : H) : AO → Option (AV × H × Nat)
  | .cells [.mp m] _ => obind (hp m) (srtO nx hp)
  | _ => none
def srtG : List AV → H → Nat → Option (AV × H × Nat)
  | [.fn 34 [.op b 0]], hp, nx => obind (hp b) (srtP nx hp)
  | _, _, _ => none
theorem srtG_eq (b : Nat) (hp : H) (nx : Nat) : srtG [.fn 34 [.op b 0]] hp nx = obind (hp b) (srtP nx hp) := (rfl)
theorem srtP_eq (m nx : Nat) (hp : H) (mt : Bool) : srtP nx hp (.cells [.mp m] mt) = obind (hp m) (srtO nx hp) := (rfl)
theorem srtO_eq (nx : Nat) (hp : H) (es : List (AV × AV)) (mt : Bool) : srtO nx hp (.mapo es mt) = obind (keysI es) fun ks => guardO ((ks.all fun k => decide (0 ≤ k ∧ k < 1000000)) = true ∧ ks.length ≤ 1000000) (some (.os nx 0 ks.length 1 true, upd hp nx (.cells ((srt ks).map .i) true), nx + 1)) := (rfl)
attribute [go_sem] srtG_eq srtP_eq srtO_eq keysI_D

def oneR : Value → Option (DataW Unit × List MemPlace) := fun _ => some (.lit (.bool true), [])
theorem ins_perm (x : Lit × DataW Unit) : ∀ l, (DataW.insert x l).Perm (x :: l)
  | [] => List.Perm.refl _
  | y :: r => by
    simp only [DataW.insert]
    split
    · exact List.Perm.refl _
    · exact ((ins_perm x r).cons y).trans (List.Perm.swap x y r)
theorem foldr_perm : ∀ l : List (Lit × DataW Unit), (l.foldr DataW.insert []).Perm l
  | [] => List.Perm.refl _
  | x :: r => (ins_perm x _).trans ((foldr_perm r).cons x)
theorem ri_inv {σ : Nat → Loc} {I : Nat → Prop} {w : World} {n : Int} {v : Value} (h : Rel σ I w (.i n) v) : v = .int .i64 n := by cases h; rfl
theorem wf_i64 (k : Int) (h : 0 ≤ k ∧ k < 1000000) : (Lit.int .i64 k).wf = true := by
  simp [Lit.wf, IntKind.min, IntKind.max, IntKind.signed, IntKind.bits]
  omega
/-- An own map, as the kit's contracts ask for it. -/
theorem owns_of_row {σ : Nat → Loc} {I : Nat → Prop} {w : World} {es : List (AV × AV)} {blk : Nat} {ks : List Int} (h : MapRow σ I w es blk) (hk : keysI es = some ks) (hall : ∀ k ∈ ks, 0 ≤ k ∧ k < 1000000) (hlen : ks.length ≤ 1000000) :
    ∃ D : DataW Unit, w.ownsMap Try.prog 3 oneR blk ks.length D ∧ (intKeys D).Perm ks ∧ Maps.size D = ks.length := by
  obtain ⟨⟨ents, cl, h1, h2, h3, h4⟩⟩ := h
  obtain ⟨k1, k2⟩ := keysI_inv hk
  have hkey : ∀ i (hi : i < ents.size), ents[i].key = .int .i64 (ks.getD i 0) := by
    intro i hi
    have := (h4 i (by omega)).2.1
    rw [k2 i (by omega)] at this
    have e : ents.getD i default = ents[i] := by rw [Array.getD_eq_getD_getElem?, Array.getElem?_eq_getElem hi]; rfl
    rw [e] at this
    exact ri_inv this
  have hrd : ∀ i (hi : i < ents.size), rd Try.prog 3 oneR ents[i] = some (.int .i64 (ks.getD i 0), .lit (.bool true)) := by
    intro i hi
    have hm : ks.getD i 0 ∈ ks := by rw [List.getD_eq_getElem?_getD, List.getElem?_eq_getElem (by omega)]; exact List.getElem_mem _
    have hw := wf_i64 _ (hall _ hm)
    have hk := hkey i hi
    generalize ks.getD i 0 = k at hw hk ⊢
    simp [rd, hk, keyOf, mapKey, Try.underlying3, hw, oneR]
  have hmap : ents.toList.map (rg Try.prog 3 oneR) = ks.map fun k => (.int .i64 k, .lit (.bool true)) := by
    apply List.ext_getElem
    · simp [h2, k1]
    · intro i hi1 hi2
      simp at hi1 hi2
      simp only [List.getElem_map, Array.getElem_toList, rg, hrd i hi1, Option.getD_some]
      rw [List.getD_eq_getElem?_getD, List.getElem?_eq_getElem hi2]; rfl
  refine ⟨.map ((ents.toList.map (rg Try.prog 3 oneR)).foldr DataW.insert []), ⟨ents, cl, h1, ⟨by simp only [maxLen]; omega, h3, fun x hx => ?_⟩, by omega, rfl⟩, ?_, ?_⟩
  · obtain ⟨i, hi, rfl⟩ := List.getElem_of_mem hx
    exact ⟨_, hrd i (by simpa using hi)⟩
  · rw [hmap]
    simp only [intKeys]
    refine ((foldr_perm _).map _).trans (List.Perm.of_eq ?_)
    rw [List.map_map]
    exact List.map_id' ks
  · rw [hmap, Maps.size_eq, (foldr_perm _).length_eq, List.length_map]
theorem srt_len (ks : List Int) : (srt ks).length = ks.length := (List.mergeSort_perm ks _).length_eq
set_option maxHeartbeats 1000000 in
theorem srt_ok : HeapOK Try.prog GLh 29 srtG := by
  intro c σ I w hp nx args vals r hp' nx' hGL hi hs hr hg
  unfold srtG at hg
  split at hg
  · rename_i b
    replace hg := obind_inv hg; obtain ⟨o, ho, hg⟩ := hg
    unfold srtP at hg
    split at hg
    · rename_i m mt
      replace hg := obind_inv hg; obtain ⟨o2, ho2, hg⟩ := hg
      cases o2 with
      | cells xs mt2 => cases hg
      | mapo es mt2 =>
      rw [srtO_eq] at hg
      replace hg := obind_inv hg; obtain ⟨ks, hks, hg⟩ := hg
      replace hg := guardO_inv hg; obtain ⟨⟨hall, hlen⟩, hg⟩ := hg
      simp only [Option.some.injEq, Prod.mk.injEq] at hg; obtain ⟨rfl, rfl, rfl⟩ := hg
      refine ⟨by omega, ?_⟩
      have hr0 := hr 0 (by simp)
      simp only [List.getElem_cons_zero] at hr0
      generalize hv0 : vals.getD 0 undef = v0 at hr0
      cases hr0 with
      | fn f xs vs hvs hrel =>
      have hrp := hrel 0 (by simp)
      simp only [List.getElem_cons_zero] at hrp
      obtain ⟨blk, base, sz, hl, hp0⟩ := op_inv hrp
      have hvs1 : vs = #[.pointer (some ⟨blk, base + 0, none⟩)] := by
        apply Array.ext
        · rw [hvs]; rfl
        · intro i h1 h2
          obtain rfl : i = 0 := by simp at h2; omega
          have : vs.getD 0 undef = vs[0] := by simp [Array.getD, h1]
          rw [← this]; simpa using hp0
      have hvals : vals = #[.func (.func 34) #[] #[.pointer (some ⟨blk, base + 0, none⟩)]] := by
        apply Array.ext
        · rw [hs]; rfl
        · intro i h1 h2
          obtain rfl : i = 0 := by simp at h2; omega
          have : vals.getD 0 undef = vals[0] := by simp [Array.getD, h1]
          rw [← this, hv0, hvs1]; rfl
      have hob := hi.own b _ ho
      have hrow := own_row hob hl
      obtain ⟨v1, hc1, _, hr1⟩ := hrow.get 0 (by simp)
      simp only [List.getElem_cons_zero] at hr1
      obtain ⟨mb, e1, hmr, _⟩ := hi.own m _ ho2
      obtain rfl := mp_at hr1 e1
      have hlt : blk < w.heap.size := hob.lt hl
      have hall' : ∀ k ∈ ks, 0 ≤ k ∧ k < 1000000 := fun k hk => of_decide_eq_true (List.all_eq_true.1 hall k hk)
      obtain ⟨D, d1, d2, d3⟩ := owns_of_row hmr hks hall' hlen
      rw [hvals]
      refine (sorted_calls blk (base + 0) mb ks.length D oneR w hlt hc1 d1 (by rw [d3]; simp only [maxLen]; omega) (by rw [d3]; omega)).mono ?_
      rintro e w' ⟨v, ss, rfl, hperm, hrow2, hnil, hb⟩
      have hp2 := hperm.trans d2
      have hsl : ss.length = ks.length := hp2.length_eq
      have hms : ss.mergeSort (fun x y => decide (x ≤ y)) = srt ks := mergeSort_of_perm_i hp2
      rw [hms, hsl] at hrow2
      have hext := hi.extend hb.os hb.tape hb.output hb.size (fun k hk => hb.block k hk) I (fun _ h => h) (fun k hk => .inl hk)
      have hun : ∀ id, (nx + 1 ≤ id ∨ (id = nx ∨ (id < nx ∧ σ id = .unset))) → σ id = .unset := by
        intro id h
        rcases h with h | h | h
        · exact hi.un id (by omega)
        · exact hi.un id (by omega)
        · exact h.2
      have hext2 : Inv c σ I w' hp (fun k => nx + 1 ≤ k ∨ (k = nx ∨ (k < nx ∧ σ k = .unset))) := { hext with un := hun }
      obtain ⟨v2, σ2, I2, a1, a2, a3, a4⟩ := freshFin (I := I) (Iw := I) (w := w) (cx := nx + 1) (un := fun k => k = nx ∨ (k < nx ∧ σ k = .unset)) (id := nx) (nn := ks.length) (ee := 1) (xs := (srt ks).map .i) (v := v) (I1 := I) hext2 (.inl rfl) hi.size (fun k hk => hi.ilt k hk)
        (fun k o blk base sz h1 h2 => (hi.own k o h1).lt h2) ⟨fun _ _ => rfl, fun _ h => h, fun k hk => hb.block k (hi.ilt k hk)⟩ (by
          rcases hrow2.2 with ⟨rfl, h0⟩ | ⟨g, cap, cur, rfl, hbg, hgb, hcap, hmax, hsz, htake⟩
          · left
            refine ⟨.inl rfl, h0, ?_⟩
            have := srt_len ks
            rw [h0] at this
            rw [List.eq_nil_of_length_eq_zero this]; rfl
          · right
            have hsl2 := srt_len ks
            refine ⟨g, 0, cap, cap, rfl, hcap, by omega, hbg, fun hI5 => absurd (hi.ilt g hI5) (by omega), ⟨cur, 3, 0, 0, hgb, by omega, by rw [List.length_map]; omega, ⟨Nat.le_refl _, fun _ _ => by omega⟩, fun i hi5 => ?_⟩, fun i hi5 => ?_⟩
            · have hil : i < (srt ks).length := by simpa using hi5
              rw [List.getElem_map]
              have h6 : (cur.toList.take (ks.length * 1))[i]? = some (.int .i64 ((srt ks)[i])) := by rw [htake]; simp [hil]
              rw [List.getElem?_take_of_lt (by omega)] at h6
              have e6 : cur.getD (0 + i) undef = .int .i64 ((srt ks)[i]) := by
                rw [Nat.zero_add, Array.getD_eq_getD_getElem?, ← Array.getElem?_toList, h6]; rfl
              rw [e6]; exact .i _
            · rw [List.getElem_map]; rfl) (fun k h => by omega)
      cases a1
      exact ⟨v, σ2, I2, rfl, a2.mono_un (fun k hk => .inl hk), a3, a4, fun id hid hun => a2.un id (.inr ⟨.inr ⟨hid, hun⟩, by omega⟩)⟩
    · cases hg
  · cases hg
theorem ok29 : EntOK Try.prog GLh 29 (.heap srtG) := ⟨⟨_, Try.func29, rfl, rfl⟩, srt_ok⟩
end Go.AX

namespace Go.AX
open Go Go.Proofs

def syG : List AV → Option AV
  | [.i _] => some (.b true)
  | _ => none
theorem syG_eq (k : Int) : syG [.i k] = some (.b true) := (rfl)
theorem sy_ok : PureOK Try.prog GLh 25 syG := by
  refine pure_of_awp Try.func25 (bodyOf_some rfl) ?_
  intro args r hg
  unfold syG at hg
  split at hg
  · obtain rfl := Option.some.inj hg
    refine ⟨Nat.le_of_ble_eq_true rfl, fun nx => ?_⟩
    refine awp_seqP rfl ?_
    refine awp_regP (Γ := noEnv) [] (noEnv_ok _ _) rfl rfl rfl (fun K hK => ?_)
    simp (disch := omega) only [Try.f25, go_sem]
    refine hK _ ?_
    clear hK K
    refine nx_then ?_
    refine awp_seqP rfl ?_
    refine awp_regP (Γ := noEnv) [2] (noEnv_ok _ _) rfl rfl rfl (fun K hK => ?_)
    simp (disch := omega) only [Try.f25, go_sem, ↓reduceIte]
    refine hK _ ?_
    clear hK K
    refine nx_then ?_
    refine awp_retP rfl ?_
    simp (disch := omega) only [pureQ, resA, resAL, resA1, Try.f25, go_sem, ↓reduceIte]
  · cases hg
theorem ok25 : EntOK Try.prog GLh 25 (.pure true syG) := ⟨⟨_, Try.func25, rfl, rfl⟩, sy_ok⟩

def bitK (keep : BitVec 64) (k : Nat) : Bool := decide (keep >>> (k % 64) &&& 1#64 = 1#64)
def crG : List AV → Option AV
  | [.i k, .rp [.w64 keep]] => guardO (0 ≤ k) (some (.b (bitK keep k.toNat)))
  | _ => none
theorem crG_eq (k : Int) (keep : BitVec 64) : crG [.i k, .rp [.w64 keep]] = guardO (0 ≤ k) (some (.b (bitK keep k.toNat))) := (rfl)
theorem cr_ok : PureOK Try.prog GLh 26 crG := by
  refine pure_of_awp Try.func26 (bodyOf_some rfl) ?_
  intro args r hg
  unfold crG at hg
  split at hg
  · rename_i k keep
    replace hg := guardO_inv hg; obtain ⟨hk, hg⟩ := hg
    obtain rfl := Option.some.inj hg
    refine ⟨Nat.le_of_ble_eq_true rfl, fun nx => ?_⟩
    refine awp_seqP rfl ?_
    refine awp_regP (Γ := noEnv) [0, 1] (noEnv_ok _ _) rfl rfl rfl (fun K hK => ?_)
    simp (disch := omega) only [Try.f26, go_sem, ↓reduceIte]
    refine hK _ ?_
    clear hK K
    refine nx_then ?_
    obtain ⟨n, rfl⟩ : ∃ n : Nat, k = n := ⟨k.toNat, by omega⟩
    refine awp_seqP rfl ?_
    refine awp_regP (Γ := noEnv) [3] (noEnv_ok _ _) rfl rfl rfl (fun K hK => ?_)
    simp (disch := omega) only [Try.f26, go_sem, Nat.reduceAdd, Int.reduceLE, Int.reduceLT, Int.reduceEq, BitVec.reduceOfInt, ↓reduceIte, List.head?_cons]
    refine hK _ ?_
    clear hK K
    refine nx_then ?_
    refine awp_retP rfl ?_
    simp (disch := omega) only [pureQ, resA, resAL, resA1, Try.f26, go_sem, ↓reduceIte]
    have e : (BitVec.ofInt 64 ((n : Int).tmod 64)).toNat = n % 64 := by
      rw [show (n : Int).tmod 64 = ((n % 64 : Nat) : Int) from rfl, BitVec.ofInt_natCast, BitVec.toNat_ofNat, Nat.mod_eq_of_lt (by omega)]
    simp only [e, bitK]
  · cases hg
theorem ok26 : EntOK Try.prog GLh 26 (.pure true crG) := ⟨⟨_, Try.func26, rfl, rfl⟩, cr_ok⟩

theorem cellsV_encR (b : List B8) : cellsV (encR b) = some [encR b] := (rfl)
theorem frz1_encR (hp : H) (b : List B8) : frz1 hp (encR b) = some (encR b, hp) := (rfl)
theorem setD_set1 (hp : H) (d s m : Nat) (C : DC) (n : Nat) (b : List B8) (h1 : s ≠ d) (h2 : s ≠ m) : upd (setD d s m C hp) s (.cells ((C.rows.map encR).set n (encR b)) true) = setD d s m { C with rows := C.rows.set n b } hp := by
  rw [← List.map_set]; exact setD_updS hp d s m C _ (List.length_set ..) h1 h2
theorem setD_clr (hp : H) (d s m : Nat) (C : DC) (h1 : m ≠ d) : upd (setD d s m C hp) m (.mapo [] true) = setD d s m { C with dirty := [] } hp := setD_updM hp d s m C [] h1
attribute [go_sem] cellsV_encR frz1_encR setD_set1 setD_clr
/-- The rows behind the first k sectors that were written. -/
def rowsAt (kept : Nat → Bool) (ks : List Int) (dirty : List (Int × List B8)) (rows : List (List B8)) : Nat → List (List B8)
  | 0 => rows
  | k + 1 => if kept k = true then (rowsAt kept ks dirty rows k).set (ks.getD k 0).toNat ((getK (ks.getD k 0) dirty).getD []) else rowsAt kept ks dirty rows k
theorem rowsAt_len (kept : Nat → Bool) (ks : List Int) (dirty : List (Int × List B8)) (rows : List (List B8)) : ∀ k, (rowsAt kept ks dirty rows k).length = rows.length
  | 0 => rfl
  | k + 1 => by
    simp only [rowsAt]
    split
    · rw [List.length_set]; exact rowsAt_len kept ks dirty rows k
    · exact rowsAt_len kept ks dirty rows k
def stlC (kept : Nat → Bool) (C : DC) : DC := { C with rows := rowsAt kept (srt (C.dirty.map (·.1))) C.dirty C.rows C.dirty.length, dirty := [] }
def keptOf (hp : H) : AV → Option (Nat → Bool)
  | .fn 25 [] => some fun _ => true
  | .fn 26 [.op b 0] => obind (hp b) fun o => match o with | .cells [.w64 keep] _ => some (bitK keep) | _ => none
  | _ => none
def DOk (C : DC) : Bool := (C.dirty.map (·.1)).all fun i : Int => decide (0 ≤ i ∧ i < (C.rows.length : Int))
noncomputable def stlG : List AV → H → Nat → Option (AV × H × Nat)
  | [.op d 0, x], hp, nx => obind (dskOf hp d) fun t => obind (keptOf hp x) fun kept => guardO (DOk t.C = true ∧ t.C.rows.length ≤ 4096 ∧ t.C.dirty.length ≤ 4096) (some (.tup [], setD d t.s t.m (stlC kept t.C) hp, nx + 100 + 24 * t.C.dirty.length))
  | _, _, _ => none
theorem stlG_eq (d : Nat) (x : AV) (hp : H) (nx : Nat) : stlG [.op d 0, x] hp nx = obind (dskOf hp d) fun t => obind (keptOf hp x) fun kept => guardO (DOk t.C = true ∧ t.C.rows.length ≤ 4096 ∧ t.C.dirty.length ≤ 4096) (some (.tup [], setD d t.s t.m (stlC kept t.C) hp, nx + 100 + 24 * t.C.dirty.length)) := (rfl)
attribute [go_sem] stlG_eq
theorem getK_mem {i : Int} {l : List (Int × List B8)} (h : i ∈ l.map (·.1)) : ∃ b, getK i l = some b := by
  induction l with
  | nil => cases h
  | cons p r ih =>
    simp only [getK]
    by_cases e : i = p.1
    · rw [if_pos e]; exact ⟨_, rfl⟩
    · rw [if_neg e]
      simp only [List.map_cons, List.mem_cons] at h
      exact ih (h.resolve_left e)
def kC2 (C : DC) (kept : Nat → Bool) (k : Nat) : DC := { C with rows := rowsAt kept (srt (C.dirty.map (·.1))) C.dirty C.rows k }
theorem kC2_len (C : DC) (kept : Nat → Bool) (k : Nat) : (kC2 C kept k).rows.length = C.rows.length := rowsAt_len ..
theorem kC2_t {C : DC} {kept : Nat → Bool} {k : Nat} {i : Int} {b : List B8} (hi : (srt (C.dirty.map (·.1))).getD k 0 = i) (hb : getK i C.dirty = some b) (h : kept k = true) : kC2 C kept (k + 1) = { rows := (kC2 C kept k).rows.set i.toNat b, g := (kC2 C kept k).g, dirty := C.dirty, cut := (kC2 C kept k).cut, dead := (kC2 C kept k).dead } := by
  simp only [kC2, rowsAt, h, if_true, hi, hb, Option.getD_some]
theorem kC2_f {C : DC} {kept : Nat → Bool} {k : Nat} (h : kept k = false) : kC2 C kept (k + 1) = kC2 C kept k := by
  simp only [kC2, rowsAt, h, Bool.false_eq_true, if_false]
theorem kC2_d (C : DC) (kept : Nat → Bool) (k : Nat) : (kC2 C kept k).dirty = C.dirty := (rfl)

set_option maxHeartbeats 2000000 in
theorem stl_sy {d s m : Nat} {C : DC} {hp : H} {nx : Nat} (hD : DHas hp d s m C) (hok : DOk C = true) (hl1 : C.rows.length ≤ 4096) (hl2 : C.dirty.length ≤ 4096) (hnone : ∀ id, nx ≤ id → hp id = none) :
    Awp Try.prog GLh Try.f24.ntmps (bodyOf Try.f24) (initS [.op d 0, .fn 25 []] hp nx) (heapQ Try.prog Try.f24.results.toList (.tup []) (setD d s m (stlC (fun _ => true) C) hp) (nx + 100 + 24 * C.dirty.length)) := by
  have hlt : ∀ k o, hp k = some o → k < nx := fun k o hk => lt_of_none hnone hk
  have h1 := hD.hd; have h2 := hD.hs; have h3 := hD.hm
  obtain ⟨n1, n2, n3, n4, n5, n6⟩ := hD.ne
  have hd := hlt _ _ h1
  have hs := hlt _ _ h2
  have hm := hlt _ _ h3
  skip
  obtain ⟨ks, hks⟩ : ∃ ks, srt (C.dirty.map (·.1)) = ks := ⟨_, rfl⟩
  have hkl : ks.length = C.dirty.length := by rw [← hks, srt_len, List.length_map]
  have hpk : ks.Perm (C.dirty.map (·.1)) := by rw [← hks]; exact List.mergeSort_perm _ _
  have hkm : ∀ k, k < ks.length → ks.getD k 0 ∈ C.dirty.map (·.1) := by
    intro k hk
    rw [List.getD_eq_getElem?_getD, List.getElem?_eq_getElem hk, Option.getD_some]
    exact hpk.mem_iff.1 (List.getElem_mem hk)
  have hbd : ∀ i ∈ C.dirty.map (·.1), 0 ≤ i ∧ i < (C.rows.length : Int) := fun i hi => of_decide_eq_true (List.all_eq_true.1 hok i hi)
  have hall : ((C.dirty.map (·.1)).all fun k => decide (0 ≤ k ∧ k < 1000000)) = true := List.all_eq_true.2 fun i hi => decide_eq_true (by have := hbd i hi; omega)
  have hdl : (C.dirty.map (·.1)).length ≤ 1000000 := by rw [List.length_map]; omega
  refine awp_seqP rfl ?_
  refine awp_seqP rfl ?_
  refine awp_regP (Γ := envL [(30, .heap keyG), (29, .heap srtG)]) [0, 1, 11, 12, 13] (envOK_cons ok30 (envOK_cons ok29 envOK_nil)) rfl rfl rfl (fun K hK => ?_)
  simp (disch := omega) only [Try.f24, go_sem, Nat.reduceAdd, Nat.reduceLT, ↓reduceIte, h1, h3, List.drop_succ_cons, List.drop_zero, List.head?_cons, hall, hks, List.length_map]
  refine hK _ ?_
  clear hK K
  refine nx_then ?_
  refine awp_blockN 0 rfl rfl ?_
  refine awp_loopP (fun k : Nat => { fr := [(0, .op d 0), (1, .fn 25 []), (11, .os (nx + 18) 0 C.dirty.length 1 true), (12, .i C.dirty.length), (13, .i k)], hp := setD d s m (kC2 C (fun _ => true) k) (upd hp (nx + 18) (.cells (ks.map .i) true)), nx := 0, cx := nx + 19 + 24 * k }) (fun k => k ≤ C.dirty.length) (fun k => C.dirty.length - k) rfl ?_ ?_
  rotate_left
  rintro k hk n0
  simp only at hk ⊢
  refine awp_seqP rfl ?_
  refine awp_regP (Γ := noEnv) [14, 0, 1, 11, 12, 13] (noEnv_ok _ _) rfl rfl rfl (fun K hK => ?_)
  simp (disch := omega) only [Try.f24, go_sem, ↓reduceIte]
  refine hK _ ?_
  clear hK K
  refine nx_then ?_
  refine awp_seqP rfl ?_
  refine awp_ifD (.tmp 14) rfl rfl rfl (fun h => ?_) (fun h => ?_)
  · skip
    refine awp_drop rfl ?_
    have hkd : k < ks.length := by omega
    have hgk : ((ks.map AV.i).drop k).head? = some (.i (ks.getD k 0)) := by rw [List.head?_drop, List.getElem?_map, List.getElem?_eq_getElem hkd, List.getD_eq_getElem?_getD, List.getElem?_eq_getElem hkd]; rfl
    obtain ⟨i, hi⟩ : ∃ i, ks.getD k 0 = i := ⟨_, rfl⟩
    have him := hkm k hkd
    rw [hi] at hgk him
    obtain ⟨b, hb⟩ := getK_mem him
    obtain ⟨hi1, hi2⟩ := hbd i him
    refine awp_skipP rfl ?_
    refine nx_then ?_
    refine awp_seqP rfl ?_
    refine awp_blockN 1 rfl rfl ?_
    refine awp_seqP rfl ?_
    refine awp_regP (Γ := noEnv) [0, 1, 4, 5, 11, 12, 13] (noEnv_ok _ _) rfl rfl rfl (fun K hK => ?_)
    simp (disch := omega) only [Try.f24, go_sem, Nat.reduceAdd, ↓reduceIte, hgk, Nat.zero_add, Nat.mul_one, Int.toNat_natCast]
    refine hK _ ?_
    clear hK K
    refine nx_then ?_
    refine awp_seqP rfl ?_
    refine awp_regP (Γ := envL [(25, .pure true syG)]) [20, 0, 1, 5, 11, 12, 13] (envOK_cons ok25 envOK_nil) rfl rfl rfl (fun K hK => ?_)
    simp (disch := omega) only [Try.f24, go_sem, Nat.reduceAdd, ↓reduceIte, syG_eq, List.cons_append, List.nil_append, Nat.zero_add]
    refine hK _ ?_
    clear hK K
    refine nx_then ?_
    refine awp_ifB (.tmp 20) rfl rfl rfl (fun h => ?_) (fun h => ?_)
    · skip
      refine awp_drop rfl ?_
      refine awp_drwP (Γ := noEnv) (fun _ => 2) [0, 1, 11, 12, 13] mixed (noEnv_ok _ _) rfl rfl rfl (by kernel_rfl) (fun K hK => ?_)
      simp (disch := omega) only [Try.f24, go_sem, Nat.reduceAdd, Nat.reduceLT, ↓reduceIte, kC2_d, kC2_len, List.drop_succ_cons, List.drop_zero, List.head?_cons, encD_get, hb, Option.map_some, Nat.zero_add, Nat.mul_one, List.length_map]
      refine hK _ ?_
      clear hK K
      refine nx_blk (nx_then ?_)
      refine awp_regP (Γ := noEnv) [0, 1, 11, 12, 13] (noEnv_ok _ _) rfl rfl rfl (fun K hK => ?_)
      simp (disch := omega) only [Try.f24, go_sem, Nat.reduceAdd, ↓reduceIte]
      refine hK _ ?_
      clear hK K
      refine nx_loop ?_
      have e := kC2_t (C := C) (kept := fun _ => true) (k := k) (by rw [hks]; exact hi) hb h
      refine ⟨k + 1, by omega, by omega, ⟨fun _ => .inr ?_, fun j o hj => ?_, by simp only; omega⟩⟩
      · simp only [Int.natCast_add, Int.natCast_one]
      · simp only [e] at hj; exact hj
    · skip
      refine awp_drop rfl ?_
      cases h
  · skip
    refine awp_drop rfl ?_
    refine awp_exitN 0 rfl rfl ?_
    refine nx_ex_then (nx_ex_loop (nx_ex_blk ?_))
    refine nx_then ?_
    obtain rfl : k = C.dirty.length := by omega
    refine awp_regP (Γ := noEnv) [] (noEnv_ok _ _) rfl rfl rfl (fun K hK => ?_)
    simp (disch := omega) only [Try.f24, go_sem, Nat.reduceAdd, Nat.reduceLT, ↓reduceIte, kC2_d, List.drop_succ_cons, List.drop_zero, List.head?_cons]
    refine hK _ ?_
    clear hK K
    refine ⟨rfl, fun j o hj => ?_, by simp only; omega⟩
    have e : ({ kC2 C (fun _ => true) C.dirty.length with dirty := [] } : DC) = stlC (fun _ => true) C := (rfl)
    simp only [e]
    refine setD_mono (fun j o hj => ?_) j o hj
    have := hlt j o hj
    rw [upd_apply, if_neg (by omega)]; exact hj
  · refine ⟨0, Nat.zero_le _, ⟨fun _ => .inr rfl, fun j o hj => ?_, by simp only; omega⟩⟩
    refine setD_sub (C := kC2 C (fun _ => true) 0) ?_ ?_ ?_ ?_ j o hj
    · simp only []
      rw [upd_apply, if_neg (by omega), upd_apply, if_neg (by omega)]; exact h1
    · simp only []
      rw [upd_apply, if_neg (by omega), upd_apply, if_neg (by omega)]; exact h2
    · simp only []
      rw [upd_apply, if_neg (by omega), upd_apply, if_neg (by omega)]; exact h3
    · intro k o k1 k2 k3 hk
      simp only [upd_apply] at hk ⊢
      by_cases e : k = nx + 18
      · rw [if_pos e] at hk; rw [if_pos (by omega)]; exact hk
      · rw [if_neg e] at hk
        have := hlt k o hk
        rw [if_neg (by omega), if_neg (by omega)]; exact hk

set_option maxHeartbeats 2000000 in
theorem stl_cr {d s m : Nat} {C : DC} {hp : H} {nx : Nat} (hD : DHas hp d s m C) (hok : DOk C = true) (hl1 : C.rows.length ≤ 4096) (hl2 : C.dirty.length ≤ 4096) (hnone : ∀ id, nx ≤ id → hp id = none) {bx : Nat} {mb : Bool} {keep : BitVec 64} (hbx : hp bx = some (.cells [.w64 keep] mb)) :
    Awp Try.prog GLh Try.f24.ntmps (bodyOf Try.f24) (initS [.op d 0, .fn 26 [.op bx 0]] hp nx) (heapQ Try.prog Try.f24.results.toList (.tup []) (setD d s m (stlC (bitK keep) C) hp) (nx + 100 + 24 * C.dirty.length)) := by
  have hlt : ∀ k o, hp k = some o → k < nx := fun k o hk => lt_of_none hnone hk
  have h1 := hD.hd; have h2 := hD.hs; have h3 := hD.hm
  obtain ⟨n1, n2, n3, n4, n5, n6⟩ := hD.ne
  have hd := hlt _ _ h1
  have hs := hlt _ _ h2
  have hm := hlt _ _ h3
  have hbl := hlt _ _ hbx
  have b1 : bx ≠ d := by
    rintro rfl
    have := hbx.symm.trans h1
    cases (AO.cells.inj (Option.some.inj this)).1
  have b2 : bx ≠ m := by
    rintro rfl
    have := hbx.symm.trans h3
    cases this
  have b3 : bx ≠ s := by
    rintro rfl
    have := (AO.cells.inj (Option.some.inj (hbx.symm.trans h2))).1
    cases hr : C.rows with
    | nil => rw [hr] at this; cases this
    | cons a r => rw [hr] at this; cases (List.cons.inj this).1
  obtain ⟨ks, hks⟩ : ∃ ks, srt (C.dirty.map (·.1)) = ks := ⟨_, rfl⟩
  have hkl : ks.length = C.dirty.length := by rw [← hks, srt_len, List.length_map]
  have hpk : ks.Perm (C.dirty.map (·.1)) := by rw [← hks]; exact List.mergeSort_perm _ _
  have hkm : ∀ k, k < ks.length → ks.getD k 0 ∈ C.dirty.map (·.1) := by
    intro k hk
    rw [List.getD_eq_getElem?_getD, List.getElem?_eq_getElem hk, Option.getD_some]
    exact hpk.mem_iff.1 (List.getElem_mem hk)
  have hbd : ∀ i ∈ C.dirty.map (·.1), 0 ≤ i ∧ i < (C.rows.length : Int) := fun i hi => of_decide_eq_true (List.all_eq_true.1 hok i hi)
  have hall : ((C.dirty.map (·.1)).all fun k => decide (0 ≤ k ∧ k < 1000000)) = true := List.all_eq_true.2 fun i hi => decide_eq_true (by have := hbd i hi; omega)
  have hdl : (C.dirty.map (·.1)).length ≤ 1000000 := by rw [List.length_map]; omega
  refine awp_seqP rfl ?_
  refine awp_seqP rfl ?_
  refine awp_regP (Γ := envL [(30, .heap keyG), (29, .heap srtG)]) [0, 1, 11, 12, 13] (envOK_cons ok30 (envOK_cons ok29 envOK_nil)) rfl rfl rfl (fun K hK => ?_)
  simp (disch := omega) only [Try.f24, go_sem, Nat.reduceAdd, Nat.reduceLT, ↓reduceIte, h1, h3, List.drop_succ_cons, List.drop_zero, List.head?_cons, hall, hks, List.length_map]
  refine hK _ ?_
  clear hK K
  refine nx_then ?_
  refine awp_blockN 0 rfl rfl ?_
  refine awp_loopP (fun k : Nat => { fr := [(0, .op d 0), (1, .fn 26 [.op bx 0]), (11, .os (nx + 18) 0 C.dirty.length 1 true), (12, .i C.dirty.length), (13, .i k)], hp := setD d s m (kC2 C (bitK keep) k) (upd hp (nx + 18) (.cells (ks.map .i) true)), nx := 0, cx := nx + 19 + 24 * k }) (fun k => k ≤ C.dirty.length) (fun k => C.dirty.length - k) rfl ?_ ?_
  rotate_left
  rintro k hk n0
  simp only at hk ⊢
  refine awp_seqP rfl ?_
  refine awp_regP (Γ := noEnv) [14, 0, 1, 11, 12, 13] (noEnv_ok _ _) rfl rfl rfl (fun K hK => ?_)
  simp (disch := omega) only [Try.f24, go_sem, ↓reduceIte]
  refine hK _ ?_
  clear hK K
  refine nx_then ?_
  refine awp_seqP rfl ?_
  refine awp_ifD (.tmp 14) rfl rfl rfl (fun h => ?_) (fun h => ?_)
  · skip
    refine awp_drop rfl ?_
    have hkd : k < ks.length := by omega
    have hgk : ((ks.map AV.i).drop k).head? = some (.i (ks.getD k 0)) := by rw [List.head?_drop, List.getElem?_map, List.getElem?_eq_getElem hkd, List.getD_eq_getElem?_getD, List.getElem?_eq_getElem hkd]; rfl
    obtain ⟨i, hi⟩ : ∃ i, ks.getD k 0 = i := ⟨_, rfl⟩
    have him := hkm k hkd
    rw [hi] at hgk him
    obtain ⟨b, hb⟩ := getK_mem him
    obtain ⟨hi1, hi2⟩ := hbd i him
    refine awp_skipP rfl ?_
    refine nx_then ?_
    refine awp_seqP rfl ?_
    refine awp_blockN 1 rfl rfl ?_
    refine awp_seqP rfl ?_
    refine awp_regP (Γ := noEnv) [0, 1, 4, 5, 11, 12, 13] (noEnv_ok _ _) rfl rfl rfl (fun K hK => ?_)
    simp (disch := omega) only [Try.f24, go_sem, Nat.reduceAdd, ↓reduceIte, hgk, Nat.zero_add, Nat.mul_one, Int.toNat_natCast]
    refine hK _ ?_
    clear hK K
    refine nx_then ?_
    refine awp_seqP rfl ?_
    refine awp_regP (Γ := envL [(26, .pure true crG)]) [20, 0, 1, 5, 11, 12, 13] (envOK_cons ok26 envOK_nil) rfl rfl rfl (fun K hK => ?_)
    simp (disch := omega) only [Try.f24, go_sem, Nat.reduceAdd, ↓reduceIte, crG_eq, hbx, List.cons_append, List.nil_append, Nat.zero_add, Int.toNat_natCast]
    refine hK _ ?_
    clear hK K
    refine nx_then ?_
    refine awp_ifB (.tmp 20) rfl rfl rfl (fun h => ?_) (fun h => ?_)
    · skip
      refine awp_drop rfl ?_
      refine awp_drwP (Γ := noEnv) (fun _ => 2) [0, 1, 11, 12, 13] mixed (noEnv_ok _ _) rfl rfl rfl (by kernel_rfl) (fun K hK => ?_)
      simp (disch := omega) only [Try.f24, go_sem, Nat.reduceAdd, Nat.reduceLT, ↓reduceIte, kC2_d, kC2_len, List.drop_succ_cons, List.drop_zero, List.head?_cons, encD_get, hb, Option.map_some, Nat.zero_add, Nat.mul_one, List.length_map]
      refine hK _ ?_
      clear hK K
      refine nx_blk (nx_then ?_)
      refine awp_regP (Γ := noEnv) [0, 1, 11, 12, 13] (noEnv_ok _ _) rfl rfl rfl (fun K hK => ?_)
      simp (disch := omega) only [Try.f24, go_sem, Nat.reduceAdd, ↓reduceIte]
      refine hK _ ?_
      clear hK K
      refine nx_loop ?_
      have e := kC2_t (C := C) (kept := bitK keep) (k := k) (by rw [hks]; exact hi) hb h
      refine ⟨k + 1, by omega, by omega, ⟨fun _ => .inr ?_, fun j o hj => ?_, by simp only; omega⟩⟩
      · simp only [Int.natCast_add, Int.natCast_one]
      · simp only [e] at hj; exact hj
    · skip
      refine awp_drop rfl ?_
      refine awp_skipP rfl ?_
      refine nx_blk (nx_then ?_)
      refine awp_regP (Γ := noEnv) [0, 1, 11, 12, 13] (noEnv_ok _ _) rfl rfl rfl (fun K hK => ?_)
      simp (disch := omega) only [Try.f24, go_sem, Nat.reduceAdd, ↓reduceIte]
      refine hK _ ?_
      clear hK K
      refine nx_loop ?_
      have e := kC2_f (C := C) (kept := bitK keep) (k := k) h
      refine ⟨k + 1, by omega, by omega, ⟨fun _ => .inr ?_, fun j o hj => ?_, by simp only; omega⟩⟩
      · simp only [Int.natCast_add, Int.natCast_one]
      · simp only [e] at hj; exact hj
  · skip
    refine awp_drop rfl ?_
    refine awp_exitN 0 rfl rfl ?_
    refine nx_ex_then (nx_ex_loop (nx_ex_blk ?_))
    refine nx_then ?_
    obtain rfl : k = C.dirty.length := by omega
    refine awp_regP (Γ := noEnv) [] (noEnv_ok _ _) rfl rfl rfl (fun K hK => ?_)
    simp (disch := omega) only [Try.f24, go_sem, Nat.reduceAdd, Nat.reduceLT, ↓reduceIte, kC2_d, List.drop_succ_cons, List.drop_zero, List.head?_cons]
    refine hK _ ?_
    clear hK K
    refine ⟨rfl, fun j o hj => ?_, by simp only; omega⟩
    have e : ({ kC2 C (bitK keep) C.dirty.length with dirty := [] } : DC) = stlC (bitK keep) C := (rfl)
    simp only [e]
    refine setD_mono (fun j o hj => ?_) j o hj
    have := hlt j o hj
    rw [upd_apply, if_neg (by omega)]; exact hj
  · refine ⟨0, Nat.zero_le _, ⟨fun _ => .inr rfl, fun j o hj => ?_, by simp only; omega⟩⟩
    refine setD_sub (C := kC2 C (bitK keep) 0) ?_ ?_ ?_ ?_ j o hj
    · simp only []
      rw [upd_apply, if_neg (by omega), upd_apply, if_neg (by omega)]; exact h1
    · simp only []
      rw [upd_apply, if_neg (by omega), upd_apply, if_neg (by omega)]; exact h2
    · simp only []
      rw [upd_apply, if_neg (by omega), upd_apply, if_neg (by omega)]; exact h3
    · intro k o k1 k2 k3 hk
      simp only [upd_apply] at hk ⊢
      by_cases e : k = nx + 18
      · rw [if_pos e] at hk; rw [if_pos (by omega)]; exact hk
      · rw [if_neg e] at hk
        have := hlt k o hk
        rw [if_neg (by omega), if_neg (by omega)]; exact hk

theorem stl_ok : HeapOK Try.prog GLh 24 stlG := by
  refine heap_of_awp Try.func24 (bodyOf_some rfl) ?_
  intro args hp nx r hp' nx' hg
  unfold stlG at hg
  split at hg
  · rename_i d x
    replace hg := obind_inv hg; obtain ⟨⟨s, m, C⟩, hD0, hg⟩ := hg
    have hD := dskOf_inv hD0
    replace hg := obind_inv hg; obtain ⟨kept, hk, hg⟩ := hg
    replace hg := guardO_inv hg; obtain ⟨⟨g1, g2, g3⟩, hg⟩ := hg
    simp only [Option.some.injEq, Prod.mk.injEq] at hg hD g1 g2 g3; obtain ⟨rfl, rfl, rfl⟩ := hg
    refine ⟨Nat.le_of_ble_eq_true rfl, by omega, fun hnone => ?_⟩
    unfold keptOf at hk
    split at hk
    · obtain rfl := Option.some.inj hk
      exact stl_sy hD g1 g2 g3 hnone
    · rename_i b
      replace hk := obind_inv hk; obtain ⟨o, ho, hk⟩ := hk
      split at hk
      · obtain rfl := Option.some.inj hk
        exact stl_cr hD g1 g2 g3 hnone ho
      · cases hk
    · cases hk
  · cases hg
theorem ok24 : EntOK Try.prog GLh 24 (.heap stlG) := ⟨⟨_, Try.func24, rfl, rfl⟩, stl_ok⟩
end Go.AX

namespace Go.AX
open Go Go.Proofs

theorem setD_updD (hp : H) (d s m : Nat) (C : DC) (c : Int) (x : Bool) : upd (setD d s m C hp) d (.cells [.os s 0 C.rows.length 1 C.g, .mp m, .i c, .b x] true) = setD d s m { C with cut := c, dead := x } hp := by
  funext k
  simp only [setD, upd_apply]
  by_cases e : k = d
  · simp [e]
  · simp [e]
attribute [go_sem] setD_updD
theorem pw_rows (C : DC) : (pwV C).2.rows = C.rows := by unfold pwV; split <;> first | rfl | (split <;> rfl)
theorem pw_dirty (C : DC) : (pwV C).2.dirty = C.dirty := by unfold pwV; split <;> first | rfl | (split <;> rfl)
theorem pw_dok (C : DC) : DOk (pwV C).2 = DOk C := by unfold DOk; rw [pw_rows, pw_dirty]
theorem kept_sy (hp : H) : keptOf hp (.fn 25 []) = some fun _ => true := (rfl)
def synV (C : DC) : Int × DC := if C.dead = true then (82, C) else if (pwV C).1 = 0 then (0, stlC (fun _ => true) (pwV C).2) else pwV C
noncomputable def synG : List AV → H → Nat → Option (AV × H × Nat)
  | [.op d 0], hp, nx => obind (dskOf hp d) fun t => guardO (DOk t.C = true ∧ t.C.rows.length ≤ 4096 ∧ t.C.dirty.length ≤ 4096) (some (.i (synV t.C).1, setD d t.s t.m (synV t.C).2 hp, nx + 300 + 24 * t.C.dirty.length))
  | _, _, _ => none
theorem synG_eq (d : Nat) (hp : H) (nx : Nat) : synG [.op d 0] hp nx = obind (dskOf hp d) fun t => guardO (DOk t.C = true ∧ t.C.rows.length ≤ 4096 ∧ t.C.dirty.length ≤ 4096) (some (.i (synV t.C).1, setD d t.s t.m (synV t.C).2 hp, nx + 300 + 24 * t.C.dirty.length)) := (rfl)
attribute [go_sem] synG_eq
theorem syn_ok : HeapOK Try.prog GLh 11 synG := by
  refine heap_of_awp Try.func11 (bodyOf_some rfl) ?_
  intro args hp nx r hp' nx' hg
  unfold synG at hg
  split at hg
  · rename_i d
    replace hg := obind_inv hg; obtain ⟨⟨s, m, C⟩, hD0, hg⟩ := hg
    have hD := dskOf_inv hD0
    replace hg := guardO_inv hg; obtain ⟨⟨g1, g2, g3⟩, hg⟩ := hg
    simp only [Option.some.injEq, Prod.mk.injEq] at hg hD g1 g2 g3; obtain ⟨rfl, rfl, rfl⟩ := hg
    refine ⟨Nat.le_of_ble_eq_true rfl, by omega, fun hnone => ?_⟩
    have h1 := hD.hd; have h2 := hD.hs; have h3 := hD.hm
    obtain ⟨n1, n2, n3, n4, n5, n6⟩ := hD.ne
    have q1 := pw_dok C
    have q2 := pw_rows C
    have q3 := pw_dirty C
    refine awp_seqP rfl ?_
    refine awp_regP (Γ := noEnv) [0] (noEnv_ok _ _) rfl rfl rfl (fun K hK => ?_)
    simp (disch := omega) only [Try.f11, go_sem, ↓reduceIte]
    refine hK _ ?_
    clear hK K
    refine nx_then ?_
    refine awp_seqP rfl ?_
    refine awp_seqP rfl ?_
    refine awp_regP (Γ := noEnv) [7, 0] (noEnv_ok _ _) rfl rfl rfl (fun K hK => ?_)
    simp (disch := omega) only [Try.f11, go_sem, Nat.reduceAdd, Nat.reduceLT, ↓reduceIte, h1, List.drop_succ_cons, List.drop_zero, List.head?_cons]
    refine hK _ ?_
    clear hK K
    refine nx_then ?_
    refine awp_ifB (.tmp 7) rfl rfl rfl (fun h => ?_) (fun h => ?_)
    · skip
      refine awp_drop rfl ?_
      have e : synV C = (82, C) := if_pos h
      rw [e]
      refine awp_seqP rfl ?_
      refine awp_regP (Γ := noEnv) [2] (noEnv_ok _ _) rfl rfl rfl (fun K hK => ?_)
      simp (disch := omega) only [Try.f11, go_sem, ↓reduceIte]
      refine hK _ ?_
      clear hK K
      refine nx_then ?_
      refine awp_retP rfl ?_
      refine nx_ret_then ?_
      refine ⟨rfl, ?_, by simp only; omega⟩
      rw [setD_same hD]; exact fun j o h => h
    · skip
      refine awp_drop rfl ?_
      have h4 := h
      refine awp_skipP rfl ?_
      refine nx_then ?_
      refine awp_seqP rfl ?_
      refine awp_seqP rfl ?_
      refine awp_regP (Γ := envL [(22, .heap pwG)]) [0, 3] (envOK_cons ok22 envOK_nil) rfl rfl rfl (fun K hK => ?_)
      simp (disch := omega) only [Try.f11, go_sem, Nat.reduceAdd, ↓reduceIte, hD0]
      refine hK _ ?_
      clear hK K
      refine nx_then ?_
      refine awp_seqP rfl ?_
      refine awp_regP (Γ := noEnv) [11, 0, 3] (noEnv_ok _ _) rfl rfl rfl (fun K hK => ?_)
      simp (disch := omega) only [Try.f11, go_sem, Nat.reduceAdd, ↓reduceIte]
      refine hK _ ?_
      clear hK K
      refine nx_then ?_
      refine awp_ifE (.tmp 11) rfl rfl rfl (fun h => ?_) (fun h => ?_)
      · skip
        refine awp_drop rfl ?_
        have e : synV C = pwV C := by unfold synV; rw [if_neg (by simp [h4]), if_neg h]
        rw [e]
        refine awp_seqP rfl ?_
        refine awp_regP (Γ := noEnv) [2] (noEnv_ok _ _) rfl rfl rfl (fun K hK => ?_)
        simp (disch := omega) only [Try.f11, go_sem, Nat.reduceAdd, ↓reduceIte]
        refine hK _ ?_
        clear hK K
        refine nx_then ?_
        refine awp_retP rfl ?_
        refine nx_ret_then ?_
        exact ⟨rfl, fun j o h => h, by simp only; omega⟩
      · skip
        refine awp_drop rfl ?_
        have e : synV C = (0, stlC (fun _ => true) (pwV C).2) := by unfold synV; rw [if_neg (by simp [h4]), if_pos h]
        rw [e]
        refine awp_skipP rfl ?_
        refine nx_then ?_
        refine awp_seqP rfl ?_
        refine awp_regP (Γ := envL [(24, .heap stlG), (25, .pure true syG)]) [] (envOK_cons ok24 (envOK_cons ok25 envOK_nil)) rfl rfl rfl (fun K hK => ?_)
        simp (disch := omega) only [Try.f11, go_sem, Nat.reduceAdd, ↓reduceIte, kept_sy, q1, g1, q2, q3, g2, g3]
        refine hK _ ?_
        clear hK K
        refine nx_then ?_
        refine awp_seqP rfl ?_
        refine awp_regP (Γ := noEnv) [2] (noEnv_ok _ _) rfl rfl rfl (fun K hK => ?_)
        simp (disch := omega) only [Try.f11, go_sem, ↓reduceIte]
        refine hK _ ?_
        clear hK K
        refine nx_then ?_
        refine awp_retP rfl ?_
        exact ⟨rfl, fun j o h => h, by simp only; omega⟩
  · cases hg
theorem ok11 : EntOK Try.prog GLh 11 (.heap synG) := ⟨⟨_, Try.func11, rfl, rfl⟩, syn_ok⟩

def craC (keep : BitVec 64) (C : DC) : DC := { stlC (bitK keep) C with cut := -1, dead := false }
noncomputable def craG : List AV → H → Nat → Option (AV × H × Nat)
  | [.op d 0, .w64 keep], hp, nx => obind (dskOf hp d) fun t => guardO (DOk t.C = true ∧ t.C.rows.length ≤ 4096 ∧ t.C.dirty.length ≤ 4096) (some (.tup [], setD d t.s t.m (craC keep t.C) hp, nx + 300 + 24 * t.C.dirty.length))
  | _, _, _ => none
theorem craG_eq (d : Nat) (keep : BitVec 64) (hp : H) (nx : Nat) : craG [.op d 0, .w64 keep] hp nx = obind (dskOf hp d) fun t => guardO (DOk t.C = true ∧ t.C.rows.length ≤ 4096 ∧ t.C.dirty.length ≤ 4096) (some (.tup [], setD d t.s t.m (craC keep t.C) hp, nx + 300 + 24 * t.C.dirty.length)) := (rfl)
attribute [go_sem] craG_eq
theorem kept_cr (hp : H) (b : Nat) (keep : BitVec 64) (mt : Bool) (h : hp b = some (.cells [.w64 keep] mt)) : keptOf hp (.fn 26 [.op b 0]) = some (bitK keep) := by
  simp only [keptOf, h, obind_some]
theorem cra_ok : HeapOK Try.prog GLh 12 craG := by
  refine heap_of_awp Try.func12 (bodyOf_some rfl) ?_
  intro args hp nx r hp' nx' hg
  unfold craG at hg
  split at hg
  · rename_i d keep
    replace hg := obind_inv hg; obtain ⟨⟨s, m, C⟩, hD0, hg⟩ := hg
    have hD := dskOf_inv hD0
    replace hg := guardO_inv hg; obtain ⟨⟨g1, g2, g3⟩, hg⟩ := hg
    simp only [Option.some.injEq, Prod.mk.injEq] at hg hD g1 g2 g3; obtain ⟨rfl, rfl, rfl⟩ := hg
    refine ⟨Nat.le_of_ble_eq_true rfl, by omega, fun hnone => ?_⟩
    have hlt : ∀ k o, hp k = some o → k < nx := fun k o hk => lt_of_none hnone hk
    have h1 := hD.hd; have h2 := hD.hs; have h3 := hD.hm
    obtain ⟨n1, n2, n3, n4, n5, n6⟩ := hD.ne
    have hd := hlt _ _ h1
    have hs := hlt _ _ h2
    have hm := hlt _ _ h3
    refine awp_seqP rfl ?_
    refine awp_regP (Γ := noEnv) [0, 3] (noEnv_ok _ _) rfl rfl rfl (fun K hK => ?_)
    simp (disch := omega) only [Try.f12, go_sem, Int.reduceNeg, ↓reduceIte]
    refine hK _ ?_
    clear hK K
    refine nx_then ?_
    have hD2 : dskOf (upd hp nx (.cells [.w64 keep] true)) d = some ⟨s, m, C⟩ := dskOf_has ⟨by rw [upd_apply, if_neg (by omega)]; exact h1, by rw [upd_apply, if_neg (by omega)]; exact h2, by rw [upd_apply, if_neg (by omega)]; exact h3, hD.ne⟩
    have hk2 : keptOf (upd hp nx (.cells [.w64 keep] true)) (.fn 26 [.op nx 0]) = some (bitK keep) := kept_cr _ _ _ true (by rw [upd_apply, if_pos rfl])
    refine awp_seqP rfl ?_
    refine awp_regP (Γ := envL [(24, .heap stlG)]) [0] (envOK_cons ok24 envOK_nil) rfl rfl rfl (fun K hK => ?_)
    simp (disch := omega) only [Try.f12, go_sem, Nat.reduceAdd, Int.reduceNeg, ↓reduceIte, hD2, hk2, g1, g2, g3]
    refine hK _ ?_
    clear hK K
    refine nx_then ?_
    refine awp_regP (Γ := noEnv) [] (noEnv_ok _ _) rfl rfl rfl (fun K hK => ?_)
    simp (disch := omega) only [Try.f12, go_sem, Nat.reduceAdd, Nat.reduceLeDiff, Nat.reduceLT, Int.reduceNeg, ↓reduceIte, List.set_cons_succ, List.set_cons_zero, storeL_1]
    refine hK _ ?_
    clear hK K
    refine ⟨rfl, setD_mono (fun j o hj => ?_), by simp only; omega⟩
    have := hlt j o hj
    rw [upd_apply, if_neg (by omega)]; exact hj
  · cases hg
theorem ok12 : EntOK Try.prog GLh 12 (.heap craG) := ⟨⟨_, Try.func12, rfl, rfl⟩, cra_ok⟩
end Go.AX

namespace Go.AX
open Go Go.Proofs

def z64 : List B8 := List.replicate 64 0#8
def k64 : List B8 := 7#8 :: List.replicate 63 0#8
def K0 : DC := ⟨[z64, z64, z64], true, [], -1, false⟩
def K1 : DC := ⟨[z64, z64, z64], true, [(1, k64)], -1, false⟩
def K2 : DC := ⟨[z64, z64, z64], true, [(1, k64), (2, k64)], -1, false⟩
def K3 : DC := ⟨[z64, z64, k64], true, [], -1, false⟩
def K4 : DC := ⟨[z64, z64, k64], true, [], 0, false⟩
def K5 : DC := ⟨[z64, z64, k64], true, [], 0, true⟩
theorem d33 : decide (((3 : Nat) : Int) = 3) = true := (rfl)
theorem d64 : decide (((64 : Nat) : Int) = 64) = true := (rfl)
theorem dd5 : K5.dead = true := (rfl)
theorem ip23 : isPtrT Try.prog 23 = true := by kernel_rfl
theorem K0_eq : nwC 3 64 = K0 := by
  unfold nwC zrow
  rw [show (wit 3 1 4096).toNat = 3 by decide, show (wit 64 64 4096).toNat = 64 by decide]
  rfl
theorem srt12 : srt [1, 2] = [1, 2] := List.mergeSort_of_pairwise (by decide)
theorem K1_eq : wrV K0 1 k64 64 = (0, K1) := (rfl)
theorem K2_eq : wrV K1 2 k64 64 = (0, K2) := (rfl)
theorem K3_eq : craC 2#64 K2 = K3 := by
  have e : K2.dirty.map (·.1) = [1, 2] := rfl
  unfold craC stlC
  rw [e, srt12]
  rfl
theorem K4_eq : cutV K3 0 = K4 := (rfl)
theorem K5_eq : synV K4 = (82, K5) := (rfl)
theorem z64_len : z64.length = 64 := (rfl)
theorem k64_len : k64.length = 64 := (rfl)
theorem at3_1 : atV K3 1 = 0 := (rfl)
theorem at3_2 : atV K3 2 = 0 := (rfl)
theorem r3_1 : K3.rows[(1 : Int).toNat]? = some z64 := (rfl)
theorem r3_2 : K3.rows[(2 : Int).toNat]? = some k64 := (rfl)
theorem g3 (i : Int) : getK i K3.dirty = none := (rfl)
theorem rep64 : rep 64 [.w8 0#8] = c8 z64 := rep_z 64
theorem set64 : (c8 z64).set 0 (.w8 7#8) = c8 k64 := (rfl)
theorem tk64 : k64.take 64 = k64 := (rfl)
theorem hz64 : (c8 z64).head? = some (.w8 0#8) := (rfl)
theorem hk64 : (c8 k64).head? = some (.w8 7#8) := (rfl)

def knG : List AV → Option AV
  | [] => some (.b true)
  | _ => none
theorem knG_eq : knG [] = some (.b true) := (rfl)
attribute [go_sem] knG_eq
set_option maxHeartbeats 2000000 in
theorem known_ok : PureOK Try.prog GLh 6 knG := by
  refine pure_of_awp Try.func6 (bodyOf_some rfl) ?_
  intro args r hg
  unfold knG at hg
  split at hg
  · obtain rfl := Option.some.inj hg
    refine ⟨Nat.le_of_ble_eq_true rfl, fun nx => ?_⟩
    have w3 : (wit 3 1 4096).toNat = 3 := by decide
    have s0 : sizR K0.rows = some 64 := rfl
    have s1 : sizR K1.rows = some 64 := rfl
    have l0 : K0.rows.length = 3 := rfl
    have d2 : DOk K2 = true := rfl
    have d2a : K2.rows.length = 3 := rfl
    have d2b : K2.dirty.length = 2 := rfl
    have d4 : DOk K4 = true := rfl
    have d4a : K4.rows.length = 3 := rfl
    have d4b : K4.dirty.length = 0 := rfl
    refine awp_seqP rfl ?_
    refine awp_regP (Γ := noEnv) [] (noEnv_ok _ _) rfl rfl rfl (fun K hK => ?_)
    simp (disch := omega) only [Try.f6, go_sem]
    refine hK _ ?_
    clear hK K
    refine nx_then ?_
    refine awp_seqP rfl ?_
    refine awp_regP (Γ := envL [(7, .heap newG)]) [1] (envOK_cons ok7 envOK_nil) rfl rfl rfl (fun K hK => ?_)
    simp (disch := omega) only [Try.f6, go_sem, Nat.reduceAdd, Nat.reduceMul, ↓reduceIte, w3, K0_eq]
    refine hK _ ?_
    clear hK K
    refine nx_then ?_
    refine awp_seqP rfl ?_
    refine awp_seqP rfl ?_
    refine awp_regP (Γ := envL [(8, .heap secG), (9, .heap sizG)]) [22, 1] (envOK_cons ok8 (envOK_cons ok9 envOK_nil)) rfl rfl rfl (fun K hK => ?_)
    simp (disch := omega) only [Try.f6, go_sem, Nat.reduceAdd, reduceCtorEq, ↓reduceIte, l0, s0, ip23, d33, eq_self, decide_true, Bool.not_true]
    refine hK _ ?_
    clear hK K
    refine nx_then ?_
    refine awp_ifB (.tmp 22) rfl rfl rfl (fun h => ?_) (fun h => ?_)
    · skip
      refine awp_drop rfl ?_
      cases h
    · skip
      refine awp_drop rfl ?_
      refine awp_skipP rfl ?_
      refine nx_then ?_
      refine awp_seqP rfl ?_
      refine awp_regP (Γ := noEnv) [1, 2] (noEnv_ok _ _) rfl rfl rfl (fun K hK => ?_)
      simp (disch := omega) only [Try.f6, go_sem, Nat.reduceAdd, Nat.reduceLT, Int.reduceLE, Int.reduceToNat, ↓reduceIte, rep64]
      refine hK _ ?_
      clear hK K
      refine nx_then ?_
      refine awp_seqP rfl ?_
      refine awp_regP (Γ := noEnv) [1, 2] (noEnv_ok _ _) rfl rfl rfl (fun K hK => ?_)
      simp (disch := omega) only [Try.f6, go_sem, Nat.reduceAdd, Nat.reduceLeDiff, Int.reduceLE, Int.reduceLT, Int.reduceToNat, BitVec.reduceOfInt, ↓reduceIte, Nat.zero_add, storeL_1, c8_len, z64_len, set64]
      refine hK _ ?_
      clear hK K
      refine nx_then ?_
      refine awp_seqP rfl ?_
      refine awp_regP (Γ := envL [(10, .heap wrG)]) [1, 3, 4] (envOK_cons ok10 envOK_nil) rfl rfl rfl (fun K hK => ?_)
      simp (disch := omega) only [Try.f6, go_sem, Nat.reduceAdd, Nat.reduceLeDiff, Int.reduceLE, Int.reduceLT, ↓reduceIte, List.drop_zero, tk64, s0, s1, K1_eq, K2_eq, k64_len]
      refine hK _ ?_
      clear hK K
      refine nx_then ?_
      refine awp_seqP rfl ?_
      refine awp_regP (Γ := envL [(12, .heap craG)]) [1, 3, 4] (envOK_cons ok12 envOK_nil) rfl rfl rfl (fun K hK => ?_)
      simp (disch := omega) only [Try.f6, go_sem, Nat.reduceAdd, Nat.reduceMul, Nat.reduceLeDiff, Int.reduceLE, Int.reduceLT, BitVec.reduceOfInt, ↓reduceIte, d2, d2a, d2b, K3_eq]
      refine hK _ ?_
      clear hK K
      refine nx_then ?_
      refine awp_seqP rfl ?_
      refine awp_regP (Γ := envL [(13, .heap rdG)]) [1, 3, 4, 5, 6] (envOK_cons ok13 envOK_nil) rfl rfl rfl (fun K hK => ?_)
      simp (disch := omega) only [Try.f6, go_sem, Nat.reduceAdd, Int.reduceToNat, ↓reduceIte, at3_1, g3]
      refine hK _ ?_
      clear hK K
      refine nx_then ?_
      refine awp_seqP rfl ?_
      refine awp_regP (Γ := envL [(13, .heap rdG)]) [1, 3, 4, 5, 6, 7, 8] (envOK_cons ok13 envOK_nil) rfl rfl rfl (fun K hK => ?_)
      simp (disch := omega) only [Try.f6, go_sem, Nat.reduceAdd, Int.reduceToNat, ↓reduceIte, at3_2, g3, z64_len]
      refine hK _ ?_
      clear hK K
      refine nx_then ?_
      refine awp_seqP rfl ?_
      refine awp_regP (Γ := envL [(16, .heap cutG)]) [1, 3, 4, 5, 6, 7, 8] (envOK_cons ok16 envOK_nil) rfl rfl rfl (fun K hK => ?_)
      simp (disch := omega) only [Try.f6, go_sem, Nat.reduceAdd, ↓reduceIte, K4_eq]
      refine hK _ ?_
      clear hK K
      refine nx_then ?_
      refine awp_seqP rfl ?_
      refine awp_regP (Γ := envL [(11, .heap synG)]) [1, 3, 4, 5, 6, 7, 8, 9] (envOK_cons ok11 envOK_nil) rfl rfl rfl (fun K hK => ?_)
      simp (disch := omega) only [Try.f6, go_sem, Nat.reduceAdd, Nat.reduceMul, Nat.reduceLeDiff, ↓reduceIte, d4, d4a, d4b, K5_eq]
      refine hK _ ?_
      clear hK K
      refine nx_then ?_
      refine awp_seqP rfl ?_
      refine awp_regP (Γ := envL [(18, .heap deadG)]) [0] (envOK_cons ok18 envOK_nil) rfl rfl rfl (fun K hK => ?_)
      simp (disch := omega) only [Try.f6, go_sem, Nat.reduceAdd, Int.reduceLE, Int.reduceLT, Int.reduceToNat, Int.reduceAdd, BitVec.reduceOfInt, ↓reduceIte, k64_len, dd5, hz64, hk64, List.drop_zero, Nat.zero_add, d64, eq_self, decide_true]
      refine hK _ ?_
      clear hK K
      refine nx_then ?_
      refine awp_retP rfl ?_
      simp (disch := omega) only [pureQ, resA, resAL, resA1, Try.f6, go_sem, ↓reduceIte]
  · cases hg
theorem ok6 : EntOK Try.prog GLh 6 (.pure true knG) := ⟨⟨_, Try.func6, rfl, rfl⟩, known_ok⟩
end Go.AX
