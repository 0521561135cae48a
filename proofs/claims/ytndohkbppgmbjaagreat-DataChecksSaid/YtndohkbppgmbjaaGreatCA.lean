/-
  Data, part V: the canonical form of data. Data, part yC: a SOA's and a RRSIG's bytes. Data, part yD: a RRSIG's bytes.
-/
import Derived.Test.YtndohkbppgmbjaaGreatBI
import Derived.Test.YtndohkbppgmbjaaGreatBE
namespace Go.AX
open Go Go.Proofs
theorem fS (n : Nm) : (eF n).length + 1 = wl n := by
 induction n with
 | nil => rfl
 | cons l r ih => rw [gX, wl_cons]; omega
theorem nmO_wl {b : List B8} {n : Nm} {s : Nat} (h : nmO b = some (n, s)) : wl n = s ∧ wl n ≤ 255 ∧ (∀ l ∈ n, gZ l) := by
 unfold nmO at h
 rcases ho : opN (b.length + 1) b with _ | ⟨m, q⟩
 ·rw [ho] at h; cases h
 ·rw [ho] at h
  simp only at h
  split at h
  ·cases h
  ·simp only [Option.some.injEq, Prod.mk.injEq] at h
   obtain ⟨rfl, rfl⟩ := h
   obtain ⟨a1, a2, _⟩ := opN_ok _ _ _ _ ho
   exact ⟨a2, by omega, a1⟩
theorem tgT_ne {t : BitVec 16} (h : tgT t) : ¬ t = 6#16 ∧ ¬ t = 48#16 ∧ ¬ t = 1#16 ∧ ¬ t = 28#16 ∧ ¬ t = 46#16 ∧ ¬ t = 50#16 := by
 rcases h with rfl | rfl | rfl <;> decide
theorem shp_tg {t : BitVec 16} (h : tgT t) (l : List B8) : shp t l = if ahd t ≤ l.length then nmE l (ahd t) else none := by
 rcases h with rfl | rfl | rfl <;> simp [shp, ahd]
theorem chk_tg {t : BitVec 16} {l : List B8} (h : tgT t) (h0 : chkE t l = 0) : ∃ n s, nmO (l.drop (ahd t)) = some (n, s) ∧ ahd t + s = l.length ∧ tgtT t l = .tup [.sl n.length (cS n), .i 0] := by
 obtain ⟨a1, a2, _⟩ := tgT_ne h
 unfold chkE at h0
 split at h0
 ·cases h0
 rw [shp_tg h] at h0
 split at h0
 rotate_left
 ·cases h0
 rename_i hle
 unfold nmE at h0
 rcases hn : nmO (l.drop (ahd t)) with _ | ⟨n, s⟩
 ·rw [hn] at h0; cases h0
 ·rw [hn] at h0
  have hp : ((ahd t + s : Nat) : Int) = (l.length : Int) := by
   by_cases hp : ((ahd t + s : Nat) : Int) = (l.length : Int)
   ·exact hp
   ·have : rdE l.length (chk1R l (some (ahd t + s))) = 50 := rdE_x _ _ hp
    simp only [Option.map_some] at h0
    rw [this] at h0; cases h0
  refine ⟨n, s, rfl, by omega, ?_⟩
  unfold tgtT
  rw [if_pos h]
  unfold tgtR
  rw [if_pos hle, nameR_s hn, fO _ _ _ hp]
def nmN (t : BitVec 16) (l : List B8) : Nm := match nmO (l.drop (ahd t)) with
 | some (n, _) => n
 | none => []
def canL (t : BitVec 16) (l : List B8) : List B8 := if tgT t then l.take (ahd t) ++ cM (dJ (nmN t l)) else l
def canT (t : BitVec 16) (l : List B8) : AV := if chkE t l = 0 then .tup [.sl (canL t l).length (c8 (canL t l)), .i 0] else .tup [.sl 0 [], .i (chkE t l)]
def canG : List AV → Option AV
 | [.w16 t, .sl n xs] => aK (cI xs) fun l => aN (l.length = n ∧ n ≤ 100000 ∧ ¬ t = 46#16 ∧ ¬ t = 50#16 ∧ ¬ t = 6#16) (some (canT t l))
 | _ => none
theorem canG_eq (t : BitVec 16) (n : Nat) (xs : List AV) : canG [.w16 t, .sl n xs] = aK (cI xs) fun l => aN (l.length = n ∧ n ≤ 100000 ∧ ¬ t = 46#16 ∧ ¬ t = 50#16 ∧ ¬ t = 6#16) (some (canT t l)) := (rfl)
attribute [go_sem] canG_eq
end Go.AX
namespace Go.AX
open Go Go.Proofs
def pn (vs : List W32) : List B8 := vs.flatMap fun x => beL x 4 4
theorem pn_len (vs : List W32) : (pn vs).length = 4 * vs.length := by
 induction vs with
 | nil => rfl
 | cons x r ih => unfold pn at ih ⊢; rw [List.flatMap_cons, List.length_append, cZ, ih, List.length_cons]; omega
theorem pn_take (vs : List W32) (k : Nat) (h : k < vs.length) : pn (vs.take (k + 1)) = pn (vs.take k) ++ beL (vs.getD k 0#32) 4 4 := by
 rw [List.take_succ_eq_append_getElem h, List.getD_eq_getElem?_getD, List.getElem?_eq_getElem h]
 unfold pn
 rw [List.flatMap_append, List.flatMap_cons, List.flatMap_nil, List.append_nil]; rfl
theorem ok53h : bX Tryz.prog GLh 45 (.heap putH) := ⟨⟨_, Tryz.func45, rfl, rfl⟩, put_okH⟩
def soaB (n m : Nm) (vs : List W32) : List B8 := cM n ++ cM m ++ pn vs
theorem dS (n : Nm) : (cM n).length = wl n := by rw [← fS]; simp [cM]
def soaBG : List AV → Option (Nat × Nat × List AV)
 | [.agg [.sl n xs, .sl m ys, .w32 a, .w32 b, .w32 c, .w32 d, .w32 e]] => aK (unS xs) fun p => aK (unS ys) fun q => aN (p.length = n ∧ q.length = m ∧ wl p ≤ 100000 ∧ wl q ≤ 100000) (some ((soaB p q [a, b, c, d, e]).length, 1, c8 (soaB p q [a, b, c, d, e])))
 | _ => none
theorem soaBG_eq (n m : Nat) (xs ys : List AV) (a b c d e : W32) : soaBG [.agg [.sl n xs, .sl m ys, .w32 a, .w32 b, .w32 c, .w32 d, .w32 e]] = aK (unS xs) fun p => aK (unS ys) fun q => aN (p.length = n ∧ q.length = m ∧ wl p ≤ 100000 ∧ wl q ≤ 100000) (some ((soaB p q [a, b, c, d, e]).length, 1, c8 (soaB p q [a, b, c, d, e]))) := (rfl)
attribute [go_sem] soaBG_eq putI_s
theorem flat2 (a b : List B8) : gO [a, b] = a ++ b := by simp [gO]
theorem flat3 (a b c : List B8) : gO [a, b, c] = a ++ b ++ c := by simp [gO]
theorem cP2 (a b : List B8) : [AV.sl a.length (c8 a), AV.sl b.length (c8 b)] = cP [a, b] := rfl
set_option maxHeartbeats 4000000 in
theorem soaB_ok : dH Tryz.prog GLh 20 soaBG := by
 refine cT Tryz.func20 (aT rfl) ?_
 intro args r hg
 unfold soaBG at hg
 split at hg
 ·rename_i n xs m ys v1 v2 v3 v4 v5
  replace hg := aJ hg; obtain ⟨p0, hp, hg⟩ := hg
  replace hg := aJ hg; obtain ⟨q, hq, hg⟩ := hg
  replace hg := aP hg; obtain ⟨⟨rfl, rfl, hwp, hwq⟩, hg⟩ := hg
  obtain rfl := Option.some.inj hg
  have := gT hp; subst this
  have := gT hq; subst this
  clear hg hp hq
  refine ⟨Nat.le_of_ble_eq_true rfl, fun nx => ?_⟩
  have w1 := fS p0
  have w2 := fS q
  have w3 := dS p0
  have w4 := dS q
  obtain ⟨vs, hvs⟩ : ∃ vs, vs = [v1, v2, v3, v4, v5] := ⟨_, rfl⟩
  have hvl : vs.length = 5 := by rw [hvs]; rfl
  have hc32 : [AV.w32 v1, .w32 v2, .w32 v3, .w32 v4, .w32 v5] = c32 vs := by rw [hvs]; rfl
  rw [← hvs]
  refine aA rfl ?_
  refine aC (Γ := aL) [1] (aD _ _) rfl rfl rfl (fun K hK => ?_)
  simp (disch := omega) only [Tryz.f20, go_sem, Nat.reduceAdd, ↓reduceIte]
  refine hK _ ?_
  refine aB ?_
  refine awp_rp 1 nx 0 rfl (by simp only [aV, if_true]; rfl) ?_
  refine aA rfl ?_
  refine bB (Γ := bC [(17, .fresh true wireG), (49, .fresh true concatG)]) (fun k => if k = 5 then 0 else if k = 7 then 0 else 2) [1, 3] bZ (aH ok38 (aH ok52 aO)) rfl rfl rfl (by kernel_rfl) (fun K hK => ?_)
  simp (disch := omega) only [Tryz.f20, go_sem, Nat.reduceAdd, Nat.reduceLeDiff, Nat.reduceLT, ↓reduceIte, flat2]
  refine hK _ ?_
  refine aB ?_
  refine aA rfl ?_
  refine aA rfl ?_
  refine aC (Γ := aL) [3, 24, 25, 26] (aD _ _) rfl rfl rfl (fun K hK => ?_)
  simp (disch := omega) only [Tryz.f20, go_sem, Nat.reduceAdd, Nat.reduceLeDiff, Nat.reduceLT, ↓reduceIte]
  refine hK _ ?_
  refine aB ?_
  refine awp_sl 24 (nx + 2 + 9 + 10) 0 5 1 rfl (by simp (disch := omega) only [aV, ↓reduceIte]; rfl) (Nat.le_of_ble_eq_true rfl) ?_
  refine fF [3, 24, 25, 26] ?_
  simp only [iB, fU, eB, ↓reduceIte, Nat.reduceEqDiff]
  refine awp_hp (hp' := upd (fun _ => none) (nx + 2 + 7) (.cells (c8 (cM p0 ++ cM q)) true)) (fun j o h => ?_) ?_
  ·skip
   exact bS (by simp (disch := omega) only [aV, bY, ↓reduceIte, eq_self]) (cB) j o h
  have hso : soaB p0 q vs = cM p0 ++ cM q ++ pn vs := rfl
  rw [hso, ← List.length_append]
  obtain ⟨B, hB⟩ : ∃ B, cM p0 ++ cM q = B := ⟨_, rfl⟩
  have hBl : B.length = wl p0 + wl q := by rw [← hB, List.length_append, w3, w4]
  rw [hB]
  refine aR 0 rfl rfl ?_
  refine bR (fun p : KIC => { fr := [(3, .os p.id 0 (B.length + 4 * p.k) 1 true), (24, .sl vs.length (c32 vs)), (25, .i vs.length), (26, .i p.k)], hp := upd (fun _ => none) p.id (.cells (c8 (B ++ pn (vs.take p.k))) true), nx := 0, cx := p.c }) (fun p => p.k ≤ vs.length ∧ p.id < p.c) (fun p => vs.length - p.k) rfl ⟨⟨0, nx + 2 + 7, _⟩, ⟨Nat.zero_le _, by simp only; omega⟩, bD (by rw [hvs]; simp only [Nat.mul_zero, Nat.add_zero]; rfl) (by simp only [List.take_zero, pn, List.flatMap_nil, List.append_nil]) (Nat.le_refl _)⟩ ?_
  rintro ⟨k, id, c⟩ ⟨hk, hid⟩ n0
  simp only at hk hid ⊢
  refine aA rfl ?_
  refine aC (Γ := aL) [27, 3, 24, 25, 26] (aD _ _) rfl rfl rfl (fun K hK => ?_)
  simp (disch := omega) only [Tryz.f20, go_sem, ↓reduceIte]
  refine hK _ ?_
  refine aB ?_
  refine aA rfl ?_
  refine aW (.tmp 27) rfl rfl rfl (fun h => ?_) (fun h => ?_)
  ·skip
   refine aI rfl ?_
   have hkl : k < vs.length := by omega
   have e6 := pn_take vs k hkl
   have e7 := pn_len (vs.take k)
   rw [List.length_take, Nat.min_eq_left (by omega)] at e7
   obtain ⟨x, hx⟩ : ∃ x, vs.getD k 0#32 = x := ⟨_, rfl⟩
   rw [hx] at e6
   have e11 : B ++ pn (vs.take (k + 1)) = B ++ pn (vs.take k) ++ beL x 4 4 := by rw [e6, List.append_assoc]
   obtain ⟨b, hb⟩ : ∃ b, pn (vs.take k) = b := ⟨_, rfl⟩
   rw [hb] at e7 e11 ⊢
   refine aQ rfl ?_
   refine aB ?_
   refine aA rfl ?_
   refine aR 1 rfl rfl ?_
   refine aA rfl ?_
   refine aC (Γ := aL) [3, 5, 24, 25, 26] (aD _ _) rfl rfl rfl (fun K hK => ?_)
   simp (disch := omega) only [Tryz.f20, go_sem, Nat.reduceAdd, ↓reduceIte, hx]
   refine hK _ ?_
   refine aB ?_
   refine aC (Γ := bC [(45, .heap putH)]) [3, 24, 25, 26] (aH ok53h aO) rfl rfl rfl (fun K hK => ?_)
   simp (disch := omega) only [Tryz.f20, go_sem, Nat.reduceAdd, Nat.reduceMul, Int.reduceLE, Int.reduceToNat, ↓reduceIte, e7]
   refine hK _ ?_
   refine bU (aB ?_)
   refine aC (Γ := aL) [3, 24, 25, 26] (aD _ _) rfl rfl rfl (fun K hK => ?_)
   simp (disch := omega) only [Tryz.f20, go_sem, Nat.reduceAdd, ↓reduceIte]
   refine hK _ ?_
   refine bT ?_
   refine ⟨⟨k + 1, c + 1 + 3 + 4 + 4 + 45 + 10, _⟩, ⟨by simp only; omega, by simp only; omega⟩, by simp only; omega, ⟨fun _ => .inr ?_, fun j o h => ?_, Nat.le_refl _⟩⟩
   ·simp only [Int.natCast_add, Int.natCast_one, Nat.mul_add, Nat.mul_one, Nat.add_assoc]
   ·simp only at h
    exact bS (by simp (disch := omega) only [aV, ↓reduceIte, eq_self, e11]) (cB) j o h
  ·skip
   refine aI rfl ?_
   refine bF 0 rfl rfl ?_
   refine aY (aZ (bE ?_))
   refine aB ?_
   refine aA rfl ?_
   obtain rfl : k = vs.length := by omega
   have e8 : vs.take vs.length = vs := List.take_length
   have e9 : (B ++ pn vs).length = B.length + 4 * vs.length := by rw [List.length_append, pn_len]
   refine aC (Γ := aL) [2] (aD _ _) rfl rfl rfl (fun K hK => ?_)
   simp (disch := omega) only [Tryz.f20, go_sem, Nat.reduceAdd, ↓reduceIte, e8]
   refine hK _ ?_
   refine aB ?_
   refine aS rfl ?_
   simp (disch := omega) only [fE, eO, bV, bK, bQ, Tryz.f20, go_sem, ↓reduceIte, fQ, e9]
 ·cases hg
theorem ok22 : bX Tryz.prog GLh 20 (.fresh true soaBG) := ⟨⟨_, Tryz.func20, rfl, rfl⟩, soaB_ok⟩
end Go.AX
namespace Go.AX
open Go Go.Proofs
def b2 (t : BitVec 16) : List B8 := [(t >>> 8).setWidth 8, t.setWidth 8]
def sigB (t : BitVec 16) (al lb : B8) (vs : List W32) (tag : BitVec 16) (n : Nm) (s : List B8) : List B8 := b2 t ++ [al, lb] ++ pn vs ++ b2 tag ++ cM n ++ s
def sigBG : List AV → Option (Nat × Nat × List AV)
 | [.agg [.w16 t, .w8 al, .w8 lb, .w32 a, .w32 b, .w32 c, .w16 tag, .sl n xs, .sl m ys]] => aK (unS xs) fun p => aK (cI ys) fun s => aN (p.length = n ∧ s.length = m ∧ wl p ≤ 100000 ∧ m ≤ 100000) (some ((sigB t al lb [a, b, c] tag p s).length, 1, c8 (sigB t al lb [a, b, c] tag p s)))
 | _ => none
theorem sigBG_eq (t tag : BitVec 16) (al lb : B8) (n m : Nat) (xs ys : List AV) (a b c : W32) : sigBG [.agg [.w16 t, .w8 al, .w8 lb, .w32 a, .w32 b, .w32 c, .w16 tag, .sl n xs, .sl m ys]] = aK (unS xs) fun p => aK (cI ys) fun s => aN (p.length = n ∧ s.length = m ∧ wl p ≤ 100000 ∧ m ≤ 100000) (some ((sigB t al lb [a, b, c] tag p s).length, 1, c8 (sigB t al lb [a, b, c] tag p s))) := (rfl)
attribute [go_sem] sigBG_eq
theorem tag2b (t : BitVec 16) : beL (t.setWidth 32) 2 2 = b2 t := tag2 t
theorem gS (t : BitVec 16) : (b2 t).length = 2 := rfl
set_option maxHeartbeats 4000000 in
theorem sigB_ok : dH Tryz.prog GLh 22 sigBG := by
 refine cT Tryz.func22 (aT rfl) ?_
 intro args r hg
 unfold sigBG at hg
 split at hg
 ·rename_i t al lb v1 v2 v3 tag n xs m ys
  replace hg := aJ hg; obtain ⟨p0, hp, hg⟩ := hg
  replace hg := aJ hg; obtain ⟨s, hq, hg⟩ := hg
  replace hg := aP hg; obtain ⟨⟨rfl, rfl, hwp, hsl⟩, hg⟩ := hg
  obtain rfl := Option.some.inj hg
  have := gT hp; subst this
  have := bW hq; subst this
  clear hg hp hq
  refine ⟨Nat.le_of_ble_eq_true rfl, fun nx => ?_⟩
  have w1 := fS p0
  have w3 := dS p0
  obtain ⟨vs, hvs⟩ : ∃ vs, vs = [v1, v2, v3] := ⟨_, rfl⟩
  have hvl : vs.length = 3 := by rw [hvs]; rfl
  rw [← hvs]
  refine aA rfl ?_
  refine aC (Γ := aL) [1] (aD _ _) rfl rfl rfl (fun K hK => ?_)
  simp (disch := omega) only [Tryz.f22, go_sem, Nat.reduceAdd, ↓reduceIte]
  refine hK _ ?_
  refine aB ?_
  refine awp_rp 1 nx 0 rfl (by simp only [aV, if_true]; rfl) ?_
  refine aA rfl ?_
  refine bB (Γ := bC [(45, .fresh false putF)]) (fun k => if k = 1 then 1 else if k = 5 then 1 else if k = 7 then 1 else 2) [1, 3] bZ (aH ok53 aO) rfl rfl rfl (by kernel_rfl) (fun K hK => ?_)
  simp (disch := omega) only [Tryz.f22, go_sem, Nat.reduceAdd, Nat.reduceLeDiff, Nat.reduceLT, Int.reduceLE, Int.reduceToNat, ↓reduceIte, tag2b, gS]
  refine hK _ ?_
  refine aB ?_
  refine aA rfl ?_
  refine aA rfl ?_
  refine aC (Γ := aL) [1, 3, 22, 23, 24] (aD _ _) rfl rfl rfl (fun K hK => ?_)
  simp (disch := omega) only [Tryz.f22, go_sem, Nat.reduceAdd, Nat.reduceLeDiff, Nat.reduceLT, ↓reduceIte]
  refine hK _ ?_
  refine aB ?_
  refine awp_sl 22 (nx + 2 + 11 + 6) 0 3 1 rfl (by simp (disch := omega) only [aV, ↓reduceIte]; rfl) (Nat.le_of_ble_eq_true rfl) ?_
  refine fF [1, 3, 22, 23, 24] ?_
  simp only [iB, fU, eB, ↓reduceIte, Nat.reduceEqDiff]
  obtain ⟨B, hB⟩ : ∃ B, b2 t ++ [al, lb] = B := ⟨_, rfl⟩
  have hBl : B.length = 4 := by rw [← hB]; rfl
  have hso : sigB t al lb vs tag p0 s = B ++ pn vs ++ b2 tag ++ cM p0 ++ s := by rw [← hB]; rfl
  rw [hso, hB]
  refine awp_hp (hp' := upd (fun _ => none) (nx + 2 + 9) (.cells (c8 B) true)) (fun j o h => ?_) ?_
  ·skip
   exact bS (by simp (disch := omega) only [aV, bY, ↓reduceIte, eq_self]) (cB) j o h
  refine aR 0 rfl rfl ?_
  refine bR (fun p : KIC => { fr := [(1, .rp [.w16 t, .w8 al, .w8 lb, .w32 v1, .w32 v2, .w32 v3, .w16 tag, .sl p0.length (cS p0), .sl s.length (c8 s)]), (3, .os p.id 0 (4 + 4 * p.k) 1 true), (22, .sl vs.length (c32 vs)), (23, .i vs.length), (24, .i p.k)], hp := upd (fun _ => none) p.id (.cells (c8 (B ++ pn (vs.take p.k))) true), nx := 0, cx := p.c }) (fun p => p.k ≤ vs.length ∧ p.id < p.c) (fun p => vs.length - p.k) rfl ⟨⟨0, nx + 2 + 9, _⟩, ⟨Nat.zero_le _, by simp only; omega⟩, bD (by rw [hvs]; rfl) (by simp only [List.take_zero, pn, List.flatMap_nil, List.append_nil]) (Nat.le_refl _)⟩ ?_
  rintro ⟨k, id, c⟩ ⟨hk, hid⟩ n0
  simp only at hk hid ⊢
  refine aA rfl ?_
  refine aC (Γ := aL) [25, 1, 3, 22, 23, 24] (aD _ _) rfl rfl rfl (fun K hK => ?_)
  simp (disch := omega) only [Tryz.f22, go_sem, ↓reduceIte]
  refine hK _ ?_
  refine aB ?_
  refine aA rfl ?_
  refine aW (.tmp 25) rfl rfl rfl (fun h => ?_) (fun h => ?_)
  ·skip
   refine aI rfl ?_
   have hkl : k < vs.length := by omega
   have e6 := pn_take vs k hkl
   have e7 := pn_len (vs.take k)
   rw [List.length_take, Nat.min_eq_left (by omega)] at e7
   obtain ⟨x, hx⟩ : ∃ x, vs.getD k 0#32 = x := ⟨_, rfl⟩
   rw [hx] at e6
   have e11 : B ++ pn (vs.take (k + 1)) = B ++ pn (vs.take k) ++ beL x 4 4 := by rw [e6, List.append_assoc]
   obtain ⟨b, hb⟩ : ∃ b, pn (vs.take k) = b := ⟨_, rfl⟩
   rw [hb] at e7 e11 ⊢
   refine aQ rfl ?_
   refine aB ?_
   refine aA rfl ?_
   refine aR 1 rfl rfl ?_
   refine aA rfl ?_
   refine aC (Γ := aL) [1, 3, 5, 22, 23, 24] (aD _ _) rfl rfl rfl (fun K hK => ?_)
   simp (disch := omega) only [Tryz.f22, go_sem, Nat.reduceAdd, ↓reduceIte, hx]
   refine hK _ ?_
   refine aB ?_
   refine aC (Γ := bC [(45, .heap putH)]) [1, 3, 22, 23, 24] (aH ok53h aO) rfl rfl rfl (fun K hK => ?_)
   simp (disch := omega) only [Tryz.f22, go_sem, Nat.reduceAdd, Nat.reduceMul, Int.reduceLE, Int.reduceToNat, ↓reduceIte, e7, hBl]
   refine hK _ ?_
   refine bU (aB ?_)
   refine aC (Γ := aL) [1, 3, 22, 23, 24] (aD _ _) rfl rfl rfl (fun K hK => ?_)
   simp (disch := omega) only [Tryz.f22, go_sem, Nat.reduceAdd, ↓reduceIte]
   refine hK _ ?_
   refine bT ?_
   refine ⟨⟨k + 1, c + 1 + 3 + 4 + 4 + 45 + 10, _⟩, ⟨by simp only; omega, by simp only; omega⟩, by simp only; omega, ⟨fun _ => .inr ?_, fun j o h => ?_, Nat.le_refl _⟩⟩
   ·simp only [Int.natCast_add, Int.natCast_one, Nat.mul_add, Nat.mul_one, Nat.add_assoc]
   ·simp only at h
    exact bS (by simp (disch := omega) only [aV, ↓reduceIte, eq_self, e11]) (cB) j o h
  ·skip
   refine aI rfl ?_
   refine bF 0 rfl rfl ?_
   refine aY (aZ (bE ?_))
   refine aB ?_
   refine aA rfl ?_
   obtain rfl : k = vs.length := by omega
   have e8 : vs.take vs.length = vs := List.take_length
   rw [e8]
   have e9 : (B ++ pn vs).length = 4 + 4 * vs.length := by rw [List.length_append, pn_len, hBl]
   obtain ⟨D, hD⟩ : ∃ D, B ++ pn vs = D := ⟨_, rfl⟩
   rw [hD] at e9 ⊢
   have hfl : (D ++ b2 tag ++ cM p0 ++ s).length = 4 + 4 * vs.length + 2 + (cM p0).length + s.length := by simp only [List.length_append, e9, gS]
   have hdl : (D ++ b2 tag).length = 4 + 4 * vs.length + 2 := by rw [List.length_append, e9, gS]
   have htk : (D ++ b2 tag).take (4 + 4 * vs.length + 2) = D ++ b2 tag := List.take_of_length_le (by omega)
   have hff : (gO [D ++ b2 tag, cM p0, s]).length = 4 + 4 * vs.length + 2 + (cM p0).length + s.length := by rw [flat3, hfl]
   refine awp_dr2 (Γ := bC [(45, .heap putH), (17, .fresh true wireG), (49, .fresh true concatG)]) 4 7 [0, 1, 2, 3, 4, 5, 6, 7, 8, 9, 10, 11, 12] [0, 1, 2, 3, 4, 5, 6, 7, 8, 9, 10, 11, 12] (fun k => if k = 2 then 1 else if k = 6 then 1 else if k = 9 then 1 else if k = 4 then 0 else if k = 11 then 0 else 2) [2] bZ (aH ok53h (aH ok38 (aH ok52 aO))) (by decide) rfl rfl rfl (by kernel_rfl) (fun K hK => ?_) (fun K hK => ?_)
   ·skip
    simp (disch := omega) only [Tryz.f22, go_sem, runM_nil, runM_cons, hS, List.getElem?_cons_zero, List.getElem?_cons_succ, Nat.reduceAdd, Nat.reduceMul, Nat.reduceLeDiff, Nat.reduceLT, Int.reduceLE, Int.reduceToNat, ↓reduceIte, tag2b, e9, htk, hdl, hff, List.length_cons, List.length_nil]
    refine hK _ ?_
    refine aB ?_
    refine aS rfl ?_
    simp (disch := omega) only [fE, eO, bV, bK, bQ, Tryz.f22, go_sem, ↓reduceIte, fQ, hfl, flat3]
   ·skip
    simp (disch := omega) only [Tryz.f22, go_sem, runM_nil, runM_cons, hS, List.getElem?_cons_zero, List.getElem?_cons_succ, Nat.reduceAdd, Nat.reduceMul, Nat.reduceLeDiff, Nat.reduceLT, Int.reduceLE, Int.reduceToNat, ↓reduceIte, tag2b, e9, htk, hdl, hff, List.length_cons, List.length_nil]
    refine hK _ ?_
    refine aB ?_
    refine aS rfl ?_
    simp (disch := omega) only [fE, eO, bV, bK, bQ, Tryz.f22, go_sem, ↓reduceIte, fQ, hfl, flat3]
 ·cases hg
theorem ok26 : bX Tryz.prog GLh 22 (.fresh true sigBG) := ⟨⟨_, Tryz.func22, rfl, rfl⟩, sigB_ok⟩
end Go.AX
