/-
  Sort, part A: rows of numbers of sixteen bits, as the sort's plain text has them. Types, part A: bitmaps of types, sorted and clean lists of types, in plain Lean: what is written is read again, and nothing else is. Types, part B: types as texts, in plain Lean: what is written is read again.
-/
import Derived.Test.YtndohkbppgmbjaaGreatBD
import Derived.Sort.AssemblyPlain
namespace Go.AX
open Go Go.Proofs
abbrev T16 := BitVec 16
def ltN (x y : T16) : Bool := decide (x.toNat < y.toNat)
def cA (d : Array T16) : List AV := d.toList.map .w16
theorem cA_len (d : Array T16) : (cA d).length = d.size := by simp [cA]
theorem cA_head (d : Array T16) (k : Nat) (h : k < d.size) : ((cA d).drop k).head? = some (.w16 d[k]!) := by
 rw [List.head?_drop, cA, List.getElem?_map, Array.getElem?_toList, Array.getElem?_eq_getElem h, getElem!_pos d k h]; rfl
theorem cA_head0 (d : Array T16) (h : 0 < d.size) : (cA d).head? = some (.w16 d[0]!) := by
 have := cA_head d 0 h
 rwa [List.drop_zero] at this
theorem cA_set (d : Array T16) (k : Nat) (x : T16) : (cA d).set k (.w16 x) = cA (d.setIfInBounds k x) := by
 simp [cA, List.map_set]
theorem dZ (d : Array T16) : AV.noMem.noMemL (cA d) = true := by
 unfold cA
 generalize d.toList = l
 induction l with
 | nil => rfl
 | cons x l ih => show (AV.noMem (.w16 x) && AV.noMem.noMemL (l.map .w16)) = true; rw [ih]; rfl
theorem cA_noOwn (d : Array T16) : dB (cA d) = true := by
 simp only [dB, cA, List.all_eq_true, List.mem_map]
 rintro _ ⟨x, _, rfl⟩; rfl
theorem cA_noOs (d : Array T16) : gH (cA d) = true := by
 simp only [gH, cA, Bool.not_eq_true', List.any_eq_false, List.mem_map]
 rintro _ ⟨x, _, rfl⟩
 simp [isOs]
def unA : List AV → Option (List T16)
 | [] => some []
 | .w16 x :: r => aK (unA r) fun l => some (x :: l)
 | _ => none
theorem dO : ∀ {xs : List AV} {l : List T16}, unA xs = some l → xs = cA l.toArray
 | [], l, h => by obtain rfl := Option.some.inj h; rfl
 | x :: r, l, h => by
  cases x <;> simp only [unA] at h <;> first | (cases h; done) | skip
  replace h := aJ h; obtain ⟨m, hm, h⟩ := h
  obtain rfl := Option.some.inj h
  have := dO hm
  rw [this]; simp [cA]
theorem unA_cA (d : Array T16) : unA (cA d) = some d.toList := by
 unfold cA
 generalize d.toList = l
 induction l with
 | nil => rfl
 | cons x l ih => show aK (unA (l.map .w16)) (fun l => some (x :: l)) = _; rw [ih, aX]
theorem swp_cA (d : Array T16) (i j : Nat) : ((cA d).set i (.w16 d[j]!)).set j (.w16 d[i]!) = cA (Sort.swp d i j) := by
 rw [cA_set, cA_set]; rfl
theorem cW (d : Array T16) (i j : Nat) : (Sort.swp d i j).size = d.size := by simp [Sort.swp]
attribute [go_sem] Array.size_setIfInBounds cW cA_len cA_head cA_head0 cA_set dZ cA_noOwn cA_noOs unA_cA
end Go.AX
namespace Go.AX
open Go Go.Proofs
def win (t : T16) : Nat := t.toNat / 256
def pos (t : T16) : Nat := t.toNat % 256
def bit8 (k : Nat) : B8 := 0x80#8 >>> k
theorem bit8_and (x : B8) (k : Nat) (hk : k < 8) : (x &&& bit8 k ≠ 0#8) ↔ x.getLsbD (7 - k) = true := by
 have e : bit8 k = BitVec.twoPow 8 (7 - k) := by
  have : ∀ k : Fin 8, bit8 k.1 = BitVec.twoPow 8 (7 - k.1) := by decide
  exact this ⟨k, hk⟩
 rw [e, BitVec.and_twoPow]
 split
 ·rename_i h
  simp only [h, iff_true]
  have : ∀ k : Fin 8, BitVec.twoPow 8 (7 - k.1) ≠ 0#8 := by decide
  exact this ⟨k, hk⟩
 ·rename_i h
  simp [h]
theorem b8_ext (x y : B8) (h : ∀ k, k < 8 → (x &&& bit8 k ≠ 0#8 ↔ y &&& bit8 k ≠ 0#8)) : x = y := by
 apply BitVec.eq_of_getLsbD_eq
 intro i hi
 have := h (7 - i) (by omega)
 rw [bit8_and x _ (by omega), bit8_and y _ (by omega), show 7 - (7 - i) = i by omega] at this
 rw [Bool.eq_iff_iff]; exact this
theorem bit8_or (x : B8) (j k : Nat) (hj : j < 8) (hk : k < 8) : (x ||| bit8 j) &&& bit8 k ≠ 0#8 ↔ (x &&& bit8 k ≠ 0#8 ∨ j = k) := by
 rw [bit8_and _ k hk, bit8_and _ k hk, BitVec.getLsbD_or, Bool.or_eq_true]
 have : (bit8 j).getLsbD (7 - k) = true ↔ j = k := by
  have e : ∀ j k : Fin 8, (bit8 j.1).getLsbD (7 - k.1) = true ↔ j.1 = k.1 := by decide
  exact e ⟨j, hj⟩ ⟨k, hk⟩
 rw [this]
def stpB (b : List B8) (t : T16) : List B8 := b.set (pos t / 8) (b.getD (pos t / 8) 0#8 ||| bit8 (pos t % 8))
def dR (p : List T16) : List B8 := p.foldl stpB (List.replicate 32 0#8)
theorem stpB_len (b : List B8) (t : T16) : (stpB b t).length = b.length := List.length_set
theorem foldB_len (p : List T16) : ∀ b : List B8, (p.foldl stpB b).length = b.length := by
 induction p with
 | nil => intro b; rfl
 | cons t p ih => intro b; rw [List.foldl_cons, ih, stpB_len]
theorem bitsL_len (p : List T16) : (dR p).length = 32 := by rw [dR, foldB_len, List.length_replicate]
theorem pos_lt (t : T16) : pos t < 256 := Nat.mod_lt _ (by omega)
theorem foldB_bit (p : List T16) (i k : Nat) (hi : i < 32) (hk : k < 8) : ∀ b : List B8, b.length = 32 → ((p.foldl stpB b).getD i 0#8 &&& bit8 k ≠ 0#8 ↔ (b.getD i 0#8 &&& bit8 k ≠ 0#8 ∨ ∃ t ∈ p, pos t = 8 * i + k)) := by
 induction p with
 | nil => intro b _; simp
 | cons t p ih =>
  intro b hb
  have hp := pos_lt t
  rw [List.foldl_cons, ih _ (by rw [stpB_len]; exact hb)]
  have hst : (stpB b t).getD i 0#8 &&& bit8 k ≠ 0#8 ↔ (b.getD i 0#8 &&& bit8 k ≠ 0#8 ∨ pos t = 8 * i + k) := by
   rw [stpB]
   by_cases e : pos t / 8 = i
   ·subst e
    rw [List.getD_eq_getElem?_getD, List.getElem?_set_self (by omega), Option.getD_some, bit8_or _ _ _ (by omega) hk]
    constructor
    ·rintro (h | h)
     ·exact .inl h
     ·exact .inr (by omega)
    ·rintro (h | h)
     ·exact .inl h
     ·exact .inr (by omega)
   ·rw [List.getD_eq_getElem?_getD, List.getElem?_set_ne e, ← List.getD_eq_getElem?_getD]
    constructor
    ·exact .inl
    ·rintro (h | h)
     ·exact h
     ·omega
  rw [hst]
  simp only [List.mem_cons, exists_eq_or_imp, or_assoc]
theorem bitsL_bit (p : List T16) (i k : Nat) (hi : i < 32) (hk : k < 8) : (dR p).getD i 0#8 &&& bit8 k ≠ 0#8 ↔ ∃ t ∈ p, pos t = 8 * i + k := by
 rw [dR, foldB_bit p i k hi hk _ (by simp)]
 have : (List.replicate 32 0#8 : List B8).getD i 0#8 = 0#8 := by
  rw [List.getD_eq_getElem?_getD, List.getElem?_replicate]; split <;> rfl
 rw [this]
 simp
def szL (p : List T16) : Nat := match p.getLast? with | some t => pos t / 8 + 1 | none => 0
theorem szL_le (p : List T16) : szL p ≤ 32 := by
 unfold szL; split
 ·have := pos_lt ‹_›; omega
 ·omega
def decL (w : Nat) (bs : List B8) : List T16 := (List.range (8 * bs.length)).filterMap fun i => if bs.getD (i / 8) 0#8 &&& bit8 (i % 8) ≠ 0#8 then some (BitVec.ofNat 16 (w * 256 + i)) else none
def Inc (p : List T16) : Prop := p.Pairwise fun a b => a.toNat < b.toNat
theorem inc_ext : ∀ {p q : List T16}, Inc p → Inc q → (∀ t, t ∈ p ↔ t ∈ q) → p = q
 | [], [], _, _, _ => rfl
 | [], b :: q, _, _, h => absurd ((h b).2 (by simp)) (by simp)
 | a :: p, [], _, _, h => absurd ((h a).1 (by simp)) (by simp)
 | a :: p, b :: q, hp, hq, h => by
  rw [Inc, List.pairwise_cons] at hp hq
  have hab : a = b := by
   have h1 := (h a).1 (by simp)
   have h2 := (h b).2 (by simp)
   rw [List.mem_cons] at h1 h2
   rcases h1 with h1 | h1
   ·exact h1
   ·rcases h2 with h2 | h2
    ·exact h2.symm
    ·have := hq.1 a h1; have := hp.1 b h2; omega
  subst hab
  congr 1
  refine inc_ext hp.2 hq.2 fun t => ?_
  have ht := h t
  rw [List.mem_cons, List.mem_cons] at ht
  constructor
  ·intro hm
   rcases ht.1 (.inr hm) with e | e
   ·subst e; have := hp.1 t hm; omega
   ·exact e
  ·intro hm
   rcases ht.2 (.inr hm) with e | e
   ·subst e; have := hq.1 t hm; omega
   ·exact e
theorem mem_decL (w : Nat) (bs : List B8) (hw : w < 256) (hb : bs.length ≤ 32) (x : T16) : x ∈ decL w bs ↔ win x = w ∧ pos x < 8 * bs.length ∧ bs.getD (pos x / 8) 0#8 &&& bit8 (pos x % 8) ≠ 0#8 := by
 unfold decL
 simp only [List.mem_filterMap, List.mem_range]
 constructor
 ·rintro ⟨i, hi, he⟩
  split at he
  ·rename_i hbit
   obtain rfl := Option.some.inj he
   have e1 : (BitVec.ofNat 16 (w * 256 + i)).toNat = w * 256 + i := by rw [BitVec.toNat_ofNat]; omega
   have e2 : win (BitVec.ofNat 16 (w * 256 + i)) = w := by unfold win; rw [e1]; omega
   have e3 : pos (BitVec.ofNat 16 (w * 256 + i)) = i := by unfold pos; rw [e1]; omega
   rw [e2, e3]; exact ⟨rfl, hi, hbit⟩
  ·cases he
 ·rintro ⟨h1, h2, h3⟩
  refine ⟨pos x, h2, ?_⟩
  rw [if_pos h3]
  congr 1
  apply BitVec.eq_of_toNat_eq
  rw [BitVec.toNat_ofNat, ← h1]
  unfold win pos
  have := x.isLt
  omega
theorem decL_inc (w : Nat) (bs : List B8) (_ : w < 256) (hb : bs.length ≤ 32) : Inc (decL w bs) := by
 unfold Inc decL
 rw [List.pairwise_filterMap]
 refine List.Pairwise.imp_of_mem ?_ (List.pairwise_lt_range (n := 8 * bs.length))
 intro a b ha hb2 hab x hx y hy
 rw [List.mem_range] at ha hb2
 split at hx
 ·split at hy
  ·obtain rfl := Option.some.inj hx
   obtain rfl := Option.some.inj hy
   rw [BitVec.toNat_ofNat, BitVec.toNat_ofNat]; omega
  ·cases hy
 ·cases hx
def InW (w : Nat) (p : List T16) : Prop := ∀ t ∈ p, win t = w
theorem t_eq (x y : T16) (h1 : win x = win y) (h2 : pos x = pos y) : x = y := by
 apply BitVec.eq_of_toNat_eq
 unfold win at h1; unfold pos at h2
 omega
theorem last_max {p : List T16} (hp : Inc p) {t : T16} (ht : t ∈ p) {m : T16} (hm : p.getLast? = some m) : t = m ∨ t.toNat < m.toNat := by
 induction p with
 | nil => simp at ht
 | cons a p ih =>
  rw [Inc, List.pairwise_cons] at hp
  cases p with
  | nil => simp at hm ht; exact .inl (by rw [ht, hm])
  | cons b q =>
   rw [List.getLast?_cons_cons] at hm
   rcases List.mem_cons.1 ht with e | e
   ·subst e
    right
    exact hp.1 m (List.mem_of_getLast? hm)
   ·exact ih hp.2 e hm
theorem dec_bits (w : Nat) (p : List T16) (hw : w < 256) (hp : Inc p) (hin : InW w p) : decL w ((dR p).take (szL p)) = p := by
 have hle := szL_le p
 have hlen : ((dR p).take (szL p)).length = szL p := by rw [List.length_take, bitsL_len]; omega
 refine inc_ext (decL_inc w _ hw (by omega)) hp fun x => ?_
 rw [mem_decL w _ hw (by omega), hlen]
 have hx := pos_lt x
 have hg : pos x / 8 < szL p → ((dR p).take (szL p)).getD (pos x / 8) 0#8 = (dR p).getD (pos x / 8) 0#8 := fun h => by
  rw [List.getD_eq_getElem?_getD, List.getElem?_take_of_lt h, List.getD_eq_getElem?_getD]
 constructor
 ·rintro ⟨h1, h2, h3⟩
  rw [hg (by omega), bitsL_bit p _ _ (by omega) (by omega)] at h3
  obtain ⟨t, ht, he⟩ := h3
  have : x = t := t_eq x t (by rw [h1, hin t ht]) (by omega)
  rw [this]; exact ht
 ·intro hxp
  have hsz : pos x < 8 * szL p := by
   cases hm : p.getLast? with
   | none => rw [List.getLast?_eq_none_iff] at hm; subst hm; simp at hxp
   | some m =>
    have hmp : m ∈ p := List.mem_of_getLast? hm
    have hs : szL p = pos m / 8 + 1 := by unfold szL; rw [hm]
    have h1 := hin x hxp
    have h2 := hin m hmp
    rcases last_max hp hxp hm with e | e
    ·subst e; omega
    ·unfold win at h1 h2; unfold pos at hs ⊢; omega
  refine ⟨hin x hxp, hsz, ?_⟩
  rw [hg (by omega), bitsL_bit p _ _ (by omega) (by omega)]
  exact ⟨x, hxp, by omega⟩
theorem ne_zero_bit (x : B8) (h : x ≠ 0#8) : ∃ k, k < 8 ∧ x &&& bit8 k ≠ 0#8 := by
 apply Classical.byContradiction
 intro hn
 apply h
 apply b8_ext
 intro k hk
 constructor
 ·intro h2; exact absurd ⟨k, hk, h2⟩ hn
 ·intro h2; simp at h2
theorem bits_dec (w : Nat) (bs : List B8) (hw : w < 256) (h1 : 1 ≤ bs.length) (h32 : bs.length ≤ 32) (hl : bs.getD (bs.length - 1) 0#8 ≠ 0#8) : szL (decL w bs) = bs.length ∧ (dR (decL w bs)).take bs.length = bs ∧ InW w (decL w bs) := by
 have hinc := decL_inc w bs hw h32
 have hin : InW w (decL w bs) := fun t ht => ((mem_decL w bs hw h32 t).1 ht).1
 obtain ⟨k, hk, hb⟩ := ne_zero_bit _ hl
 have hmk : ∀ i j, i < bs.length → j < 8 → ∃ x : T16, win x = w ∧ pos x = 8 * i + j := by
  intro i j hi hj
  have e : (BitVec.ofNat 16 (w * 256 + (8 * i + j))).toNat = w * 256 + (8 * i + j) := by rw [BitVec.toNat_ofNat]; omega
  exact ⟨BitVec.ofNat 16 (w * 256 + (8 * i + j)), by unfold win; rw [e]; omega, by unfold pos; rw [e]; omega⟩
 obtain ⟨y, hy1, hy2⟩ := hmk (bs.length - 1) k (by omega) hk
 have hy : y ∈ decL w bs := by
  rw [mem_decL w bs hw h32]
  refine ⟨hy1, by omega, ?_⟩
  rw [hy2, show (8 * (bs.length - 1) + k) / 8 = bs.length - 1 by omega, show (8 * (bs.length - 1) + k) % 8 = k by omega]
  exact hb
 refine ⟨?_, ?_, hin⟩
 ·cases hm : (decL w bs).getLast? with
  | none => rw [List.getLast?_eq_none_iff] at hm; rw [hm] at hy; simp at hy
  | some m =>
   have hmp : m ∈ decL w bs := List.mem_of_getLast? hm
   have hs : szL (decL w bs) = pos m / 8 + 1 := by unfold szL; rw [hm]
   have h2 := ((mem_decL w bs hw h32 m).1 hmp)
   rw [hs]
   rcases last_max hinc hy hm with e | e
   ·rw [← e]; omega
   ·have := h2.1; unfold win at this hy1; unfold pos at hy2 h2 ⊢; omega
 ·apply List.ext_getElem
  ·rw [List.length_take, bitsL_len]; omega
  ·intro i h2 h3
   have e1 : ((dR (decL w bs)).take bs.length)[i] = (dR (decL w bs)).getD i 0#8 := by
    rw [List.getElem_take, List.getD_eq_getElem?_getD, List.getElem?_eq_getElem (by rw [bitsL_len]; omega)]; rfl
   have e2 : bs[i] = bs.getD i 0#8 := by rw [List.getD_eq_getElem?_getD, List.getElem?_eq_getElem h3]; rfl
   rw [e1, e2]
   apply b8_ext
   intro j hj
   rw [bitsL_bit _ i j (by omega) hj]
   constructor
   ·rintro ⟨t, ht, he⟩
    have := ((mem_decL w bs hw h32 t).1 ht).2.2
    rw [he, show (8 * i + j) / 8 = i by omega, show (8 * i + j) % 8 = j by omega] at this
    exact this
   ·intro hb2
    obtain ⟨x, hx1, hx2⟩ := hmk i j h3 hj
    refine ⟨x, (mem_decL w bs hw h32 x).2 ⟨hx1, by omega, ?_⟩, hx2⟩
    rw [hx2, show (8 * i + j) / 8 = i by omega, show (8 * i + j) % 8 = j by omega]
    exact hb2
def recL (w : Nat) (p : List T16) : List B8 := BitVec.ofNat 8 w :: BitVec.ofNat 8 (szL p) :: (dR p).take (szL p)
def grp (t : T16) (r : List T16) : List T16 := t :: r.takeWhile fun x => decide (win x = win t)
def rst (t : T16) (r : List T16) : List T16 := r.dropWhile fun x => decide (win x = win t)
theorem rst_len (t : T16) (r : List T16) : (rst t r).length ≤ r.length := by
 unfold rst
 exact (List.dropWhile_sublist _).length_le
def bmL : List T16 → List B8
 | [] => []
 | t :: r => recL (win t) (grp t r) ++ bmL (rst t r)
termination_by l => l.length
decreasing_by simp only [List.length_cons]; have := rst_len t r; omega
theorem win_lt (t : T16) : win t < 256 := by unfold win; have := t.isLt; omega
theorem takeWhile_mem {p : T16 → Bool} : ∀ {l : List T16} {x : T16}, x ∈ l.takeWhile p → p x = true
 | [], x, h => by simp at h
 | a :: l, x, h => by
  rw [List.takeWhile_cons] at h
  split at h
  ·rename_i ha
   rcases List.mem_cons.1 h with rfl | h
   ·exact ha
   ·exact takeWhile_mem h
  ·simp at h
theorem grp_in (t : T16) (r : List T16) : InW (win t) (grp t r) := by
 intro x hx
 rcases List.mem_cons.1 hx with rfl | hx
 ·rfl
 ·exact of_decide_eq_true (takeWhile_mem hx)
theorem grp_rst (t : T16) (r : List T16) : t :: r = grp t r ++ rst t r := by
 rw [grp, rst, List.cons_append, List.takeWhile_append_dropWhile]
theorem inc_app {p q : List T16} (h : Inc (p ++ q)) : Inc p ∧ Inc q ∧ ∀ x ∈ p, ∀ y ∈ q, x.toNat < y.toNat := by
 rw [Inc, List.pairwise_append] at h; exact h
theorem sz_pos (t : T16) (r : List T16) : 1 ≤ szL (grp t r) := by
 unfold szL grp
 cases h : (t :: r.takeWhile fun x => decide (win x = win t)).getLast? with
 | none => simp at h
 | some m => simp
def opP : Nat → List B8 → Option (List T16)
 | 0, _ => none
 | _ + 1, [] => some []
 | _ + 1, [_] => none
 | f + 1, w :: n :: r => if n.toNat ≤ r.length then (match opP f (r.drop n.toNat) with | some l => some (decL w.toNat (r.take (min n.toNat 32)) ++ l) | none => none) else none
def opR : Nat → Int → List B8 → Option (List T16)
 | 0, _, _ => none
 | _ + 1, _, [] => some []
 | _ + 1, _, [_] => none
 | f + 1, last, w :: n :: r => if last < (w.toNat : Int) ∧ 1 ≤ n.toNat ∧ n.toNat ≤ 32 ∧ n.toNat ≤ r.length ∧ r.getD (n.toNat - 1) 0#8 ≠ 0#8 then (match opR f w.toNat (r.drop n.toNat) with | some l => some (decL w.toNat (r.take n.toNat) ++ l) | none => none) else none
theorem rec_head (w : Nat) (p : List T16) (x : List B8) : recL w p ++ x = BitVec.ofNat 8 w :: BitVec.ofNat 8 (szL p) :: ((dR p).take (szL p) ++ x) := rfl
theorem bits_sz (p : List T16) : ((dR p).take (szL p)).length = szL p := by have := szL_le p; rw [List.length_take, bitsL_len]; omega
theorem opP_bm : ∀ (f : Nat) (c : List T16), Inc c → (bmL c).length < f → opP f (bmL c) = some c
 | 0, _, _, h => by omega
 | f + 1, [], _, _ => by rw [bmL]; rfl
 | f + 1, t :: r, hi, hf => by
  rw [bmL, rec_head] at hf ⊢
  have hsz := sz_pos t r
  have hle := szL_le (grp t r)
  have hb := bits_sz (grp t r)
  have hn : (BitVec.ofNat 8 (szL (grp t r))).toNat = szL (grp t r) := by rw [BitVec.toNat_ofNat]; omega
  have hw : (BitVec.ofNat 8 (win t)).toNat = win t := by have := win_lt t; rw [BitVec.toNat_ofNat]; omega
  rw [grp_rst t r] at hi
  obtain ⟨h1, h2, h3⟩ := inc_app hi
  simp only [opP, hn, hw]
  rw [if_pos (by rw [List.length_append, hb]; omega), Nat.min_eq_left hle]
  rw [List.drop_append, List.drop_of_length_le (by omega), hb, Nat.sub_self, List.drop_zero, List.nil_append, List.take_append_of_le_length (by omega), List.take_of_length_le (by omega)]
  rw [opP_bm f (rst t r) h2 (by simp only [List.length_cons, List.length_append] at hf; omega)]
  simp only
  rw [dec_bits (win t) (grp t r) (win_lt t) h1 (grp_in t r), ← grp_rst]
theorem last_bit (p : List T16) (hp : p ≠ []) : (dR p).getD (szL p - 1) 0#8 ≠ 0#8 := by
 cases hm : p.getLast? with
 | none => rw [List.getLast?_eq_none_iff] at hm; exact absurd hm hp
 | some m =>
  have hs : szL p = pos m / 8 + 1 := by unfold szL; rw [hm]
  have hpm := pos_lt m
  intro h0
  have := (bitsL_bit p (pos m / 8) (pos m % 8) (by omega) (by omega)).2 ⟨m, List.mem_of_getLast? hm, by omega⟩
  rw [hs, show pos m / 8 + 1 - 1 = pos m / 8 by omega] at h0
  rw [h0] at this
  simp at this
theorem opR_bm : ∀ (f : Nat) (c : List T16) (last : Int), Inc c → (∀ t ∈ c, last < (win t : Int)) → (bmL c).length < f → opR f last (bmL c) = some c
 | 0, _, _, _, _, h => by omega
 | f + 1, [], _, _, _, _ => by rw [bmL]; rfl
 | f + 1, t :: r, last, hi, hl, hf => by
  rw [bmL, rec_head] at hf ⊢
  have hsz := sz_pos t r
  have hle := szL_le (grp t r)
  have hb := bits_sz (grp t r)
  have hn : (BitVec.ofNat 8 (szL (grp t r))).toNat = szL (grp t r) := by rw [BitVec.toNat_ofNat]; omega
  have hw : (BitVec.ofNat 8 (win t)).toNat = win t := by have := win_lt t; rw [BitVec.toNat_ofNat]; omega
  have hi0 := hi
  rw [grp_rst t r] at hi
  obtain ⟨h1, h2, h3⟩ := inc_app hi
  simp only [opR, hn, hw]
  have hlb := last_bit (grp t r) (by simp [grp])
  have hgd : ((dR (grp t r)).take (szL (grp t r)) ++ bmL (rst t r)).getD (szL (grp t r) - 1) 0#8 = (dR (grp t r)).getD (szL (grp t r) - 1) 0#8 := by
   rw [List.getD_eq_getElem?_getD, List.getElem?_append_left (by omega), List.getElem?_take_of_lt (by omega), List.getD_eq_getElem?_getD]
  rw [if_pos ⟨hl t (by simp), hsz, hle, by rw [List.length_append, hb]; omega, by rw [hgd]; exact hlb⟩]
  rw [List.drop_append, List.drop_of_length_le (by omega), hb, Nat.sub_self, List.drop_zero, List.nil_append, List.take_append_of_le_length (by omega), List.take_of_length_le (by omega)]
  have hnext : ∀ x ∈ rst t r, ((win t : Nat) : Int) < (win x : Int) := by
   intro x hx
   have hlt : t.toNat < x.toNat := h3 t (by simp [grp]) x hx
   have hle2 : win t ≤ win x := by unfold win; omega
   have hne : win x ≠ win t := by
    -- the first of the rest has another window, and all behind it are greater
    intro e
    cases hr : rst t r with
    | nil => rw [hr] at hx; simp at hx
    | cons y ys =>
     have hy : win y ≠ win t := by
      have := List.head_dropWhile_not (fun x => decide (win x = win t)) (show List.dropWhile (fun x => decide (win x = win t)) r ≠ [] by show rst t r ≠ []; rw [hr]; simp)
      have e2 : (List.dropWhile (fun x => decide (win x = win t)) r).head (by show rst t r ≠ []; rw [hr]; simp) = y := by
       have : rst t r = y :: ys := hr
       unfold rst at this
       simp [this]
      rw [e2] at this
      simpa using this
     have hty : t.toNat < y.toNat := h3 t (by simp [grp]) y (by rw [hr]; simp)
     have hyx : y.toNat ≤ x.toNat := by
      rw [hr] at hx h2
      rcases List.mem_cons.1 hx with rfl | hx2
      ·omega
      ·rw [Inc, List.pairwise_cons] at h2
       have := h2.1 x hx2; omega
     unfold win at e hy hle2; omega
   omega
  rw [opR_bm f (rst t r) (win t) h2 hnext (by simp only [List.length_cons, List.length_append] at hf; omega)]
  simp only
  rw [dec_bits (win t) (grp t r) (win_lt t) h1 (grp_in t r), ← grp_rst]
theorem opR_inv : ∀ (f : Nat) (last : Int) (b : List B8) (l : List T16), opR f last b = some l → Inc l ∧ (∀ t ∈ l, last < (win t : Int)) ∧ bmL l = b ∧ opP f b = some l
 | 0, _, _, _, h => by simp [opR] at h
 | f + 1, last, [], l, h => by
  simp only [opR, Option.some.injEq] at h; subst h
  exact ⟨.nil, by simp, by rw [bmL], rfl⟩
 | f + 1, last, [_], l, h => by simp [opR] at h
 | f + 1, last, w :: n :: r, l, h => by
  simp only [opR] at h
  split at h
  ·rename_i hc
   obtain ⟨c1, c2, c3, c4, c5⟩ := hc
   split at h
   ·rename_i l2 hl2
    obtain rfl := Option.some.inj h
    obtain ⟨i1, i2, i3, i4⟩ := opR_inv f _ _ _ hl2
    have hw := w.isLt
    have hlen : (r.take n.toNat).length = n.toNat := by rw [List.length_take]; omega
    have hgd : (r.take n.toNat).getD ((r.take n.toNat).length - 1) 0#8 ≠ 0#8 := by
     rw [hlen, List.getD_eq_getElem?_getD, List.getElem?_take_of_lt (by omega), ← List.getD_eq_getElem?_getD]; exact c5
    obtain ⟨d1, d2, d3⟩ := bits_dec w.toNat (r.take n.toNat) (by omega) (by omega) (by omega) hgd
    have dinc := decL_inc w.toNat (r.take n.toNat) (by omega) (by omega)
    have hcross : ∀ x ∈ decL w.toNat (r.take n.toNat), ∀ y ∈ l2, x.toNat < y.toNat := by
     intro x hx y hy
     have h1 := d3 x hx
     have h2 := i2 y hy
     unfold win at h1 h2; omega
    refine ⟨List.pairwise_append.2 ⟨dinc, i1, hcross⟩, ?_, ?_, ?_⟩
    ·intro t ht
     rcases List.mem_append.1 ht with h1 | h1
     ·rw [d3 t h1]; exact c1
     ·have := i2 t h1; omega
    ·cases hd : decL w.toNat (r.take n.toNat) with
     | nil => rw [hd] at d1; simp [szL] at d1; omega
     | cons t q =>
      have hwt : win t = w.toNat := d3 t (by rw [hd]; simp)
      have hg : grp t (q ++ l2) = t :: q ∧ rst t (q ++ l2) = l2 := by
       have hq : ∀ x ∈ q, decide (win x = win t) = true := fun x hx => decide_eq_true (by rw [d3 x (by rw [hd]; simp [hx]), hwt])
       have hl : ∀ x ∈ l2, decide (win x = win t) = false := fun x hx => decide_eq_false (by have := i2 x hx; omega)
       constructor
       ·unfold grp; rw [List.takeWhile_append_of_pos (by simpa using hq)]
        cases l2 with
        | nil => simp
        | cons y ys => rw [List.takeWhile_cons, if_neg (by rw [hl y (by simp)]; simp)]; simp
       ·unfold rst; rw [List.dropWhile_append_of_pos (by simpa using hq)]
        cases l2 with
        | nil => rfl
        | cons y ys => rw [List.dropWhile_cons, if_neg (by rw [hl y (by simp)]; simp)]
      rw [List.cons_append, bmL, hg.1, hg.2, i3]
      rw [hd] at d1 d2
      rw [recL, d1, hlen]
      rw [hlen] at d2
      rw [d2, hwt]
      have e1 : BitVec.ofNat 8 w.toNat = w := by rw [BitVec.ofNat_toNat, BitVec.setWidth_eq]
      have e2 : BitVec.ofNat 8 n.toNat = n := by rw [BitVec.ofNat_toNat, BitVec.setWidth_eq]
      rw [e1, e2, List.cons_append, List.cons_append, List.take_append_drop]
    ·simp only [opP]
     rw [if_pos c4, i4, Nat.min_eq_left c3]
   ·cases h
  ·cases h
theorem ltN_swo : Sort.SWO ltN where
 irrefl x := by simp [ltN]
 trans x y z h1 h2 := by simp only [ltN, decide_eq_true_eq] at *; omega
 ntrans x y z h1 h2 := by simp only [ltN, decide_eq_false_iff_not] at *; omega
def sortL (l : List T16) : List T16 := (Sort.sort ltN l.toArray).toList
theorem sortL_perm (l : List T16) : (sortL l).Perm l := by
 have h := (Sort.sort_sorts ltN ltN_swo l.toArray).1
 obtain ⟨h1, _, h3⟩ := h
 unfold sortL
 have e1 : (Sort.sort ltN l.toArray).extract 0 l.toArray.size = Sort.sort ltN l.toArray := by rw [← h1]; exact Array.extract_size
 rw [e1, Array.extract_size] at h3
 exact h3
theorem sortL_len (l : List T16) : (sortL l).length = l.length := (sortL_perm l).length_eq
theorem sortL_sorted (l : List T16) : (sortL l).Pairwise fun a b => a.toNat ≤ b.toNat := by
 have h := (Sort.sort_sorts ltN ltN_swo l.toArray)
 obtain ⟨⟨h1, _, _⟩, h2⟩ := h
 rw [List.pairwise_iff_getElem]
 intro i j hi hj hij
 have hs : (sortL l).length = l.toArray.size := by rw [sortL_len]; simp
 have := h2 i j (Nat.zero_le _) hij (by omega)
 have e : ∀ k (hk : k < (sortL l).length), (Sort.sort ltN l.toArray)[k]! = (sortL l)[k] := by
  intro k hk
  rw [getElem!_pos _ k (by rw [h1]; omega)]; rfl
 rw [e j hj, e i hi] at this
 simp only [ltN, decide_eq_false_iff_not] at this
 omega
def dL : List T16 → List T16
 | [] => []
 | [x] => [x]
 | x :: y :: r => if x = y then dL (y :: r) else x :: dL (y :: r)
theorem compL_mem : ∀ (l : List T16) (t : T16), t ∈ dL l ↔ t ∈ l
 | [], t => by simp [dL]
 | [x], t => by simp [dL]
 | x :: y :: r, t => by
  rw [dL]
  split
  ·rename_i e; subst e
   rw [compL_mem (x :: r) t]; simp
  ·rw [List.mem_cons, compL_mem (y :: r) t, List.mem_cons (a := t) (b := x)]
theorem compL_inc : ∀ (l : List T16), l.Pairwise (fun a b => a.toNat ≤ b.toNat) → Inc (dL l)
 | [], _ => .nil
 | [x], _ => by simp [dL, Inc]
 | x :: y :: r, h => by
  rw [List.pairwise_cons] at h
  have ih := compL_inc (y :: r) h.2
  rw [dL]
  split
  ·exact ih
  ·rename_i hne
   rw [Inc, List.pairwise_cons]
   refine ⟨fun t ht => ?_, ih⟩
   have ht2 := (compL_mem (y :: r) t).1 ht
   have h1 := h.1 t ht2
   have h2 := h.1 y (by simp)
   have h3 : x.toNat ≠ y.toNat := fun e => hne (BitVec.eq_of_toNat_eq e)
   rcases List.mem_cons.1 ht2 with rfl | h4
   ·omega
   ·have h5 := h.2
    rw [List.pairwise_cons] at h5
    have := h5.1 t h4; omega
def eA (l : List T16) : List T16 := dL (sortL l)
theorem cleanL_mem (l : List T16) (t : T16) : t ∈ eA l ↔ t ∈ l := by
 rw [eA, compL_mem]; exact (sortL_perm l).mem_iff
theorem cleanL_inc (l : List T16) : Inc (eA l) := compL_inc _ (sortL_sorted l)
theorem cleanL_id {l : List T16} (h : Inc l) : eA l = l := inc_ext (cleanL_inc l) h (cleanL_mem l)
def insL (out : List T16) (x : T16) : List T16 :=
 out.takeWhile (fun y => decide (y.toNat < x.toNat)) ++ (if (out.dropWhile fun y => decide (y.toNat < x.toNat)).head? = some x then [] else [x]) ++ out.dropWhile fun y => decide (y.toNat < x.toNat)
theorem insL_spec (out : List T16) (x : T16) (h : Inc out) : Inc (insL out x) ∧ ∀ t, t ∈ insL out x ↔ t = x ∨ t ∈ out := by
 have hsplit : out = out.takeWhile (fun y => decide (y.toNat < x.toNat)) ++ out.dropWhile fun y => decide (y.toNat < x.toNat) := List.takeWhile_append_dropWhile.symm
 have hA : ∀ y ∈ out.takeWhile (fun y => decide (y.toNat < x.toNat)), y.toNat < x.toNat := fun y hy => of_decide_eq_true (takeWhile_mem (p := fun y => decide (y.toNat < x.toNat)) hy)
 have hB : ∀ y ∈ out.dropWhile (fun y => decide (y.toNat < x.toNat)), x.toNat ≤ y.toNat := by
  intro y hy
  rw [hsplit] at h
  have h2 := (inc_app h).2.1
  cases hd : out.dropWhile (fun y => decide (y.toNat < x.toNat)) with
  | nil => rw [hd] at hy; simp at hy
  | cons z zs =>
   have := List.head_dropWhile_not (fun y => decide (y.toNat < x.toNat)) (l := out) (by rw [hd]; simp)
   have hz : x.toNat ≤ z.toNat := by simpa [hd] using this
   rw [hd] at hy h2
   rcases List.mem_cons.1 hy with rfl | h3
   ·exact hz
   ·rw [Inc, List.pairwise_cons] at h2
    have := h2.1 y h3; omega
 unfold insL
 generalize hAe : out.takeWhile (fun y => decide (y.toNat < x.toNat)) = A at *
 generalize hBe : out.dropWhile (fun y => decide (y.toNat < x.toNat)) = B at *
 rw [hsplit] at h
 obtain ⟨h1, h2, h3⟩ := inc_app h
 constructor
 ·split
  ·rw [List.append_nil]; exact h
  ·rename_i hne
   rw [List.append_assoc]
   refine List.pairwise_append.2 ⟨h1, ?_, ?_⟩
   ·rw [List.singleton_append, List.pairwise_cons]
    refine ⟨fun y hy => ?_, h2⟩
    have hle := hB y hy
    have : y.toNat ≠ x.toNat := by
     intro e
     have e2 : y = x := BitVec.eq_of_toNat_eq e
     subst e2
     cases B with
     | nil => simp at hy
     | cons z zs =>
      rcases List.mem_cons.1 hy with rfl | h4
      ·exact hne rfl
      ·rw [Inc, List.pairwise_cons] at h2
       have h5 := h2.1 y h4
       have h6 := hB z (by simp)
       omega
    omega
   ·intro a ha b hb
    rcases List.mem_append.1 hb with h4 | h4
    ·rw [List.mem_singleton] at h4; subst h4; exact hA a ha
    ·exact h3 a ha b h4
 ·intro t
  rw [hsplit]
  split
  ·rename_i he
   simp only [List.append_nil, List.mem_append]
   constructor
   ·exact .inr
   ·rintro (rfl | h4)
    ·right
     cases B with
     | nil => simp at he
     | cons z zs => simp only [List.head?_cons, Option.some.injEq] at he; subst he; simp
    ·exact h4
  ·simp only [List.mem_append, List.mem_singleton]
   constructor
   ·rintro ((h4 | h4) | h4)
    ·exact .inr (.inl h4)
    ·exact .inl h4
    ·exact .inr (.inr h4)
   ·rintro (h4 | h4 | h4)
    ·exact .inl (.inr h4)
    ·exact .inl (.inl h4)
    ·exact .inr h4
def refCl (l : List T16) : List T16 := l.foldl insL []
theorem foldIns (l : List T16) : ∀ out : List T16, Inc out → Inc (l.foldl insL out) ∧ ∀ t, t ∈ l.foldl insL out ↔ t ∈ l ∨ t ∈ out := by
 induction l with
 | nil => intro out h; exact ⟨h, fun t => by simp⟩
 | cons x l ih =>
  intro out h
  obtain ⟨h1, h2⟩ := insL_spec out x h
  obtain ⟨h3, h4⟩ := ih _ h1
  refine ⟨h3, fun t => ?_⟩
  rw [List.foldl_cons, h4, h2, List.mem_cons]
  constructor
  ·rintro (h | h | h)
   ·exact .inl (.inr h)
   ·exact .inl (.inl h)
   ·exact .inr h
  ·rintro ((h | h) | h)
   ·exact .inr (.inl h)
   ·exact .inl h
   ·exact .inr (.inr h)
theorem refCl_eq (l : List T16) : refCl l = eA l := by
 obtain ⟨h1, h2⟩ := foldIns l [] .nil
 exact inc_ext h1 (cleanL_inc l) fun t => by rw [refCl, h2, cleanL_mem]; simp
end Go.AX
namespace Go.AX
open Go Go.Proofs
def gQ (n : Nat) : List B8 := if n < 10 then [BitVec.ofNat 8 (48 + n)] else gQ (n / 10) ++ [BitVec.ofNat 8 (48 + n % 10)]
termination_by n
decreasing_by omega
def valD (n : Nat) (l : List B8) : Nat := l.foldl (fun n c => 10 * n + (c.toNat - 48)) n
def isD (c : B8) : Prop := 48 ≤ c.toNat ∧ c.toNat ≤ 57
instance (c : B8) : Decidable (isD c) := by unfold isD; infer_instance
theorem dig_nat (k : Nat) (h : k < 10) : (BitVec.ofNat 8 (48 + k)).toNat = 48 + k := by rw [BitVec.toNat_ofNat]; omega
theorem decD_val (n : Nat) : valD 0 (gQ n) = n := by
 induction n using gQ.induct with
 | case1 n h =>
  rw [gQ, if_pos h]
  simp only [valD, List.foldl_cons, List.foldl_nil, dig_nat n h]; omega
 | case2 n h ih =>
  rw [gQ, if_neg h]
  simp only [valD, List.foldl_append, List.foldl_cons, List.foldl_nil] at ih ⊢
  rw [ih, dig_nat _ (by omega)]; omega
theorem decD_dig (n : Nat) : ∀ c ∈ gQ n, isD c := by
 induction n using gQ.induct with
 | case1 n h =>
  rw [gQ, if_pos h]
  intro c hc
  rw [List.mem_singleton] at hc; subst hc
  unfold isD; rw [dig_nat n h]; omega
 | case2 n h ih =>
  rw [gQ, if_neg h]
  intro c hc
  rcases List.mem_append.1 hc with h1 | h1
  ·exact ih c h1
  ·rw [List.mem_singleton] at h1; subst h1
   unfold isD; rw [dig_nat _ (by omega)]; omega
theorem decD_len (n : Nat) (k : Nat) (h : n < 10 ^ k) (hk : 1 ≤ k) : 1 ≤ (gQ n).length ∧ (gQ n).length ≤ k := by
 induction n using gQ.induct generalizing k with
 | case1 n h1 => rw [gQ, if_pos h1]; simp; omega
 | case2 n h1 ih =>
  rw [gQ, if_neg h1, List.length_append, List.length_singleton]
  have hk2 : 2 ≤ k := by
   apply Classical.byContradiction; intro hc
   have : k = 1 := by omega
   subst this; simp at h; omega
  have := ih (k - 1) (by
   rw [Nat.div_lt_iff_lt_mul (by omega)]
   rw [← Nat.pow_succ, show (k - 1).succ = k by omega]; exact h) (by omega)
  omega
theorem decD_head (n : Nat) (h : 10 ≤ n) : ∀ c, (gQ n).head? = some c → c ≠ 48#8 := by
 induction n using gQ.induct with
 | case1 n h1 => omega
 | case2 n h1 ih =>
  intro c hc
  rw [gQ, if_neg h1] at hc
  have hne : 1 ≤ (gQ (n / 10)).length := by
   have := decD_len (n / 10) (n / 10 + 1) (Nat.lt_of_lt_of_le (Nat.lt_pow_self (by omega : 1 < 10)) (Nat.pow_le_pow_right (by omega) (by omega))) (by omega)
   exact this.1
  have hh : (gQ (n / 10) ++ [BitVec.ofNat 8 (48 + n % 10)]).head? = (gQ (n / 10)).head? := by
   cases hq : gQ (n / 10) with
   | nil => rw [hq] at hne; simp at hne
   | cons a l => rfl
  rw [hh] at hc
  by_cases h2 : 10 ≤ n / 10
  ·exact ih h2 c hc
  ·rw [gQ, if_pos (by omega)] at hc
   simp only [List.head?_cons, Option.some.injEq] at hc
   subst hc
   intro e
   have := congrArg BitVec.toNat e
   rw [dig_nat _ (by omega)] at this
   have e2 : (48#8 : B8).toNat = 48 := rfl
   omega
def tabL : List (T16 × List B8) := [(1#16, [65#8]), (2#16, [78#8, 83#8]), (5#16, [67#8, 78#8, 65#8, 77#8, 69#8]), (6#16, [83#8, 79#8, 65#8]), (15#16, [77#8, 88#8]), (16#16, [84#8, 88#8, 84#8]), (28#16, [65#8, 65#8, 65#8, 65#8]), (41#16, [79#8, 80#8, 84#8]), (43#16, [68#8, 83#8]), (46#16, [82#8, 82#8, 83#8, 73#8, 71#8]), (48#16, [68#8, 78#8, 83#8, 75#8, 69#8, 89#8]), (50#16, [78#8, 83#8, 69#8, 67#8, 51#8]), (51#16, [78#8, 83#8, 69#8, 67#8, 51#8, 80#8, 65#8, 82#8, 65#8, 77#8]), (255#16, [65#8, 78#8, 89#8])]
def typeW : List B8 := [84#8, 89#8, 80#8, 69#8]
def textL (t : T16) : List B8 := match tabL.find? fun p => decide (p.1 = t) with | some p => p.2 | none => typeW ++ gQ t.toNat
def numL (d : List B8) : Option T16 := if d.length = 0 ∨ 5 < d.length ∨ (1 < d.length ∧ d.getD 0 0#8 = 48#8) then none else if (∀ c ∈ d, isD c) ∧ valD 0 d ≤ 65535 then some (BitVec.ofNat 16 (valD 0 d)) else none
def parseL (s : List B8) : Option T16 := match tabL.find? fun p => decide (p.2 = s) with | some p => some p.1 | none => if s.take 4 = typeW then numL (s.drop 4) else none
theorem find_tab (t : T16) (p : T16 × List B8) (h : tabL.find? (fun p => decide (p.1 = t)) = some p) : parseL p.2 = some t := by
 have h1 := List.mem_of_find?_eq_some h
 have h2 := List.find?_some h
 simp only [decide_eq_true_eq] at h2
 subst h2
 have : ∀ q ∈ tabL, parseL q.2 = some q.1 := by decide
 exact this p h1
theorem back (t : T16) : parseL (textL t) = some t := by
 unfold textL
 cases h : tabL.find? fun p => decide (p.1 = t) with
 | some p => exact find_tab t p h
 | none =>
  simp only
  have ht := t.isLt
  have hl := decD_len t.toNat 5 (by omega) (by omega)
  have hd := decD_dig t.toNat
  have hv := decD_val t.toNat
  have hno : tabL.find? (fun p => decide (p.2 = typeW ++ gQ t.toNat)) = none := by
   rw [List.find?_eq_none]
   intro q hq
   have hq4 : ∀ q ∈ tabL, q.2.take 4 ≠ typeW := by decide
   intro e
   simp only [decide_eq_true_eq] at e
   have := hq4 q hq
   rw [e] at this
   exact this rfl
  unfold parseL
  rw [hno]
  simp only
  have e4 : (typeW ++ gQ t.toNat).take 4 = typeW := rfl
  have e5 : (typeW ++ gQ t.toNat).drop 4 = gQ t.toNat := rfl
  rw [if_pos e4, e5]
  unfold numL
  rw [if_neg (by
   rintro (h1 | h1 | ⟨h1, h2⟩)
   ·omega
   ·omega
   ·have h10 : 10 ≤ t.toNat := by
     apply Classical.byContradiction; intro hc
     rw [gQ, if_pos (by omega)] at h1; simp at h1
    cases hdd : gQ t.toNat with
    | nil => rw [hdd] at hl; simp at hl
    | cons c r =>
     have := decD_head t.toNat h10 c (by rw [hdd]; rfl)
     rw [hdd] at h2
     exact this h2), if_pos ⟨hd, by omega⟩, hv]
  congr 1
  rw [BitVec.ofNat_toNat, BitVec.setWidth_eq]
end Go.AX
