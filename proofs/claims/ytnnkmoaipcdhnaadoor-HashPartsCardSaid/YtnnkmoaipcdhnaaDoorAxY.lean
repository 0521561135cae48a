/-
  AX, part Y: what comes next; rows of bytes and words.
-/
import Derived.Test.YtnnkmoaipcdhnaaDoorAxX
namespace Go.AX
open Go Go.Proofs

section
variable {P : Program} {GL : Nat → Option (List AV)} {nt : Nat} {b : Code} {Q : Exit → S → Prop} {t : S}
theorem nx_then (h : Awp P GL nt b t Q) : andThenQ P GL nt b Q .normal t := h
theorem nx_blk {id : Nat} (h : Q .normal t) : inBlockQ id Q .normal t := h
theorem nx_ex_then {i : Nat} (h : Q (.exit i) t) : andThenQ P GL nt b Q (.exit i) t := h
theorem nx_ex_loop {ι : Type} {st : ι → S} {inv : ι → Prop} {μ : ι → Nat} {j : ι} {i : Nat} (h : Q (.exit i) t) : loopQ st inv μ j Q (.exit i) t := h
theorem nx_ex_blk {i : Nat} (h : Q .normal t) : inBlockQ i Q (.exit i) t := by simp only [inBlockQ]; exact h
theorem nx_ex_out {i j : Nat} (h : Q (.exit i) t) (hn : (i == j) = false) : inBlockQ j Q (.exit i) t := by simp only [inBlockQ]; rw [if_neg (by simpa using hn)]; exact h
theorem nx_loop {ι : Type} {st : ι → S} {inv : ι → Prop} {μ : ι → Nat} {i : ι} (h : ∃ j, inv j ∧ μ j < μ i ∧ Sub (st j) t) : loopQ st inv μ i Q .normal t := h
theorem nx_ret_then (h : Q .ret t) : andThenQ P GL nt b Q .ret t := h
theorem nx_ret_blk {id : Nat} (h : Q .ret t) : inBlockQ id Q .ret t := h
theorem nx_ret_loop {ι : Type} {st : ι → S} {inv : ι → Prop} {μ : ι → Nat} {j : ι} (h : Q .ret t) : loopQ st inv μ j Q .ret t := h
theorem awp_exitN {s : S} {code : Code} (i : Nat) (hc : isExit code = true) (hi : bId code = i) (h : Q (.exit i) s) : Awp P GL nt code s Q := awp_exitP hc (hi ▸ h)
theorem awp_blockN {s : S} {code : Code} (i : Nat) (hc : isBlock code = true) (hi : bId code = i) (h : Awp P GL nt (cl code) s (inBlockQ i Q)) : Awp P GL nt code s Q := awp_blockP hc (hi ▸ h)
theorem awp_ifN {s : S} {code : Code} (p : Prop) [Decidable p] (o : Operand) (hc : isCond code = true) (ho : cOp code = o) (hb : ev GL s.fr o = .b (decide p)) (ht : p → Awp P GL nt (cl code) s Q) (hf : ¬ p → Awp P GL nt (cr code) s Q) : Awp P GL nt code s Q :=
  awp_if hc (by rw [ho]; exact hb) (fun h => ht (of_decide_eq_true h)) (fun h => hf (of_decide_eq_false h))
theorem awp_ifD {s : S} {code : Code} {p : Prop} [Decidable p] (o : Operand) (hc : isCond code = true) (ho : cOp code = o) (hb : ev GL s.fr o = .b (decide p)) (ht : p → Awp P GL nt (cl code) s Q) (hf : ¬ p → Awp P GL nt (cr code) s Q) : Awp P GL nt code s Q :=
  awp_if hc (by rw [ho]; exact hb) (fun h => ht (of_decide_eq_true h)) (fun h => hf (of_decide_eq_false h))
theorem awp_ifE {s : S} {code : Code} {p : Prop} [Decidable p] (o : Operand) (hc : isCond code = true) (ho : cOp code = o) (hb : ev GL s.fr o = .b (!decide p)) (ht : ¬ p → Awp P GL nt (cl code) s Q) (hf : p → Awp P GL nt (cr code) s Q) : Awp P GL nt code s Q :=
  awp_if hc (by rw [ho]; exact hb) (fun h => ht (of_decide_eq_false (by simpa using h))) (fun h => hf (of_decide_eq_true (by simpa using h)))
theorem awp_ifB {s : S} {code : Code} {x : Bool} (o : Operand) (hc : isCond code = true) (ho : cOp code = o) (hb : ev GL s.fr o = .b x) (ht : x = true → Awp P GL nt (cl code) s Q) (hf : x = false → Awp P GL nt (cr code) s Q) : Awp P GL nt code s Q :=
  awp_if hc (by rw [ho]; exact hb) ht hf
theorem awp_drop {n : Nat} {z : AV} {l : List (Nat × AV)} {hp : H} {nx cx : Nat} {code : Code} (hn : look l n = .junk) (h : Awp P GL nt code { fr := l, hp := hp, nx := nx, cx := cx } Q) : Awp P GL nt code { fr := (n, z) :: l, hp := hp, nx := nx, cx := cx } Q :=
  awp_sub h ⟨fun k => by
    by_cases e : n = k
    · subst e; exact .inl hn
    · right; show look l k = if n = k then z else look l k; rw [if_neg e], fun _ _ h => h, Nat.le_refl _⟩ rfl

/-- What is known of a function that is called. -/
def EntOK (P : Program) (GL : Nat → Option (List AV)) (f : Nat) (s : Spec) : Prop :=
  Callable P f ∧ match s with
    | .pure _ g => PureOK P GL f g
    | .fresh _ g => FreshOK P GL f g
    | .heap g => HeapOK P GL f g
theorem envOK_nil : EnvOK P GL (envL []) := fun f s h => by cases h
theorem envOK_cons {f : Nat} {s : Spec} {l : List (Nat × Spec)} (h : EntOK P GL f s) (hl : EnvOK P GL (envL l)) : EnvOK P GL (envL ((f, s) :: l)) := by
  intro f' s' h'
  rw [envL_cons] at h'
  split at h'
  · rename_i e; subst e
    obtain rfl := Option.some.inj h'
    exact h
  · exact hl f' s' h'
end

theorem sub_same {s t : S} (h1 : s.fr = t.fr) (h2 : s.hp = t.hp) (h3 : t.cx ≤ s.cx) : Sub s t := ⟨fun _ => .inr (by rw [h1]), fun _ _ h => by rw [← h2]; exact h, h3⟩
theorem upd_upd (h : H) (i : Nat) (a b : AO) : upd (upd h i a) i b = upd h i b := by funext k; unfold upd; split <;> rfl
theorem upd_swap (h : H) {i j : Nat} (hn : i ≠ j) (a b : AO) : upd (upd h i a) j b = upd (upd h j b) i a := by
  funext k; unfold upd; split
  · split
    · omega
    · rfl
  · rfl

def c8 (l : List (BitVec 8)) : List AV := l.map .w8
def c32 (l : List (BitVec 32)) : List AV := l.map .w32
theorem c8_len (l : List (BitVec 8)) : (c8 l).length = l.length := List.length_map ..
theorem c32_len (l : List (BitVec 32)) : (c32 l).length = l.length := List.length_map ..
theorem c8_head (l : List (BitVec 8)) (k : Nat) (h : k < l.length) : ((c8 l).drop k).head? = some (.w8 (l.getD k 0#8)) := by
  rw [List.head?_drop]; simp [c8, List.getElem?_map, List.getElem?_eq_getElem h]
theorem c32_head (l : List (BitVec 32)) (k : Nat) (h : k < l.length) : ((c32 l).drop k).head? = some (.w32 (l.getD k 0#32)) := by
  rw [List.head?_drop]; simp [c32, List.getElem?_map, List.getElem?_eq_getElem h]
theorem c8_head0 (l : List (BitVec 8)) (h : 0 < l.length) : (c8 l).head? = some (.w8 (l.getD 0 0#8)) := c8_head l 0 h
theorem c32_head0 (l : List (BitVec 32)) (h : 0 < l.length) : (c32 l).head? = some (.w32 (l.getD 0 0#32)) := c32_head l 0 h
theorem c8_set (l : List (BitVec 8)) (k : Nat) (x : BitVec 8) : (c8 l).set k (.w8 x) = c8 (l.set k x) := by simp [c8, List.map_set]
theorem c32_set (l : List (BitVec 32)) (k : Nat) (x : BitVec 32) : (c32 l).set k (.w32 x) = c32 (l.set k x) := by simp [c32, List.map_set]
theorem c8_drop (l : List (BitVec 8)) (k : Nat) : (c8 l).drop k = c8 (l.drop k) := by simp [c8, List.map_drop]
theorem c8_take (l : List (BitVec 8)) (k : Nat) : (c8 l).take k = c8 (l.take k) := by simp [c8, List.map_take]
theorem c8_app (l m : List (BitVec 8)) : c8 l ++ c8 m = c8 (l ++ m) := by simp [c8]
theorem c32_app (l m : List (BitVec 32)) : c32 l ++ c32 m = c32 (l ++ m) := by simp [c32]
theorem c8_rep (n : Nat) (x : BitVec 8) : List.replicate n (AV.w8 x) = c8 (List.replicate n x) := by simp [c8]
theorem c32_rep (n : Nat) (x : BitVec 32) : List.replicate n (AV.w32 x) = c32 (List.replicate n x) := by simp [c32]
theorem c8_noOs (l : List (BitVec 8)) : noOs (c8 l) = true := by
  simp only [noOs, c8, Bool.not_eq_true', List.any_eq_false, List.mem_map]
  rintro _ ⟨x, _, rfl⟩; simp [isOs]
def splice8 (l : List (BitVec 8)) (k : Nat) (m : List (BitVec 8)) : List (BitVec 8) := l.take k ++ m ++ l.drop (k + m.length)
theorem c8_splice (l : List (BitVec 8)) (k : Nat) (m : List (BitVec 8)) : splice (c8 l) k (c8 m) = c8 (splice8 l k m) := by
  simp [splice, splice8, c8, List.map_take, List.map_drop]
theorem c32_take_all (l : List (BitVec 32)) (k : Nat) (h : l.length ≤ k) : (c32 l).take k = c32 l := List.take_of_length_le (by rw [c32_len]; exact h)
theorem c8_take_all (l : List (BitVec 8)) (k : Nat) (h : l.length ≤ k) : (c8 l).take k = c8 l := List.take_of_length_le (by rw [c8_len]; exact h)
theorem storeL_sp (xs : List AV) (off : Nat) (cs : List AV) (h : cs.length ≠ 1) : storeL xs off cs = splice xs off cs := by
  unfold storeL; split
  · simp at h
  · rfl
theorem splice_all (xs cs : List AV) (h : cs.length = xs.length) : splice xs 0 cs = cs := by
  simp only [splice, List.take_zero, List.nil_append, Nat.zero_add]
  rw [List.drop_eq_nil_of_le (by omega), List.append_nil]
theorem frzL_c8 (hp : H) (l : List (BitVec 8)) : frzL hp (c8 l) = some (c8 l, hp) := if_pos (c8_noOs l)
theorem c8_noOwn (l : List (BitVec 8)) : noOwn (c8 l) = true := by
  simp only [noOwn, c8, List.all_eq_true, List.mem_map]
  rintro _ ⟨x, _, rfl⟩; rfl
theorem imm_c8 (hp : H) (l : List (BitVec 8)) : immF 4 hp (.agg (c8 l)) = some (.agg (c8 l)) := by
  show obind (immL (immF 3 hp) (c8 l)) _ = _
  simp only [immL, c8_noOwn, if_true]; rfl
end Go.AX
