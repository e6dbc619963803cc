/- Rows that a call makes for itself, and appends to. -/
import Derived.Test.YtbphpeoddifkfaaRows0
import Derived.Deep.AppendLies
open Go.RowKit
namespace Go.Proofs.Ytbphpeoddifkfaa

theorem flat_at {size : Nat} (xs : List (List Value)) : ∀ (i : Nat) (x : List Value), (∀ y ∈ xs, y.length = size) → xs[i]? = some x → ∀ (j : Nat) (v : Value), x[j]? = some v → xs.flatten[i * size + j]? = some v := by
  induction xs with
  | nil => intro i x _ h; simp at h
  | cons y ys ih =>
    intro i x hl hx j v hv
    have hy : y.length = size := hl y (by simp)
    have hys : ∀ z ∈ ys, z.length = size := fun z hz => hl z (by simp [hz])
    cases i with
    | zero =>
      simp at hx; subst hx
      have hj : j < y.length := (List.getElem?_eq_some_iff.1 hv).1
      rw [List.flatten_cons, Nat.zero_mul, Nat.zero_add, List.getElem?_append_left hj]; exact hv
    | succ i =>
      have := ih i x hys (by simpa using hx) j v hv
      rw [List.flatten_cons, Nat.succ_mul, List.getElem?_append_right (by omega), ← this]
      congr 1; omega
theorem flat_length {size : Nat} (xs : List (List Value)) (h : ∀ y ∈ xs, y.length = size) : xs.flatten.length = xs.length * size := by
  induction xs with
  | nil => simp
  | cons y ys ih => rw [List.flatten_cons, List.length_append, ih fun z hz => h z (by simp [hz]), h y (by simp), List.length_cons, Nat.succ_mul]; omega

/-- A slice of the call's own, in blocks from 'base' on: it holds xs, elements of 'size' cells each. -/
def Own (W : World) (base : Nat) (E : TypeId) (size : Nat) (v : Value) (xs : List (List Value)) : Prop :=
  W.ownsRow base E size v xs.length xs.flatten ∧ ∀ x ∈ xs, x.length = size
section
variable {W W' : World} {base : Nat} {E : TypeId} {size : Nat} {v : Value} {xs : List (List Value)}
theorem Own.nil (W : World) (base : Nat) (E : TypeId) (size : Nat) : Own W base E size (.slice none 0 0) [] := ⟨World.ownsRow_nil W base E size, by simp⟩
theorem Own.turn (h : Own W base E size v xs) (hb : ∀ k, v.ownBlock = some k → W'.heap[k]? = W.heap[k]?) : Own W' base E size v xs := by
  refine ⟨⟨h.1.1, ?_⟩, h.2⟩
  rcases h.1.2 with h1 | ⟨g, cap, cur, hv, h2, h3, h4⟩
  · exact .inl h1
  · exact .inr ⟨g, cap, cur, hv, h2, (hb g (by rw [hv]; rfl)).trans h3, h4⟩
theorem Own.later (h : Own W base E size v xs) (hb : Below W.heap.size W W') : Own W' base E size v xs :=
  h.turn fun k hk => hb.block k (h.1.lt k hk).2
theorem Own.row (h : Own W base E size v xs) : ∃ a c, v = .slice a xs.length c ∧ xs.length ≤ c ∧ RowAt W a size xs := by
  obtain ⟨⟨h0, h1⟩, h2⟩ := h
  rcases h1 with ⟨hv, hn⟩ | ⟨g, cap, cur, hv, _, hg, hle, _, _, ht⟩
  · exact ⟨none, 0, by rw [hv, hn], by omega, .inl (List.length_eq_zero_iff.1 hn)⟩
  · refine ⟨_, cap, hv, hle, .inr ⟨g, 0, rfl, fun i x hx j u hu => ?_⟩⟩
    have h3 := flat_at xs i x h2 hx j u hu
    have hlt : i * size + j < xs.length * size := by
      have := (List.getElem?_eq_some_iff.1 h3).1
      rw [flat_length xs h2] at this; exact this
    rw [← ht, List.getElem?_take_of_lt hlt] at h3
    rw [cell_of_row W g _ cur E (0, 0) hg, Nat.zero_add]
    simpa using h3
theorem Own.rowAt {a : Option Addr} {n c : Nat} (h : Own W base E size (.slice a n c) xs) : xs.length = n ∧ n ≤ c ∧ RowAt W a size xs := by
  obtain ⟨a', c', e, hle, hr⟩ := h.row
  cases e; exact ⟨rfl, hle, hr⟩
/-- Rows of elements of another type lie in other blocks. -/
theorem Own.apart {base1 : Nat} {E1 : TypeId} {size1 : Nat} {v1 : Value} {xs1 : List (List Value)} (h : Own W base E size v xs) (h1 : Own W base1 E1 size1 v1 xs1) (hne : E ≠ E1) (hg : W.grownBy W' v1.ownBlock) : Own W' base E size v xs := by
  refine h.turn fun k hk => hg.block k (h.1.lt k hk).2 fun he => ?_
  rcases h.1.2 with ⟨hv, _⟩ | ⟨g, cap, cur, hv, _, h3, _⟩
  · rw [hv] at hk; cases hk
  · rcases h1.1.2 with ⟨hv1, _⟩ | ⟨g1, cap1, cur1, hv1, _, h31, _⟩
    · rw [hv1] at he; cases he
    · rw [hv] at hk; rw [hv1] at he
      cases hk; cases he
      rw [h3] at h31
      cases h31; exact hne rfl
theorem Own.mono (h : Own W base E size v xs) {base' : Nat} (hle : base' ≤ base) : Own W base' E size v xs := by
  refine ⟨⟨h.1.1, ?_⟩, h.2⟩
  rcases h.1.2 with h1 | ⟨g, cap, cur, hv, h2, h3⟩
  · exact .inl h1
  · exact .inr ⟨g, cap, cur, hv, Nat.le_trans hle h2, h3⟩
end

/-- The type t is a slice of E, whose values have 'size' cells. -/
structure Elem (P : Program) (t E : TypeId) (size bytes : Nat) : Prop where
  ht : P.underlying t = some (.slice E)
  hi : (P.info? E).map (fun i => (i.size, i.bytes, i.zero.map (·.cells.size))) = some (size, bytes, some size)

theorem Elem.get {P : Program} {t E : TypeId} {size bytes : Nat} (h : Elem P t E size bytes) : ∃ i z, P.info? E = some i ∧ i.zero = some z ∧ i.size = size ∧ i.bytes = bytes ∧ z.cells.size = size := by
  have := h.hi
  cases hi : P.info? E with
  | none => rw [hi] at this; cases this
  | some i =>
    rw [hi] at this
    simp only [Option.map_some, Option.some.injEq, Prod.mk.injEq] at this
    obtain ⟨h1, h2, h3⟩ := this
    cases hz : i.zero with
    | none => rw [hz] at h3; cases h3
    | some z => rw [hz] at h3; exact ⟨i, z, rfl, hz, h1, h2, by simpa using h3⟩

theorem below_grown {W W' : World} {base : Nat} {row : Option Nat} (hg : W.grownBy W' row) (hb : base ≤ W.heap.size) (hr : ∀ k, row = some k → base ≤ k) : Below base W W' :=
  ⟨hg.os, hg.tape, hg.output, hg.size, fun k hk => hg.block k (by omega) fun e => by have := hr k e.symm; omega⟩

theorem Box.past {W W' : World} {b n : Nat} {cs : Array Value} {T : TypeId} (h : Box W b cs T) (hb : Below n W W') (hlt : b < n) : Box W' b cs T := (hb.block b hlt).trans h
/-- One element is appended; it lies in a block of its own. -/
theorem wpList_grow {P : Program} {ops : Array Oper} {rest : List Oper} {o : Oper} {a : Act} {W : World} {Q : Exit → Act → World → Prop} (hgd : o.guard = none) (s x : Operand) (t : TypeId)
    (ho : o.op = .call { callee := .builtin .append, args := #[s, x], argTypes := #[t, t] })
    {base : Nat} {E : TypeId} {size bytes : Nat} (he : Elem P t E size bytes) {v : Value} {xs : List (List Value)} (hs : a.eval s = v) (hown : Own W base E size v xs)
    {g c : Nat} {cells : Array Value} (hx : a.eval x = .slice (some ⟨g, 0, none⟩) 1 c) (hB : Box W g cells E) (hsz : cells.size = size) (h0 : 0 < size) (h1 : cells.toList.all (·.oneCell') = true)
    {n : Nat} (hnn : xs.length = n) (hn : n ≤ 1000) (hby : bytes ≤ 1000) (hbase : base ≤ W.heap.size)
    (h : ∀ a' c' W', Own W' base E size (.slice a' (n + 1) c') (xs ++ [cells.toList]) → Below base W W' → W.grownBy W' v.ownBlock → wpList P ops Q rest (a.put o.dst (.slice a' (n + 1) c')) W') : wpList P ops Q (o :: rest) a W := by
  subst hnn
  obtain ⟨i, z, hi, hz, i1, i2, i3⟩ := he.get
  refine wpList_append_lies W hgd s x t ho base E i z size bytes he.ht hi hz i1 i2 i3 h0 v xs.length xs.flatten hs hown.1 ⟨g, 0, none⟩ 1 c cells.toList hx (by simp [hsz]) (World.news_of_block hB) (fun u hu => List.all_eq_true.1 h1 u hu) (by omega) (by unfold maxLen; omega) ?_ hbase _ rfl ?_
  · have : (xs.length + 1) * bytes ≤ 1001 * 1000 := Nat.mul_le_mul (by omega) hby
    omega
  · intro g' cap w' h2 h3 h4 h5
    refine h _ _ _ ⟨?_, ?_⟩ (below_grown h3 hbase fun k hk => (hown.1.lt k hk).1) h3
    · simpa using h2
    · intro y hy
      rcases List.mem_append.1 hy with hy | hy
      · exact hown.2 y hy
      · simp at hy; subst hy; simpa using hsz
theorem Own.but {W W' : World} {base b : Nat} {E : TypeId} {size : Nat} {v : Value} {xs : List (List Value)} (h : Own W base E size v xs) (hb : But b W W') (hlt : b < base) : Own W' base E size v xs :=
  h.turn fun k hk => hb.block k (by have := (h.1.lt k hk).1; omega)
/-- A row of elements of another type, behind an append and a store. -/
theorem Own.aside {wr w5 W' W'' : World} {B b : Nat} {E1 E : TypeId} {s1 s : Nat} {v1 v : Value} {xs1 xs : List (List Value)} (h : Own wr B E1 s1 v1 xs1) (hb : Below wr.heap.size wr w5) (h2 : Own w5 B E s v xs) (hne : E1 ≠ E) (hg : w5.grownBy W' v.ownBlock)
    (hbut : But b W' W'') (hlt : b < B) : Own W'' B E1 s1 v1 xs1 := ((h.later hb).apart h2 hne hg).but hbut hlt
/-- A slice of one element, in a block of its own. -/
def oneSpec (T : TypeId) (cs : Array Value) : Fat.Spec := fun v lo hi w => v = .slice (some ⟨lo, 0, none⟩) 1 1 ∧ lo < hi ∧ Box w lo cs T
theorem oneSpec_lasting (T : TypeId) (cs : Array Value) : Fat.Lasting (oneSpec T cs) := fun _ _ _ _ _ hb _ h => ⟨h.1, h.2.1, h.2.2.later hb⟩
theorem oneSpec_local (T : TypeId) (cs : Array Value) : Fat.Local (oneSpec T cs) := fun _ lo _ _ _ _ _ hw hd h => ⟨h.1, h.2.1, (hw.block lo (by have := h.2.1; omega)).trans h.2.2⟩
theorem oneSpec_new (T : TypeId) (cs : Array Value) (w : World) : Below w.heap.size w (w.alloc (.cells cs T)) ∧ oneSpec T cs (.slice (some ⟨w.heap.size, 0, none⟩) 1 1) w.heap.size (w.heap.size + 1) (w.alloc (.cells cs T)) :=
  ⟨al (Below.refl _ _) _, rfl, by simp, Box.new w cs T⟩
end Go.Proofs.Ytbphpeoddifkfaa
