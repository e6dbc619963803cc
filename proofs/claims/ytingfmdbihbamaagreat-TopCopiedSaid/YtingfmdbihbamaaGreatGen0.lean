import Derived.Test.YtingfmdbihbamaaGreatProg
import Derived.Test.YtingfmdbihbamaaGreatFat
import Derived.WalkKit
import Derived.BigQuiet
import Derived.Deep.RegionHeld3
import Derived.Deep.DeepFit
import Derived.RangeFuncBox
import Derived.Deep.MidRow
import Derived.Lib.Hide
import Derived.Laws.EntriesVeiled
import Derived.Deep.AppendLies
section
/- What every walk uses: the form of a contract. -/
open Go.RowKit
namespace Go.Proofs.YtingfmdbihbamaaGreat

/-- It returns v, and nothing that was there has turned. -/
def Ret (v : Value) (w : World) (e : Ending) (w' : World) : Prop := e = .returned v ∧ Below w.heap.size w w'

theorem bcell {W w1 : World} (hb : Below W.heap.size W w1) : (∀ b o, b < W.heap.size → w1.cell? ⟨b, o, none⟩ = W.cell? ⟨b, o, none⟩) ∧ (∀ b o, b < W.heap.size → w1.frozen? ⟨b, o, none⟩ = W.frozen? ⟨b, o, none⟩) :=
  ⟨fun b o h => hb.cell (p := ⟨b, o, none⟩) h, fun b o h => hb.frozen (p := ⟨b, o, none⟩) h⟩
theorem ret_bool {a b : Bool} (h : a = b) : Ending.returned (.bool a) = .returned (.bool b) := by rw [h]
theorem ret_int {k : IntKind} {a b : Int} (h : a = b) : Ending.returned (.int k a) = .returned (.int k b) := by rw [h]


/-! ### What has turned -/
theorem over {w W w1 : World} (h : Below w.heap.size w W) (hb : Below W.heap.size W w1) : Below w.heap.size w w1 := h.trans (hb.mono h.size)
theorem al {w W : World} (h : Below w.heap.size w W) (o : Obj) : Below w.heap.size w (W.alloc o) := h.alloc h.size o
theorem sc {w W : World} (h : Below w.heap.size w W) {p : Addr} (hp : w.heap.size ≤ p.block) (u : Value) : Below w.heap.size w (W.setCell p u) := h.setCell hp u

theorem lt1 {W w1 : World} {b : Nat} (hb : Below W.heap.size W w1) (h : b < W.heap.size) : b < w1.heap.size := Nat.lt_of_lt_of_le h hb.size

/-! ### What an operation of a drawn region is good for -/
def isSpec (u : Value) : Fat.Spec := fun v _ _ _ => v = u
def freshSpec (o : Obj) : Fat.Spec := fun v lo hi w => v = .pointer (some ⟨lo, 0, none⟩) ∧ lo < hi ∧ w.heap[lo]? = some o
theorem isSpec_local (u : Value) : Fat.Local (isSpec u) := fun _ _ _ _ _ _ _ _ _ h => h
theorem isSpec_lasting (u : Value) : Fat.Lasting (isSpec u) := fun _ _ _ _ _ _ _ h => h
theorem freshSpec_lasting (o : Obj) : Fat.Lasting (freshSpec o) := fun _ lo hi w w' hb hi' h => ⟨h.1, h.2.1, by rw [hb.block lo (Nat.lt_of_lt_of_le h.2.1 hi')]; exact h.2.2⟩
theorem freshSpec_new (o : Obj) (w : World) : Below w.heap.size w (w.alloc o) ∧ freshSpec o (.pointer (some ⟨w.heap.size, 0, none⟩)) w.heap.size (w.heap.size + 1) (w.alloc o) :=
  ⟨al (Below.refl _ _) o, rfl, by simp, World.alloc_heap_new w o⟩
attribute [go_sem] Fat.gives Fat.cell_cls Fat.frozen_cls
@[go_sem] theorem lt_up {b n : Nat} (h : b < n) : (b < n + 1) = True := by simp; omega

/-! ### Blocks that are known whole -/
def Box (W : World) (b : Nat) (cs : Array Value) (T : TypeId) : Prop := W.heap[b]? = some (.cells cs T)
section
variable {W W' : World} {b : Nat} {cs : Array Value} {T : TypeId}
theorem Box.lt (h : Box W b cs T) : b < W.heap.size := (Array.getElem?_eq_some_iff.1 h).1
theorem Box.cell (h : Box W b cs T) : ∀ o, W.cell? ⟨b, o, none⟩ = cs[o]? := fun o => by
  have : W.heap[b]? = some (.cells cs T) := h
  simp [World.cell?, this]
theorem Box.frozen (h : Box W b cs T) : ∀ o, W.frozen? ⟨b, o, none⟩ = false := fun o => by
  have : W.heap[b]? = some (.cells cs T) := h
  simp [World.frozen?, this]
theorem Box.later (h : Box W b cs T) (hb : Below W.heap.size W W') : Box W' b cs T := (hb.block b h.lt).trans h
theorem Box.new (W : World) (cs : Array Value) (T : TypeId) : Box (W.alloc (.cells cs T)) W.heap.size cs T := World.alloc_heap_new W _
theorem Box.alloc (h : Box W b cs T) (o : Obj) : Box (W.alloc o) b cs T := h.later (al (Below.refl _ _) o)
theorem Box.drew (h : Box W b cs T) : Box W.drew b cs T := h
end

/-- Nothing has turned but block b. -/
structure But (b : Nat) (w w' : World) : Prop where
  os : w'.os = w.os
  tape : w'.tape = w.tape
  output : w'.output = w.output
  size : w'.heap.size = w.heap.size
  block : ∀ k, k ≠ b → w'.heap[k]? = w.heap[k]?
theorem But.below {b : Nat} {w W W' : World} (h : But b W W') (hb : Below w.heap.size w W) (hle : w.heap.size ≤ b) : Below w.heap.size w W' :=
  hb.trans ⟨h.os, h.tape, h.output, by rw [h.size]; exact Nat.le_refl _, fun k hk => h.block k (by omega)⟩
theorem But.box {b c : Nat} {W W' : World} {cs : Array Value} {T : TypeId} (h : But b W W') (hc : Box W c cs T) (hne : c ≠ b) : Box W' c cs T := (h.block c hne).trans hc

theorem setCell_box {W : World} {b : Nat} {cs : Array Value} {T : TypeId} (h : Box W b cs T) (i : Nat) (v : Value) : Box (W.setCell ⟨b, i, none⟩ v) b (cs.setIfInBounds i v) T := by
  obtain ⟨hlt, hk⟩ := Array.getElem?_eq_some_iff.1 h
  show (W.heap.modify b _)[b]? = _
  rw [Array.getElem?_eq_getElem (by rw [Array.size_modify]; exact hlt), Array.getElem_modify_self, hk]
  rfl
theorem setCell_but (W : World) (b i : Nat) (v : Value) : But b W (W.setCell ⟨b, i, none⟩ v) :=
  ⟨rfl, rfl, rfl, by simp [World.setCell], fun k hk => Below.heap_setCell _ _ _ _ hk⟩
theorem But.trans {b : Nat} {x y z : World} (h : But b x y) (k : But b y z) : But b x z :=
  ⟨k.os.trans h.os, k.tape.trans h.tape, k.output.trans h.output, k.size.trans h.size, fun j hj => (k.block j hj).trans (h.block j hj)⟩

theorem setCells_form {b : Nat} {T : TypeId} (vs : List Value) : ∀ (o : Nat) {W : World} {cs : Array Value}, Box W b cs T → (∃ c, Box (W.setCells b o vs) b c T ∧ c.size = cs.size) ∧ But b W (W.setCells b o vs) := by
  induction vs with
  | nil => intro o W cs h; exact ⟨⟨cs, h, rfl⟩, rfl, rfl, rfl, rfl, fun _ _ => rfl⟩
  | cons v vs ih =>
    intro o W cs h
    obtain ⟨⟨c, h1, h2⟩, h3⟩ := ih (o + 1) (setCell_box h o v)
    exact ⟨⟨c, h1, by rw [h2]; simp⟩, (setCell_but W b o v).trans h3⟩
theorem setCells_box {W : World} {b : Nat} {T : TypeId} {cs cells : Array Value} (h : Box W b cs T) (hs : cs.size = cells.size) : Box (W.setCells b 0 cells.toList) b cells T ∧ But b W (W.setCells b 0 cells.toList) := by
  obtain ⟨⟨c, h1, h2⟩, h3⟩ := setCells_form (b := b) cells.toList 0 h
  refine ⟨?_, h3⟩
  have : c = cells := by
    apply Array.ext
    · omega
    · intro j hj1 hj2
      have h4 := World.cell?_setCells_in b cells.toList 0 W (fun i hi => by rw [h.cell]; simp at hi ⊢; omega) j (by simpa using hj2)
      rw [h1.cell] at h4
      simpa [hj1, hj2] using h4
  subst this; exact h1

/-- A value of several cells goes into a block that is known whole. -/
theorem wpList_store_box {P : Program} {ops : Array Oper} {rest : List Oper} {op : Oper} {a : Act} {w : World} {Q : Exit → Act → World → Prop} (hgd : op.guard = none) (hds : op.dst = none) (ty : TypeId) (x y : Operand) (ho : op.op = .store ty x y)
    (b : Nat) (cells : Array Value) (hx : a.eval x = .pointer (some ⟨b, 0, none⟩)) (hy : a.eval y = .agg cells) {old : Array Value} {T : TypeId} (hB : Box w b old T) (hs : old.size = cells.size)
    (hi : (P.info? ty).map (·.size) = some cells.size) (h1 : cells.toList.all (·.oneCell') = true)
    (h : ∀ w', Box w' b cells T → But b w w' → wpList P ops Q rest a w') : wpList P ops Q (op :: rest) a w := by
  refine wpList_store_mid hgd ty x y ho b 0 cells hx hy (fun j hj => ?_) hi (by rw [← Array.all_toList]; exact h1) ?_
  · rw [hB.cell, hB.frozen]; simp; omega
  · obtain ⟨h2, h3⟩ := setCells_box (cells := cells) hB hs
    rw [hds]
    exact h _ h2 h3

/-! ### A variable that a drawn region makes, and fills -/
/-- A new block of k cells. -/
def newSpec (T : TypeId) (k : Nat) : Fat.Spec := fun v lo hi w => v = .pointer (some ⟨lo, 0, none⟩) ∧ lo < hi ∧ ∃ cs, Box w lo cs T ∧ cs.size = k
/-- It has been filled. -/
def setSpec (T : TypeId) (cs : Array Value) : Fat.Spec := fun _ lo hi w => lo < hi ∧ Box w lo cs T
theorem newSpec_lasting (T : TypeId) (k : Nat) : Fat.Lasting (newSpec T k) := fun _ _ _ _ _ hb _ h => ⟨h.1, h.2.1, let ⟨cs, h1, h2⟩ := h.2.2; ⟨cs, h1.later hb, h2⟩⟩
theorem setSpec_lasting (T : TypeId) (cs : Array Value) : Fat.Lasting (setSpec T cs) := fun _ _ _ _ _ hb _ h => ⟨h.1, h.2.later hb⟩
theorem newSpec_local (T : TypeId) (k : Nat) : Fat.Local (newSpec T k) := fun _ lo _ _ _ _ _ hw hd h => ⟨h.1, h.2.1, let ⟨cs, h1, h2⟩ := h.2.2; ⟨cs, (hw.block lo (by have := h.2.1; omega)).trans h1, h2⟩⟩
theorem setSpec_local (T : TypeId) (cs : Array Value) : Fat.Local (setSpec T cs) := fun _ lo _ _ _ _ _ hw hd h => ⟨h.1, (hw.block lo (by have := h.1; omega)).trans h.2⟩
theorem newSpec_new (T : TypeId) (cs : Array Value) (w : World) : Below w.heap.size w (w.alloc (.cells cs T)) ∧ newSpec T cs.size (.pointer (some ⟨w.heap.size, 0, none⟩)) w.heap.size (w.heap.size + 1) (w.alloc (.cells cs T)) :=
  ⟨al (Below.refl _ _) _, rfl, by simp, cs, Box.new w cs T, rfl⟩
theorem But.wr {b lo hi : Nat} {w w' : World} (h : But b w w') (h1 : lo ≤ b) (h2 : b < hi) : Fat.Wr lo hi w w' := ⟨h.os, h.tape, h.output, h.size, fun k hk => h.block k (by omega)⟩
theorem gives_fill {P : Program} {o : Oper} {A : Act} {w : World} {ty : TypeId} {x y : Operand} (ho : o.op = .store ty x y) {lo hi : Nat} {k : Nat} {v : Value} {T : TypeId} (hn : newSpec T k v lo hi w) (cells : Array Value)
    (hx : A.eval x = v) (hy : A.eval y = .agg cells) (hs : k = cells.size) (hi' : (P.info? ty).map (·.size) = some cells.size) (h1 : cells.toList.all (·.oneCell') = true) :
    Fat.gives P o A w fun _ w' => Fat.Wr lo hi w w' ∧ setSpec T cells undef lo hi w' ∧ newSpec T k v lo hi w' := by
  obtain ⟨rfl, hlt, cs, hB, hc⟩ := hn
  obtain ⟨h2, h3⟩ := setCells_box (cells := cells) hB (by omega)
  unfold Fat.gives execOp
  simp only [ho, hx, hy, Instr.storeAt, Instr.sureAddr, Sem.run_bind, Sem.run_pure, Result.andThen_ok, run_storeVar_mid w lo 0 ty cells (fun j hj => by rw [hB.cell, hB.frozen]; simp; omega) hi' (by rw [← Array.all_toList]; exact h1)]
  exact ⟨h3.wr (Nat.le_refl _) hlt, ⟨hlt, h2⟩, rfl, hlt, cells, h2, hs.symm⟩

/-! ### A world that is written out gets a name -/
theorem Box.newAt {W : World} {n : Nat} (cs : Array Value) (T : TypeId) (h : W.heap.size = n) : Box (W.alloc (.cells cs T)) n cs T := h ▸ Box.new W cs T
section
variable {p : World → Prop} {w : World} {c1 c2 c3 c4 : Array Value} {t1 t2 t3 t4 : TypeId}
theorem named1 (h : ∀ W, Below w.heap.size w W → Box W w.heap.size c1 t1 → p W) : p (w.alloc (.cells c1 t1)) := h _ (al (Below.refl _ _) _) (Box.new _ _ _)
theorem named2 (h : ∀ W, Below w.heap.size w W → Box W w.heap.size c1 t1 → Box W (w.heap.size + 1) c2 t2 → p W) : p ((w.alloc (.cells c1 t1)).alloc (.cells c2 t2)) :=
  h _ (al (al (Below.refl _ _) _) _) ((Box.new _ _ _).alloc _) (Box.newAt _ _ (by simp))
theorem named3 (h : ∀ W, Below w.heap.size w W → Box W w.heap.size c1 t1 → Box W (w.heap.size + 1) c2 t2 → Box W (w.heap.size + 1 + 1) c3 t3 → p W) : p (((w.alloc (.cells c1 t1)).alloc (.cells c2 t2)).alloc (.cells c3 t3)) :=
  h _ (al (al (al (Below.refl _ _) _) _) _) (((Box.new _ _ _).alloc _).alloc _) ((Box.newAt _ _ (by simp)).alloc _) (Box.newAt _ _ (by simp))
theorem named4 (h : ∀ W, Below w.heap.size w W → Box W w.heap.size c1 t1 → Box W (w.heap.size + 1) c2 t2 → Box W (w.heap.size + 1 + 1) c3 t3 → Box W (w.heap.size + 1 + 1 + 1) c4 t4 → p W) : p ((((w.alloc (.cells c1 t1)).alloc (.cells c2 t2)).alloc (.cells c3 t3)).alloc (.cells c4 t4)) :=
  h _ (al (al (al (al (Below.refl _ _) _) _) _) _) ((((Box.new _ _ _).alloc _).alloc _).alloc _) (((Box.newAt _ _ (by simp)).alloc _).alloc _) ((Box.newAt _ _ (by simp)).alloc _) (Box.newAt _ _ (by simp))
end

end Go.Proofs.YtingfmdbihbamaaGreat
end

section
/- Rows in memory; lists. -/
open Go.RowKit
namespace Go.Proofs.YtingfmdbihbamaaGreat

/-- The cells of a row of elements of 'size' cells each. -/
def Cells (W : World) (b o size : Nat) (xs : List (List Value)) : Prop := ∀ i x, xs[i]? = some x → ∀ j v, x[j]? = some v → W.cell? ⟨b, o + i * size + j, none⟩ = some v
theorem Cells.later {W W' : World} {b o size : Nat} {xs : List (List Value)} (h : Cells W b o size xs) (hb : Below W.heap.size W W') : Cells W' b o size xs :=
  fun i x hx j v hv => by
    have := h i x hx j v hv
    rw [hb.cell (block_lt_of_cell this)]; exact this
/-- A slice's address, its elements told. -/
def RowAt (W : World) (a : Option Addr) (size : Nat) (xs : List (List Value)) : Prop := xs = [] ∨ ∃ b o, a = some ⟨b, o, none⟩ ∧ Cells W b o size xs
theorem RowAt.later {W W' : World} {a : Option Addr} {size : Nat} {xs : List (List Value)} (h : RowAt W a size xs) (hb : Below W.heap.size W W') : RowAt W' a size xs := by
  rcases h with h | ⟨b, o, h1, h2⟩
  · exact .inl h
  · exact .inr ⟨b, o, h1, h2.later hb⟩
theorem RowAt.at {α : Type} {W : World} {a : Option Addr} {size : Nat} {l : List α} {f : α → List Value} {k : Nat} (h : RowAt W a size (l.map f)) (hk : k < l.length) :
    ∃ b o, a = some ⟨b, o, none⟩ ∧ Cells W b o size (l.map f) := by
  rcases h with h | h
  · simp at h; subst h; simp at hk
  · exact h

section
variable {W : World} {b o k : Nat}
theorem cells_one {α : Type} {f : α → Value} {l : List α} {x : α} (h : Cells W b o 1 (l.map fun v => [f v])) (hx : l[k]? = some x) : W.cell? ⟨b, o + k, none⟩ = some (f x) := by
  have := h k [f x] (by simp [hx]) 0 (f x) rfl
  simpa using this
end

abbrev IntsAt (W : World) (a : Option Addr) (l : List Int) : Prop := RowAt W a 1 (l.map fun n => [Value.int .i64 n])

/-! ### Lists: the first that passes -/
def idxI {α : Type} (p : α → Bool) (l : List α) : Int := match l.findIdx? p with | some i => i | none => -1
theorem idxI_some {α : Type} {p : α → Bool} {l : List α} {k : Nat} {x : α} (hx : l[k]? = some x) (hp : p x = true) (hno : ∀ j y, j < k → l[j]? = some y → p y = false) : idxI p l = k := by
  have : l.findIdx? p = some k := by
    rw [List.findIdx?_eq_some_iff_getElem]
    obtain ⟨hk, rfl⟩ := List.getElem?_eq_some_iff.1 hx
    exact ⟨hk, hp, fun j hj => by have := hno j l[j] hj (by simp); simpa using this⟩
  simp [idxI, this]
theorem idxI_none {α : Type} {p : α → Bool} {l : List α} (hno : ∀ j y, j < l.length → l[j]? = some y → p y = false) : idxI p l = -1 := by
  have : l.findIdx? p = none := by
    rw [List.findIdx?_eq_none_iff]
    intro x hx
    obtain ⟨j, hj, rfl⟩ := List.getElem_of_mem hx
    exact hno j _ hj (by simp)
  simp [idxI, this]
theorem idxI_any {α : Type} (p : α → Bool) (l : List α) : decide (0 ≤ idxI p l) = l.any p := by
  unfold idxI
  cases h : l.findIdx? p with
  | none => rw [List.findIdx?_eq_none_iff] at h; simp; exact h
  | some i =>
    rw [List.findIdx?_eq_some_iff_getElem] at h
    obtain ⟨hi, hp, _⟩ := h
    have : l.any p = true := List.any_eq_true.2 ⟨l[i], List.getElem_mem hi, hp⟩
    rw [this]; simp
theorem idxI_bd {α : Type} (p : α → Bool) (l : List α) : -1 ≤ idxI p l ∧ idxI p l ≤ l.length := by
  unfold idxI
  cases h : l.findIdx? p with
  | none => simp
  | some i => rw [List.findIdx?_eq_some_iff_getElem] at h; obtain ⟨hi, _⟩ := h; simp; omega
theorem not_any_not {α : Type} (p : α → Bool) (l : List α) : (!l.any fun x => !p x) = l.all p := by
  induction l with
  | nil => rfl
  | cons x l ih => simp only [List.any_cons, List.all_cons, Bool.not_or, Bool.not_not, ih]
end Go.Proofs.YtingfmdbihbamaaGreat
end

section
/- Rows that a call makes for itself, and appends to. -/
open Go.RowKit
namespace Go.Proofs.YtingfmdbihbamaaGreat

theorem flat_at {size : Nat} (xs : List (List Value)) : ∀ (i : Nat) (x : List Value), (∀ y ∈ xs, y.length = size) → xs[i]? = some x → ∀ (j : Nat) (v : Value), x[j]? = some v → xs.flatten[i * size + j]? = some v := by
  induction xs with
  | nil => intro i x _ h; simp at h
  | cons y ys ih =>
    intro i x hl hx j v hv
    have hy : y.length = size := hl y (by simp)
    have hys : ∀ z ∈ ys, z.length = size := fun z hz => hl z (by simp [hz])
    cases i with
    | zero =>
      simp at hx; subst hx
      have hj : j < y.length := (List.getElem?_eq_some_iff.1 hv).1
      rw [List.flatten_cons, Nat.zero_mul, Nat.zero_add, List.getElem?_append_left hj]; exact hv
    | succ i =>
      have := ih i x hys (by simpa using hx) j v hv
      rw [List.flatten_cons, Nat.succ_mul, List.getElem?_append_right (by omega), ← this]
      congr 1; omega
theorem flat_length {size : Nat} (xs : List (List Value)) (h : ∀ y ∈ xs, y.length = size) : xs.flatten.length = xs.length * size := by
  induction xs with
  | nil => simp
  | cons y ys ih => rw [List.flatten_cons, List.length_append, ih fun z hz => h z (by simp [hz]), h y (by simp), List.length_cons, Nat.succ_mul]; omega

/-- A slice of the call's own, in blocks from 'base' on: it holds xs, elements of 'size' cells each. -/
def Own (W : World) (base : Nat) (E : TypeId) (size : Nat) (v : Value) (xs : List (List Value)) : Prop :=
  W.ownsRow base E size v xs.length xs.flatten ∧ ∀ x ∈ xs, x.length = size
section
variable {W W' : World} {base : Nat} {E : TypeId} {size : Nat} {v : Value} {xs : List (List Value)}
theorem Own.nil (W : World) (base : Nat) (E : TypeId) (size : Nat) : Own W base E size (.slice none 0 0) [] := ⟨World.ownsRow_nil W base E size, by simp⟩
theorem Own.turn (h : Own W base E size v xs) (hb : ∀ k, v.ownBlock = some k → W'.heap[k]? = W.heap[k]?) : Own W' base E size v xs := by
  refine ⟨⟨h.1.1, ?_⟩, h.2⟩
  rcases h.1.2 with h1 | ⟨g, cap, cur, hv, h2, h3, h4⟩
  · exact .inl h1
  · exact .inr ⟨g, cap, cur, hv, h2, (hb g (by rw [hv]; rfl)).trans h3, h4⟩
theorem Own.later (h : Own W base E size v xs) (hb : Below W.heap.size W W') : Own W' base E size v xs :=
  h.turn fun k hk => hb.block k (h.1.lt k hk).2
theorem Own.row (h : Own W base E size v xs) : ∃ a c, v = .slice a xs.length c ∧ xs.length ≤ c ∧ RowAt W a size xs := by
  obtain ⟨⟨h0, h1⟩, h2⟩ := h
  rcases h1 with ⟨hv, hn⟩ | ⟨g, cap, cur, hv, _, hg, hle, _, _, ht⟩
  · exact ⟨none, 0, by rw [hv, hn], by omega, .inl (List.length_eq_zero_iff.1 hn)⟩
  · refine ⟨_, cap, hv, hle, .inr ⟨g, 0, rfl, fun i x hx j u hu => ?_⟩⟩
    have h3 := flat_at xs i x h2 hx j u hu
    have hlt : i * size + j < xs.length * size := by
      have := (List.getElem?_eq_some_iff.1 h3).1
      rw [flat_length xs h2] at this; exact this
    rw [← ht, List.getElem?_take_of_lt hlt] at h3
    rw [cell_of_row W g _ cur E (0, 0) hg, Nat.zero_add]
    simpa using h3
theorem Own.rowAt {a : Option Addr} {n c : Nat} (h : Own W base E size (.slice a n c) xs) : xs.length = n ∧ n ≤ c ∧ RowAt W a size xs := by
  obtain ⟨a', c', e, hle, hr⟩ := h.row
  cases e; exact ⟨rfl, hle, hr⟩
/-- Rows of elements of another type lie in other blocks. -/
theorem Own.apart {base1 : Nat} {E1 : TypeId} {size1 : Nat} {v1 : Value} {xs1 : List (List Value)} (h : Own W base E size v xs) (h1 : Own W base1 E1 size1 v1 xs1) (hne : E ≠ E1) (hg : W.grownBy W' v1.ownBlock) : Own W' base E size v xs := by
  refine h.turn fun k hk => hg.block k (h.1.lt k hk).2 fun he => ?_
  rcases h.1.2 with ⟨hv, _⟩ | ⟨g, cap, cur, hv, _, h3, _⟩
  · rw [hv] at hk; cases hk
  · rcases h1.1.2 with ⟨hv1, _⟩ | ⟨g1, cap1, cur1, hv1, _, h31, _⟩
    · rw [hv1] at he; cases he
    · rw [hv] at hk; rw [hv1] at he
      cases hk; cases he
      rw [h3] at h31
      cases h31; exact hne rfl
theorem Own.mono (h : Own W base E size v xs) {base' : Nat} (hle : base' ≤ base) : Own W base' E size v xs := by
  refine ⟨⟨h.1.1, ?_⟩, h.2⟩
  rcases h.1.2 with h1 | ⟨g, cap, cur, hv, h2, h3⟩
  · exact .inl h1
  · exact .inr ⟨g, cap, cur, hv, Nat.le_trans hle h2, h3⟩
end

/-- The type t is a slice of E, whose values have 'size' cells. -/
structure Elem (P : Program) (t E : TypeId) (size bytes : Nat) : Prop where
  ht : P.underlying t = some (.slice E)
  hi : (P.info? E).map (fun i => (i.size, i.bytes, i.zero.map (·.cells.size))) = some (size, bytes, some size)

theorem Elem.get {P : Program} {t E : TypeId} {size bytes : Nat} (h : Elem P t E size bytes) : ∃ i z, P.info? E = some i ∧ i.zero = some z ∧ i.size = size ∧ i.bytes = bytes ∧ z.cells.size = size := by
  have := h.hi
  cases hi : P.info? E with
  | none => rw [hi] at this; cases this
  | some i =>
    rw [hi] at this
    simp only [Option.map_some, Option.some.injEq, Prod.mk.injEq] at this
    obtain ⟨h1, h2, h3⟩ := this
    cases hz : i.zero with
    | none => rw [hz] at h3; cases h3
    | some z => rw [hz] at h3; exact ⟨i, z, rfl, hz, h1, h2, by simpa using h3⟩

theorem below_grown {W W' : World} {base : Nat} {row : Option Nat} (hg : W.grownBy W' row) (hb : base ≤ W.heap.size) (hr : ∀ k, row = some k → base ≤ k) : Below base W W' :=
  ⟨hg.os, hg.tape, hg.output, hg.size, fun k hk => hg.block k (by omega) fun e => by have := hr k e.symm; omega⟩

theorem Box.past {W W' : World} {b n : Nat} {cs : Array Value} {T : TypeId} (h : Box W b cs T) (hb : Below n W W') (hlt : b < n) : Box W' b cs T := (hb.block b hlt).trans h
/-- One element is appended; it lies in a block of its own. -/
theorem wpList_grow {P : Program} {ops : Array Oper} {rest : List Oper} {o : Oper} {a : Act} {W : World} {Q : Exit → Act → World → Prop} (hgd : o.guard = none) (s x : Operand) (t : TypeId)
    (ho : o.op = .call { callee := .builtin .append, args := #[s, x], argTypes := #[t, t] })
    {base : Nat} {E : TypeId} {size bytes : Nat} (he : Elem P t E size bytes) {v : Value} {xs : List (List Value)} (hs : a.eval s = v) (hown : Own W base E size v xs)
    {g c : Nat} {cells : Array Value} (hx : a.eval x = .slice (some ⟨g, 0, none⟩) 1 c) (hB : Box W g cells E) (hsz : cells.size = size) (h0 : 0 < size) (h1 : cells.toList.all (·.oneCell') = true)
    {n : Nat} (hnn : xs.length = n) (hn : n ≤ 1000) (hby : bytes ≤ 1000) (hbase : base ≤ W.heap.size)
    (h : ∀ a' c' W', Own W' base E size (.slice a' (n + 1) c') (xs ++ [cells.toList]) → Below base W W' → W.grownBy W' v.ownBlock → wpList P ops Q rest (a.put o.dst (.slice a' (n + 1) c')) W') : wpList P ops Q (o :: rest) a W := by
  subst hnn
  obtain ⟨i, z, hi, hz, i1, i2, i3⟩ := he.get
  refine wpList_append_lies W hgd s x t ho base E i z size bytes he.ht hi hz i1 i2 i3 h0 v xs.length xs.flatten hs hown.1 ⟨g, 0, none⟩ 1 c cells.toList hx (by simp [hsz]) (World.news_of_block hB) (fun u hu => List.all_eq_true.1 h1 u hu) (by omega) (by unfold maxLen; omega) ?_ hbase _ rfl ?_
  · have : (xs.length + 1) * bytes ≤ 1001 * 1000 := Nat.mul_le_mul (by omega) hby
    omega
  · intro g' cap w' h2 h3 h4 h5
    refine h _ _ _ ⟨?_, ?_⟩ (below_grown h3 hbase fun k hk => (hown.1.lt k hk).1) h3
    · simpa using h2
    · intro y hy
      rcases List.mem_append.1 hy with hy | hy
      · exact hown.2 y hy
      · simp at hy; subst hy; simpa using hsz
theorem Own.but {W W' : World} {base b : Nat} {E : TypeId} {size : Nat} {v : Value} {xs : List (List Value)} (h : Own W base E size v xs) (hb : But b W W') (hlt : b < base) : Own W' base E size v xs :=
  h.turn fun k hk => hb.block k (by have := (h.1.lt k hk).1; omega)
/-- A row of elements of another type, behind an append and a store. -/
theorem Own.aside {wr w5 W' W'' : World} {B b : Nat} {E1 E : TypeId} {s1 s : Nat} {v1 v : Value} {xs1 xs : List (List Value)} (h : Own wr B E1 s1 v1 xs1) (hb : Below wr.heap.size wr w5) (h2 : Own w5 B E s v xs) (hne : E1 ≠ E) (hg : w5.grownBy W' v.ownBlock)
    (hbut : But b W' W'') (hlt : b < B) : Own W'' B E1 s1 v1 xs1 := ((h.later hb).apart h2 hne hg).but hbut hlt
/-- A slice of one element, in a block of its own. -/
def oneSpec (T : TypeId) (cs : Array Value) : Fat.Spec := fun v lo hi w => v = .slice (some ⟨lo, 0, none⟩) 1 1 ∧ lo < hi ∧ Box w lo cs T
theorem oneSpec_lasting (T : TypeId) (cs : Array Value) : Fat.Lasting (oneSpec T cs) := fun _ _ _ _ _ hb _ h => ⟨h.1, h.2.1, h.2.2.later hb⟩
theorem oneSpec_local (T : TypeId) (cs : Array Value) : Fat.Local (oneSpec T cs) := fun _ lo _ _ _ _ _ hw hd h => ⟨h.1, h.2.1, (hw.block lo (by have := h.2.1; omega)).trans h.2.2⟩
theorem oneSpec_new (T : TypeId) (cs : Array Value) (w : World) : Below w.heap.size w (w.alloc (.cells cs T)) ∧ oneSpec T cs (.slice (some ⟨w.heap.size, 0, none⟩) 1 1) w.heap.size (w.heap.size + 1) (w.alloc (.cells cs T)) :=
  ⟨al (Below.refl _ _) _, rfl, by simp, Box.new w cs T⟩
end Go.Proofs.YtingfmdbihbamaaGreat
end

section
/- An append of a whole row onto a new slice. -/
open Go.RowKit
namespace Go.Proofs.YtingfmdbihbamaaGreat

theorem flat_cells {W : World} {b o size : Nat} {xs : List (List Value)} (h : Cells W b o size xs) (hl : ∀ x ∈ xs, x.length = size) (h0 : 0 < size) (j : Nat) (u : Value) (hj : xs.flatten[j]? = some u) : W.cell? ⟨b, o + j, none⟩ = some u := by
  have h1 : j < xs.flatten.length := (List.getElem?_eq_some_iff.1 hj).1
  rw [flat_length xs hl] at h1
  have h2 : j / size < xs.length := Nat.div_lt_of_lt_mul (by rw [Nat.mul_comm]; exact h1)
  have h3 := Nat.mod_lt j h0
  have hx : xs[j / size]? = some xs[j / size] := by simp [h2]
  have hlen : xs[j / size].length = size := hl _ (List.getElem_mem h2)
  have hv : xs[j / size][j % size]? = some (xs[j / size][j % size]'(by omega)) := by simp [hlen, h3]
  have h4 := flat_at xs (j / size) _ hl hx (j % size) _ hv
  have h5 : j / size * size + j % size = j := by rw [Nat.mul_comm]; exact Nat.div_add_mod j size
  rw [h5, hj] at h4
  have h6 := h (j / size) _ hx (j % size) _ hv
  rw [show o + j / size * size + j % size = o + j by omega] at h6
  rw [h6, ← h4]

theorem run_append_fresh {P : Program} {t ty E : TypeId} {size bytes : Nat} (he : Elem P t E size bytes) (h0 : 0 < size) (w : World) (g base : Nat) (hg : Box w g #[] E) (hb : base ≤ g) (xs : List (List Value)) (hl : ∀ x ∈ xs, x.length = size) (h1 : ∀ x ∈ xs, ∀ u ∈ x, u.oneCell' = true)
    (a : Option Addr) (c : Nat) (hr : RowAt w a size xs) (hn : xs.length ≤ 1000) (hby : bytes ≤ 1000) :
    ∃ v' w', (Builtin.append_ #[t, t] ty #[.slice (some ⟨g, 0, none⟩) 0 0, .slice a xs.length c]).run P w = .ok v' w' ∧ Below w.heap.size w w' ∧ Own w' base E size v' xs := by
  obtain ⟨i, z, hi, hz, i1, i2, i3⟩ := he.get
  have hglt := hg.lt
  have hown : w.ownsRow base E size (.slice (some ⟨g, 0, none⟩) 0 0) 0 [] := ⟨by simp, .inr ⟨g, 0, #[], rfl, hb, hg, Nat.le_refl _, Nat.zero_le _, by simp, by simp⟩⟩
  cases a with
  | none =>
    have hx : xs = [] := by
      rcases hr with h | ⟨b, o, h, _⟩
      · exact h
      · cases h
    subst hx
    refine ⟨.slice (some ⟨g, 0, none⟩) 0 0, w, ?_, Below.refl _ _, hown, by simp⟩
    simp [Builtin.append_, run_underlying he.ht, sizeOf, typeInfo, hi, Builtin.lenOf, Builtin.firstCells, loadCells, loadCellsFrom]
    rfl
  | some ad =>
    have hnews : ∀ j u, xs.flatten[j]? = some u → w.cell? (ad.add j) = some u := fun j u hj => by
      rcases hr with h | ⟨b, o, h, hC⟩
      · subst h; simp at hj
      · cases h
        rw [Addr.add_lit]
        exact flat_cells hC hl h0 j u hj
    have hfl : xs.flatten.length = xs.length * size := flat_length xs hl
    have h1' : ∀ u ∈ xs.flatten, u.oneCell' = true := fun u hu => by
      obtain ⟨x, hx, hux⟩ := List.mem_flatten.1 hu
      exact h1 x hx u hux
    have hbb : (0 + xs.length) * bytes ≤ 140737488355328 := by
      have : xs.length * bytes ≤ 1000 * 1000 := Nat.mul_le_mul hn hby
      rw [Nat.zero_add]; omega
    obtain ⟨v', w', hrun, ho, hgr, _, _⟩ := run_append_own_at (P := P) w base t ty E i z size bytes he.ht hi hz i1 i2 i3 h0 (.slice (some ⟨g, 0, none⟩) 0 0) 0 [] hown ad xs.length c xs.flatten hfl hnews h1' (by unfold maxLen; omega) hbb (by omega)
    refine ⟨v', w', hrun, ?_, by rw [Nat.zero_add, List.nil_append] at ho; exact ho, hl⟩
    refine ⟨hgr.os, hgr.tape, hgr.output, hgr.size, fun k hk => ?_⟩
    by_cases hkg : k = g
    · subst hkg
      by_cases hm : xs.length = 0
      · have hx : xs = [] := List.length_eq_zero_iff.1 hm
        subst hx
        have hr2 := run_append_room (P := P) w t ty E i he.ht hi k 0 0 #[] hg ad 0 c [] (by simp) (fun j u hj => by simp at hj) (fun u hu => by cases hu) (Nat.le_refl _) (by simp)
        rw [show ([] : List (List Value)).length = 0 from rfl, hr2] at hrun
        cases hrun
        rw [setRow_heap w k #[] _ E _ hg]
        simpa using hg.symm
      · have hr2 := run_append_grow (P := P) w t ty E i z he.ht hi hz ⟨k, 0, none⟩ 0 0 [] (by simp) (fun j u hj => by simp at hj) ad xs.length c xs.flatten (by rw [i1]; exact hfl) hnews (by omega) (by omega) (growslice_fits (by omega) (by rw [i2]; exact hbb))
        rw [hr2] at hrun
        cases hrun
        exact Below.heap_alloc w.drew _ k hk
    · exact hgr.block k hk (fun e => hkg (by simpa [Value.ownBlock] using e))

theorem gives_append {P : Program} {o : Oper} {A : Act} {t E : TypeId} {size bytes : Nat} (he : Elem P t E size bytes) (h0 : 0 < size) {x y : Operand} (ho : o.op = .call { callee := .builtin .append, args := #[x, y], argTypes := #[t, t] })
    (w : World) (g base : Nat) (hx : A.eval x = .slice (some ⟨g, 0, none⟩) 0 0) (hg : Box w g #[] E) (hb : base ≤ g) (xs : List (List Value)) (hl : ∀ x ∈ xs, x.length = size) (h1 : ∀ x ∈ xs, ∀ u ∈ x, u.oneCell' = true)
    (a : Option Addr) (n c : Nat) (hy : A.eval y = .slice a n c) (hnn : n = xs.length) (hr : RowAt w a size xs) (hn : xs.length ≤ 1000) (hby : bytes ≤ 1000) :
    Fat.gives P o A w fun v w' => Below w.heap.size w w' ∧ Own w' base E size v xs := by
  subst hnn
  obtain ⟨v', w', hrun, h2, h3⟩ := run_append_fresh (ty := o.type) he h0 w g base hg hb xs hl h1 a c hr hn hby
  unfold Fat.gives execOp
  simp only [ho, resolve, invoke, builtin, Sem.run_bind, Sem.run_pure, Result.andThen_ok, List.map_toArray, List.map_cons, List.map_nil, hx, hy, hrun]
  exact ⟨h2, h3⟩
/-- At the walk. -/
theorem wpList_fresh {P : Program} {ops : Array Oper} {rest : List Oper} {o : Oper} {a : Act} {W : World} {Q : Exit → Act → World → Prop} (hgd : o.guard = none) (s x : Operand) (t : TypeId)
    (ho : o.op = .call { callee := .builtin .append, args := #[s, x], argTypes := #[t, t] }) {E : TypeId} {size bytes : Nat} (he : Elem P t E size bytes) (h0 : 0 < size) {g base : Nat} (hs : a.eval s = .slice (some ⟨g, 0, none⟩) 0 0) (hg : Box W g #[] E) (hb : base ≤ g)
    (xs : List (List Value)) (hl : ∀ x ∈ xs, x.length = size) (h1 : ∀ x ∈ xs, ∀ u ∈ x, u.oneCell' = true) {ad : Option Addr} {n c : Nat} (hx : a.eval x = .slice ad n c) (hnn : n = xs.length) (hr : RowAt W ad size xs) (hn : xs.length ≤ 1000) (hby : bytes ≤ 1000)
    (h : ∀ v' W', Below W.heap.size W W' → Own W' base E size v' xs → wpList P ops Q rest (a.put o.dst v') W') : wpList P ops Q (o :: rest) a W := by
  subst hnn
  obtain ⟨v', w', hrun, h2, h3⟩ := run_append_fresh (ty := o.type) he h0 W g base hg hb xs hl h1 ad c hr hn hby
  refine wpList_plain hgd fun _ hK => ?_
  unfold Oper.wp execOp
  simp only [ho, resolve, invoke, builtin, Sem.run_bind, Sem.run_pure, Result.andThen_ok, List.map_toArray, List.map_cons, List.map_nil, hs, hx, hrun]
  exact hK _ _ (h v' w' h2 h3)
/-- Onto the nil slice. -/
theorem run_append_nil {P : Program} {t ty E : TypeId} {size bytes : Nat} (he : Elem P t E size bytes) (h0 : 0 < size) (w : World) (xs : List (List Value)) (hl : ∀ x ∈ xs, x.length = size) (h1 : ∀ x ∈ xs, ∀ u ∈ x, u.oneCell' = true)
    (a : Option Addr) (c : Nat) (hr : RowAt w a size xs) (hn : xs.length ≤ 1000) (hby : bytes ≤ 1000) :
    ∃ v' w', (Builtin.append_ #[t, t] ty #[.slice none 0 0, .slice a xs.length c]).run P w = .ok v' w' ∧ Below w.heap.size w w' ∧ Own w' w.heap.size E size v' xs := by
  obtain ⟨i, z, hi, hz, i1, i2, i3⟩ := he.get
  cases a with
  | none =>
    have hx : xs = [] := by
      rcases hr with h | ⟨b, o, h, _⟩
      · exact h
      · cases h
    subst hx
    refine ⟨.slice none 0 0, w, ?_, Below.refl _ _, Own.nil _ _ _ _⟩
    simp [Builtin.append_, run_underlying he.ht, sizeOf, typeInfo, hi, Builtin.lenOf, Builtin.firstCells]
  | some ad =>
    have hnews : ∀ j u, xs.flatten[j]? = some u → w.cell? (ad.add j) = some u := fun j u hj => by
      rcases hr with h | ⟨b, o, h, hC⟩
      · subst h; simp at hj
      · cases h
        rw [Addr.add_lit]
        exact flat_cells hC hl h0 j u hj
    have hfl : xs.flatten.length = xs.length * size := flat_length xs hl
    have h1' : ∀ u ∈ xs.flatten, u.oneCell' = true := fun u hu => by
      obtain ⟨x, hx, hux⟩ := List.mem_flatten.1 hu
      exact h1 x hx u hux
    have hbb : (0 + xs.length) * bytes ≤ 140737488355328 := by
      have : xs.length * bytes ≤ 1000 * 1000 := Nat.mul_le_mul hn hby
      rw [Nat.zero_add]; omega
    obtain ⟨v', w', hrun, ho, hgr, _, _⟩ := run_append_own_at (P := P) w w.heap.size t ty E i z size bytes he.ht hi hz i1 i2 i3 h0 (.slice none 0 0) 0 [] (World.ownsRow_nil w w.heap.size E size) ad xs.length c xs.flatten hfl hnews h1' (by unfold maxLen; omega) hbb (by omega)
    exact ⟨v', w', hrun, below_grown hgr (Nat.le_refl _) (fun k hk => by cases hk), by rw [Nat.zero_add, List.nil_append] at ho; exact ho, hl⟩
theorem wpList_onto_nil {P : Program} {ops : Array Oper} {rest : List Oper} {o : Oper} {a : Act} {W : World} {Q : Exit → Act → World → Prop} (hgd : o.guard = none) (s x : Operand) (t : TypeId)
    (ho : o.op = .call { callee := .builtin .append, args := #[s, x], argTypes := #[t, t] }) {E : TypeId} {size bytes : Nat} (he : Elem P t E size bytes) (h0 : 0 < size) (hs : a.eval s = .slice none 0 0)
    (xs : List (List Value)) (hl : ∀ x ∈ xs, x.length = size) (h1 : ∀ x ∈ xs, ∀ u ∈ x, u.oneCell' = true) {ad : Option Addr} {n c : Nat} (hx : a.eval x = .slice ad n c) (hnn : n = xs.length) (hr : RowAt W ad size xs) (hn : xs.length ≤ 1000) (hby : bytes ≤ 1000)
    (h : ∀ v' W', Below W.heap.size W W' → Own W' W.heap.size E size v' xs → wpList P ops Q rest (a.put o.dst v') W') : wpList P ops Q (o :: rest) a W := by
  subst hnn
  obtain ⟨v', w', hrun, h2, h3⟩ := run_append_nil (ty := o.type) he h0 W xs hl h1 ad c hr hn hby
  refine wpList_plain hgd fun _ hK => ?_
  unfold Oper.wp execOp
  simp only [ho, resolve, invoke, builtin, Sem.run_bind, Sem.run_pure, Result.andThen_ok, List.map_toArray, List.map_cons, List.map_nil, hs, hx, hrun]
  exact hK _ _ (h v' w' h2 h3)
/-- A row appended to a row of the call's own. -/
theorem run_append_row {P : Program} {t ty E : TypeId} {size bytes : Nat} (he : Elem P t E size bytes) (h0 : 0 < size) (w : World) (base : Nat) (hbase : base ≤ w.heap.size) (v : Value) (xs : List (List Value)) (hown : Own w base E size v xs) (ys : List (List Value)) (hl : ∀ x ∈ ys, x.length = size) (h1 : ∀ x ∈ ys, ∀ u ∈ x, u.oneCell' = true)
    (a : Option Addr) (c : Nat) (hr : RowAt w a size ys) (hn : xs.length + ys.length ≤ 1000) (hby : bytes ≤ 1000) :
    ∃ v' w', (Builtin.append_ #[t, t] ty #[v, .slice a ys.length c]).run P w = .ok v' w' ∧ Below base w w' ∧ w.grownBy w' v.ownBlock ∧ Own w' base E size v' (xs ++ ys) := by
  obtain ⟨i, z, hi, hz, i1, i2, i3⟩ := he.get
  cases a with
  | none =>
    have hx : ys = [] := by
      rcases hr with h | ⟨b, o, h, _⟩
      · exact h
      · cases h
    subst hx
    obtain ⟨a', c', rfl, hle, _⟩ := hown.row
    refine ⟨_, w, ?_, Below.refl _ _, World.grownBy.refl _ _, by rw [List.append_nil]; exact hown⟩
    simp [Builtin.append_, run_underlying he.ht, sizeOf, typeInfo, hi, Builtin.lenOf, Builtin.firstCells]
    rw [if_pos hle]
    cases a' <;> rfl
  | some ad =>
    have hnews : ∀ j u, ys.flatten[j]? = some u → w.cell? (ad.add j) = some u := fun j u hj => by
      rcases hr with h | ⟨b, o, h, hC⟩
      · subst h; simp at hj
      · cases h
        rw [Addr.add_lit]
        exact flat_cells hC hl h0 j u hj
    have hfl : ys.flatten.length = ys.length * size := flat_length ys hl
    have h1' : ∀ u ∈ ys.flatten, u.oneCell' = true := fun u hu => by
      obtain ⟨x, hx, hux⟩ := List.mem_flatten.1 hu
      exact h1 x hx u hux
    have hbb : (xs.length + ys.length) * bytes ≤ 140737488355328 := by
      have : (xs.length + ys.length) * bytes ≤ 1000 * 1000 := Nat.mul_le_mul hn hby
      omega
    obtain ⟨v', w', hrun, ho, hgr, _, _⟩ := run_append_own_at (P := P) w base t ty E i z size bytes he.ht hi hz i1 i2 i3 h0 v xs.length xs.flatten hown.1 ad ys.length c ys.flatten hfl hnews h1' (by unfold maxLen; omega) hbb hbase
    refine ⟨v', w', hrun, below_grown hgr hbase fun k hk => (hown.1.lt k hk).1, hgr, ?_, fun x hx => ?_⟩
    · rw [List.length_append, List.flatten_append]; exact ho
    · rcases List.mem_append.1 hx with hx | hx
      · exact hown.2 x hx
      · exact hl x hx
theorem wpList_append_row {P : Program} {ops : Array Oper} {rest : List Oper} {o : Oper} {a : Act} {W : World} {Q : Exit → Act → World → Prop} (hgd : o.guard = none) (s x : Operand) (t : TypeId)
    (ho : o.op = .call { callee := .builtin .append, args := #[s, x], argTypes := #[t, t] }) {E : TypeId} {size bytes : Nat} (he : Elem P t E size bytes) (h0 : 0 < size) {base : Nat} (hbase : base ≤ W.heap.size) {v : Value} {xs : List (List Value)} (hs : a.eval s = v) (hown : Own W base E size v xs)
    (ys : List (List Value)) (hl : ∀ x ∈ ys, x.length = size) (h1 : ∀ x ∈ ys, ∀ u ∈ x, u.oneCell' = true) {ad : Option Addr} {n c : Nat} (hx : a.eval x = .slice ad n c) (hnn : n = ys.length) (hr : RowAt W ad size ys) (hn : xs.length + ys.length ≤ 1000) (hby : bytes ≤ 1000)
    (h : ∀ v' W', Below base W W' → W.grownBy W' v.ownBlock → Own W' base E size v' (xs ++ ys) → wpList P ops Q rest (a.put o.dst v') W') : wpList P ops Q (o :: rest) a W := by
  subst hnn
  obtain ⟨v', w', hrun, h2, h3, h4⟩ := run_append_row (ty := o.type) he h0 W base hbase v xs hown ys hl h1 ad c hr hn hby
  refine wpList_plain hgd fun _ hK => ?_
  unfold Oper.wp execOp
  simp only [ho, resolve, invoke, builtin, Sem.run_bind, Sem.run_pure, Result.andThen_ok, List.map_toArray, List.map_cons, List.map_nil, hs, hx, hrun]
  exact hK _ _ (h v' w' h2 h3 h4)
/-- A row of numbers. -/
abbrev ivs (l : List Int) : List (List Value) := l.map fun n => [Value.int .i64 n]
theorem ivs_one (l : List Int) : ∀ x ∈ ivs l, x.length = 1 := by
  intro x hx
  obtain ⟨n, _, rfl⟩ := List.mem_map.1 hx
  rfl
theorem ivs_cell (l : List Int) : ∀ x ∈ ivs l, ∀ u ∈ x, u.oneCell' = true := by
  intro x hx u hu
  obtain ⟨n, _, rfl⟩ := List.mem_map.1 hx
  simp at hu; subst hu; rfl
/-- It returns a row of its own. -/
def RetRow (E : TypeId) (size : Nat) (xs : List (List Value)) (w : World) (e : Ending) (w' : World) : Prop :=
  ∃ v, e = .returned v ∧ Below w.heap.size w w' ∧ Own w' w.heap.size E size v xs
end Go.Proofs.YtingfmdbihbamaaGreat
end

section
/- Rows of the call's own: one cell set; what lies beside them. -/
open Go.RowKit
namespace Go.Proofs.YtingfmdbihbamaaGreat

theorem own_cells2 {W : World} {base : Nat} {E : TypeId} {size : Nat} {v : Value} {xs : List (List Value)} (h : Own W base E size v xs) {k : Nat} (hk : v.ownBlock = some k) : ∃ cur, W.heap[k]? = some (.cells cur E (0, 0)) := by
  rcases h.1.2 with ⟨hv, _⟩ | ⟨g, cap, cur, hv, _, h3, _⟩
  · rw [hv] at hk; cases hk
  · rw [hv] at hk; cases hk; exact ⟨cur, h3⟩
theorem flatten_set {size j : Nat} {u : Value} (hj : j < size) : ∀ {xs : List (List Value)} {i : Nat} {x : List Value}, (∀ x ∈ xs, x.length = size) → xs[i]? = some x → (xs.set i (x.set j u)).flatten = xs.flatten.set (i * size + j) u
  | [], i, x, _, hx => by simp at hx
  | y :: ys, 0, x, hl, hx => by
    simp at hx; subst hx
    have : y.length = size := hl y (by simp)
    simp only [List.set_cons_zero, List.flatten_cons, Nat.zero_mul, Nat.zero_add]
    rw [List.set_append_left _ _ (by omega)]
  | y :: ys, i + 1, x, hl, hx => by
    have h1 : y.length = size := hl y (by simp)
    have h2 := flatten_set (u := u) hj (xs := ys) (i := i) (fun z hz => hl z (by simp [hz])) (by simpa using hx)
    simp only [List.set_cons_succ, List.flatten_cons]
    rw [h2, List.set_append_right _ _ (by rw [h1, Nat.add_mul]; omega)]
    congr 2
    rw [h1, Nat.add_mul]; omega

theorem Own.set {W : World} {base : Nat} {E : TypeId} {size g n c i j : Nat} {xs : List (List Value)} {x : List Value} (h : Own W base E size (.slice (some ⟨g, 0, none⟩) n c) xs) (hx : xs[i]? = some x) (hj : j < size) (u : Value) :
    Own (W.setCell ⟨g, i * size + j, none⟩ u) base E size (.slice (some ⟨g, 0, none⟩) n c) (xs.set i (x.set j u)) := by
  obtain ⟨⟨h0, h1⟩, h2⟩ := h
  have hxm : x ∈ xs := List.mem_of_getElem? hx
  have hi : i < xs.length := (List.getElem?_eq_some_iff.1 hx).1
  have hlen : ∀ y ∈ xs.set i (x.set j u), y.length = size := fun y hy => by
    rcases List.mem_or_eq_of_mem_set hy with hy | rfl
    · exact h2 y hy
    · rw [List.length_set]; exact h2 x hxm
  rcases h1 with ⟨hv, _⟩ | ⟨g', cap, cur, hv, hb, hg, hle, hm, hs, ht⟩
  · cases hv
  · cases hv
    refine ⟨?_, hlen⟩
    rw [List.length_set, flatten_set hj h2 hx]
    refine ⟨by rw [List.length_set]; exact h0, .inr ⟨g, c, cur.setIfInBounds (i * size + j) u, rfl, hb, setCell_box (show Box W g cur E from hg) _ u, hle, hm, by simpa using hs, ?_⟩⟩
    rw [Array.toList_setIfInBounds, List.take_set, ht]

/-! ### The land -/
theorem Own.other {W W' : World} {n0 g : Nat} {v : Value} {cur : Array Value} {E E' : TypeId} {size : Nat} {xs : List (List Value)} (h : Own W n0 E' size v xs) (hB : Box W g cur E) (h1 : E ≠ E') (hb : But g W W') : Own W' n0 E' size v xs :=
  h.turn fun k hk => hb.block k fun e => by
    obtain ⟨c, hc⟩ := own_cells2 h hk
    rw [e, show W.heap[g]? = _ from hB] at hc
    cases hc; exact h1 rfl
theorem own_row {W : World} {base : Nat} {E : TypeId} {size n c : Nat} {a : Option Addr} {xs : List (List Value)} (h : Own W base E size (.slice a n c) xs) (hn : 0 < n) : ∃ g cur, a = some ⟨g, 0, none⟩ ∧ base ≤ g ∧ Box W g cur E ∧ Cells W g 0 size xs := by
  have hrow := h.rowAt.2.2
  rcases h.1.2 with ⟨hv, _⟩ | ⟨g, cap, cur, hv, hb, hg, _⟩
  · injection hv with e1 e2 e3; omega
  · injection hv with e1 e2 e3
    subst e1
    refine ⟨g, cur, rfl, hb, hg, ?_⟩
    rcases hrow with h0 | ⟨b, o, e, hC⟩
    · subst h0; intro i x hx; simp at hx
    · cases e; exact hC
theorem own_ne {W : World} {base g : Nat} {E T : TypeId} {size : Nat} {v : Value} {xs : List (List Value)} {cs : Array Value} (h : Own W base E size v xs) (hB : Box W g cs T) (hne : T ≠ E) : v.ownBlock ≠ some g := fun e => by
  obtain ⟨c, hc⟩ := own_cells2 h e
  rw [show W.heap[g]? = _ from hB] at hc
  cases hc; exact hne rfl

def ownSpec (n0 : Nat) (E : TypeId) (size : Nat) (xs : List (List Value)) : Fat.Spec := fun v _ _ w => Own w n0 E size v xs
def oneOwnSpec (T : TypeId) (n0 : Nat) (E : TypeId) (size : Nat) (xs : List (List Value)) : Fat.Spec := fun v lo hi w => v = .slice (some ⟨lo, 0, none⟩) 1 1 ∧ lo < hi ∧ ∃ u, Box w lo #[u] T ∧ Own w n0 E size u xs
theorem ownSpec_lasting (n0 : Nat) (E : TypeId) (size : Nat) (xs : List (List Value)) : Fat.Lasting (ownSpec n0 E size xs) := fun _ _ _ _ _ hb _ h => Own.later h hb
theorem oneOwnSpec_lasting (T : TypeId) (n0 : Nat) (E : TypeId) (size : Nat) (xs : List (List Value)) : Fat.Lasting (oneOwnSpec T n0 E size xs) := fun _ _ _ _ _ hb _ h =>
  ⟨h.1, h.2.1, let ⟨u, h1, h2⟩ := h.2.2; ⟨u, h1.later hb, h2.later hb⟩⟩
theorem oneOwnSpec_new {w : World} (T : TypeId) {n0 : Nat} {E : TypeId} {size : Nat} {xs : List (List Value)} {u : Value} (h : Own w n0 E size u xs) :
    Below w.heap.size w (w.alloc (.cells #[u] T)) ∧ oneOwnSpec T n0 E size xs (.slice (some ⟨w.heap.size, 0, none⟩) 1 1) w.heap.size (w.heap.size + 1) (w.alloc (.cells #[u] T)) :=
  ⟨al (Below.refl _ _) _, rfl, by simp, u, Box.new w _ T, h.later (al (Below.refl _ _) _)⟩

/-- A struct whose k-th part is a row of the call's own. -/
def aggSpec (f : Value → Value) (n0 : Nat) (E : TypeId) (size : Nat) (xs : List (List Value)) : Fat.Spec := fun v _ _ w => ∃ u, v = f u ∧ Own w n0 E size u xs
theorem aggSpec_lasting (f : Value → Value) (n0 : Nat) (E : TypeId) (size : Nat) (xs : List (List Value)) : Fat.Lasting (aggSpec f n0 E size xs) := fun _ _ _ _ _ hb _ ⟨u, h1, h2⟩ => ⟨u, h1, h2.later hb⟩
theorem take_map_succ {α β : Type} {l : List α} {f : α → β} {k : Nat} {x : α} (h : l[k]? = some x) : (l.take (k + 1)).map f = (l.take k).map f ++ [f x] := by
  rw [List.take_add_one, h]; simp
/-- A row of one element, just built. -/
theorem own_one {W : World} {g base : Nat} {E : TypeId} {u : Value} (hB : Box W g #[u] E) (hb : base ≤ g) : Own W base E 1 (.slice (some ⟨g, 0, none⟩) 1 1) [[u]] :=
  ⟨⟨by simp, .inr ⟨g, 1, #[u], rfl, hb, hB, Nat.le_refl _, by unfold maxLen; omega, by simp, by simp⟩⟩, by simp⟩
end Go.Proofs.YtingfmdbihbamaaGreat
end

section
/- What a step leaves alone: all blocks of elements of a type. Rows of the call's own, one longer. -/
open Go.RowKit
namespace Go.Proofs.YtingfmdbihbamaaGreat

/-! ### What a step leaves alone: all blocks of elements of a type -/
def KeepT (E : TypeId) (W W' : World) : Prop := ∀ (k : Nat) (cur : Array Value), W.heap[k]? = some (Obj.cells cur E (0, 0)) → W'.heap[k]? = W.heap[k]?
section
variable {W W' : World} {E T : TypeId} {base size g : Nat} {v : Value} {xs : List (List Value)} {cur : Array Value}
theorem KeepT.later (hb : Below W.heap.size W W') : KeepT E W W' := fun k _ h => hb.block k (by
  obtain ⟨h1, _⟩ := Array.getElem?_eq_some_iff.1 h; exact h1)
theorem KeepT.but (hB : Box W g cur T) (hne : T ≠ E) (hb : But g W W') : KeepT E W W' := fun k c h => hb.block k fun e => by
  rw [e, show W.heap[g]? = _ from hB] at h; cases h; exact hne rfl
theorem KeepT.grown (h1 : Own W base T size v xs) (hne : T ≠ E) (hg : W.grownBy W' v.ownBlock) : KeepT E W W' := fun k c h => hg.block k (by
  obtain ⟨h1, _⟩ := Array.getElem?_eq_some_iff.1 h; exact h1) fun he => by
  obtain ⟨c', hc⟩ := own_cells2 h1 he.symm
  rw [h] at hc; cases hc; exact hne rfl
theorem KeepT.trans {W'' : World} (h1 : KeepT E W W') (h2 : KeepT E W' W'') : KeepT E W W'' := fun k c h => by
  have e := h1 k c h
  exact (h2 k c (e.trans h)).trans e
theorem Own.keep (h : Own W base E size v xs) (hk : KeepT E W W') : Own W' base E size v xs := h.turn fun k hk' => by
  obtain ⟨c, hc⟩ := own_cells2 h hk'
  exact hk k c hc
theorem Box.keep (h : Box W g cur E) (hk : KeepT E W W') : Box W' g cur E := (hk g cur h).trans h
end

theorem own_snoc {W W' : World} {base m : Nat} {E : TypeId} {size : Nat} {v v' : Value} {xs : List (List Value)} {ys : List Value} (h : Own W base E size v xs) (hm : xs.length = m) (h2 : W'.ownsRow base E size v' (m + 1) (xs.flatten ++ ys)) (hl : ys.length = size) : Own W' base E size v' (xs ++ [ys]) := by
  subst hm
  refine ⟨by simpa using h2, fun y hy => ?_⟩
  rcases List.mem_append.1 hy with hy | hy
  · exact h.2 y hy
  · simp at hy; subst hy; exact hl
theorem own_rows {W : World} {base m : Nat} {E : TypeId} {size : Nat} {v : Value} {xs : List (List Value)} (h : Own W base E size v xs) (hm : xs.length = m) : W.ownsRow base E size v m xs.flatten := by
  subst hm; exact h.1
end Go.Proofs.YtingfmdbihbamaaGreat
end
