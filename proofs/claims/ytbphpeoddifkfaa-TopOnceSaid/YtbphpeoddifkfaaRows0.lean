/- Rows in memory; lists. -/
import Derived.Test.YtbphpeoddifkfaaBase0
open Go.RowKit
namespace Go.Proofs.Ytbphpeoddifkfaa

/-- The cells of a row of elements of 'size' cells each. -/
def Cells (W : World) (b o size : Nat) (xs : List (List Value)) : Prop := ∀ i x, xs[i]? = some x → ∀ j v, x[j]? = some v → W.cell? ⟨b, o + i * size + j, none⟩ = some v
theorem Cells.later {W W' : World} {b o size : Nat} {xs : List (List Value)} (h : Cells W b o size xs) (hb : Below W.heap.size W W') : Cells W' b o size xs :=
  fun i x hx j v hv => by
    have := h i x hx j v hv
    rw [hb.cell (block_lt_of_cell this)]; exact this
/-- A slice's address, its elements told. -/
def RowAt (W : World) (a : Option Addr) (size : Nat) (xs : List (List Value)) : Prop := xs = [] ∨ ∃ b o, a = some ⟨b, o, none⟩ ∧ Cells W b o size xs
theorem RowAt.later {W W' : World} {a : Option Addr} {size : Nat} {xs : List (List Value)} (h : RowAt W a size xs) (hb : Below W.heap.size W W') : RowAt W' a size xs := by
  rcases h with h | ⟨b, o, h1, h2⟩
  · exact .inl h
  · exact .inr ⟨b, o, h1, h2.later hb⟩
theorem RowAt.at {α : Type} {W : World} {a : Option Addr} {size : Nat} {l : List α} {f : α → List Value} {k : Nat} (h : RowAt W a size (l.map f)) (hk : k < l.length) :
    ∃ b o, a = some ⟨b, o, none⟩ ∧ Cells W b o size (l.map f) := by
  rcases h with h | h
  · simp at h; subst h; simp at hk
  · exact h

section
variable {W : World} {b o k : Nat}
theorem cells_one {α : Type} {f : α → Value} {l : List α} {x : α} (h : Cells W b o 1 (l.map fun v => [f v])) (hx : l[k]? = some x) : W.cell? ⟨b, o + k, none⟩ = some (f x) := by
  have := h k [f x] (by simp [hx]) 0 (f x) rfl
  simpa using this
end

abbrev IntsAt (W : World) (a : Option Addr) (l : List Int) : Prop := RowAt W a 1 (l.map fun n => [Value.int .i64 n])

/-! ### Lists: the first that passes -/
def idxI {α : Type} (p : α → Bool) (l : List α) : Int := match l.findIdx? p with | some i => i | none => -1
theorem idxI_some {α : Type} {p : α → Bool} {l : List α} {k : Nat} {x : α} (hx : l[k]? = some x) (hp : p x = true) (hno : ∀ j y, j < k → l[j]? = some y → p y = false) : idxI p l = k := by
  have : l.findIdx? p = some k := by
    rw [List.findIdx?_eq_some_iff_getElem]
    obtain ⟨hk, rfl⟩ := List.getElem?_eq_some_iff.1 hx
    exact ⟨hk, hp, fun j hj => by have := hno j l[j] hj (by simp); simpa using this⟩
  simp [idxI, this]
theorem idxI_none {α : Type} {p : α → Bool} {l : List α} (hno : ∀ j y, j < l.length → l[j]? = some y → p y = false) : idxI p l = -1 := by
  have : l.findIdx? p = none := by
    rw [List.findIdx?_eq_none_iff]
    intro x hx
    obtain ⟨j, hj, rfl⟩ := List.getElem_of_mem hx
    exact hno j _ hj (by simp)
  simp [idxI, this]
theorem idxI_any {α : Type} (p : α → Bool) (l : List α) : decide (0 ≤ idxI p l) = l.any p := by
  unfold idxI
  cases h : l.findIdx? p with
  | none => rw [List.findIdx?_eq_none_iff] at h; simp; exact h
  | some i =>
    rw [List.findIdx?_eq_some_iff_getElem] at h
    obtain ⟨hi, hp, _⟩ := h
    have : l.any p = true := List.any_eq_true.2 ⟨l[i], List.getElem_mem hi, hp⟩
    rw [this]; simp
theorem idxI_bd {α : Type} (p : α → Bool) (l : List α) : -1 ≤ idxI p l ∧ idxI p l ≤ l.length := by
  unfold idxI
  cases h : l.findIdx? p with
  | none => simp
  | some i => rw [List.findIdx?_eq_some_iff_getElem] at h; obtain ⟨hi, _⟩ := h; simp; omega
theorem not_any_not {α : Type} (p : α → Bool) (l : List α) : (!l.any fun x => !p x) = l.all p := by
  induction l with
  | nil => rfl
  | cons x l ih => simp only [List.any_cons, List.all_cons, Bool.not_or, Bool.not_not, ih]
end Go.Proofs.Ytbphpeoddifkfaa
