/- Rows of the call's own: one cell set; what lies beside them. -/
import Derived.Test.YtbphpeoddifkfaaApp0
open Go.RowKit
namespace Go.Proofs.Ytbphpeoddifkfaa

theorem own_cells2 {W : World} {base : Nat} {E : TypeId} {size : Nat} {v : Value} {xs : List (List Value)} (h : Own W base E size v xs) {k : Nat} (hk : v.ownBlock = some k) : ∃ cur, W.heap[k]? = some (.cells cur E (0, 0)) := by
  rcases h.1.2 with ⟨hv, _⟩ | ⟨g, cap, cur, hv, _, h3, _⟩
  · rw [hv] at hk; cases hk
  · rw [hv] at hk; cases hk; exact ⟨cur, h3⟩
theorem flatten_set {size j : Nat} {u : Value} (hj : j < size) : ∀ {xs : List (List Value)} {i : Nat} {x : List Value}, (∀ x ∈ xs, x.length = size) → xs[i]? = some x → (xs.set i (x.set j u)).flatten = xs.flatten.set (i * size + j) u
  | [], i, x, _, hx => by simp at hx
  | y :: ys, 0, x, hl, hx => by
    simp at hx; subst hx
    have : y.length = size := hl y (by simp)
    simp only [List.set_cons_zero, List.flatten_cons, Nat.zero_mul, Nat.zero_add]
    rw [List.set_append_left _ _ (by omega)]
  | y :: ys, i + 1, x, hl, hx => by
    have h1 : y.length = size := hl y (by simp)
    have h2 := flatten_set (u := u) hj (xs := ys) (i := i) (fun z hz => hl z (by simp [hz])) (by simpa using hx)
    simp only [List.set_cons_succ, List.flatten_cons]
    rw [h2, List.set_append_right _ _ (by rw [h1, Nat.add_mul]; omega)]
    congr 2
    rw [h1, Nat.add_mul]; omega

theorem Own.set {W : World} {base : Nat} {E : TypeId} {size g n c i j : Nat} {xs : List (List Value)} {x : List Value} (h : Own W base E size (.slice (some ⟨g, 0, none⟩) n c) xs) (hx : xs[i]? = some x) (hj : j < size) (u : Value) :
    Own (W.setCell ⟨g, i * size + j, none⟩ u) base E size (.slice (some ⟨g, 0, none⟩) n c) (xs.set i (x.set j u)) := by
  obtain ⟨⟨h0, h1⟩, h2⟩ := h
  have hxm : x ∈ xs := List.mem_of_getElem? hx
  have hi : i < xs.length := (List.getElem?_eq_some_iff.1 hx).1
  have hlen : ∀ y ∈ xs.set i (x.set j u), y.length = size := fun y hy => by
    rcases List.mem_or_eq_of_mem_set hy with hy | rfl
    · exact h2 y hy
    · rw [List.length_set]; exact h2 x hxm
  rcases h1 with ⟨hv, _⟩ | ⟨g', cap, cur, hv, hb, hg, hle, hm, hs, ht⟩
  · cases hv
  · cases hv
    refine ⟨?_, hlen⟩
    rw [List.length_set, flatten_set hj h2 hx]
    refine ⟨by rw [List.length_set]; exact h0, .inr ⟨g, c, cur.setIfInBounds (i * size + j) u, rfl, hb, setCell_box (show Box W g cur E from hg) _ u, hle, hm, by simpa using hs, ?_⟩⟩
    rw [Array.toList_setIfInBounds, List.take_set, ht]

/-! ### The land -/
theorem Own.other {W W' : World} {n0 g : Nat} {v : Value} {cur : Array Value} {E E' : TypeId} {size : Nat} {xs : List (List Value)} (h : Own W n0 E' size v xs) (hB : Box W g cur E) (h1 : E ≠ E') (hb : But g W W') : Own W' n0 E' size v xs :=
  h.turn fun k hk => hb.block k fun e => by
    obtain ⟨c, hc⟩ := own_cells2 h hk
    rw [e, show W.heap[g]? = _ from hB] at hc
    cases hc; exact h1 rfl
theorem own_row {W : World} {base : Nat} {E : TypeId} {size n c : Nat} {a : Option Addr} {xs : List (List Value)} (h : Own W base E size (.slice a n c) xs) (hn : 0 < n) : ∃ g cur, a = some ⟨g, 0, none⟩ ∧ base ≤ g ∧ Box W g cur E ∧ Cells W g 0 size xs := by
  have hrow := h.rowAt.2.2
  rcases h.1.2 with ⟨hv, _⟩ | ⟨g, cap, cur, hv, hb, hg, _⟩
  · injection hv with e1 e2 e3; omega
  · injection hv with e1 e2 e3
    subst e1
    refine ⟨g, cur, rfl, hb, hg, ?_⟩
    rcases hrow with h0 | ⟨b, o, e, hC⟩
    · subst h0; intro i x hx; simp at hx
    · cases e; exact hC
theorem own_ne {W : World} {base g : Nat} {E T : TypeId} {size : Nat} {v : Value} {xs : List (List Value)} {cs : Array Value} (h : Own W base E size v xs) (hB : Box W g cs T) (hne : T ≠ E) : v.ownBlock ≠ some g := fun e => by
  obtain ⟨c, hc⟩ := own_cells2 h e
  rw [show W.heap[g]? = _ from hB] at hc
  cases hc; exact hne rfl

def ownSpec (n0 : Nat) (E : TypeId) (size : Nat) (xs : List (List Value)) : Fat.Spec := fun v _ _ w => Own w n0 E size v xs
def oneOwnSpec (T : TypeId) (n0 : Nat) (E : TypeId) (size : Nat) (xs : List (List Value)) : Fat.Spec := fun v lo hi w => v = .slice (some ⟨lo, 0, none⟩) 1 1 ∧ lo < hi ∧ ∃ u, Box w lo #[u] T ∧ Own w n0 E size u xs
theorem ownSpec_lasting (n0 : Nat) (E : TypeId) (size : Nat) (xs : List (List Value)) : Fat.Lasting (ownSpec n0 E size xs) := fun _ _ _ _ _ hb _ h => Own.later h hb
theorem oneOwnSpec_lasting (T : TypeId) (n0 : Nat) (E : TypeId) (size : Nat) (xs : List (List Value)) : Fat.Lasting (oneOwnSpec T n0 E size xs) := fun _ _ _ _ _ hb _ h =>
  ⟨h.1, h.2.1, let ⟨u, h1, h2⟩ := h.2.2; ⟨u, h1.later hb, h2.later hb⟩⟩
theorem oneOwnSpec_new {w : World} (T : TypeId) {n0 : Nat} {E : TypeId} {size : Nat} {xs : List (List Value)} {u : Value} (h : Own w n0 E size u xs) :
    Below w.heap.size w (w.alloc (.cells #[u] T)) ∧ oneOwnSpec T n0 E size xs (.slice (some ⟨w.heap.size, 0, none⟩) 1 1) w.heap.size (w.heap.size + 1) (w.alloc (.cells #[u] T)) :=
  ⟨al (Below.refl _ _) _, rfl, by simp, u, Box.new w _ T, h.later (al (Below.refl _ _) _)⟩

/-- A struct whose k-th part is a row of the call's own. -/
def aggSpec (f : Value → Value) (n0 : Nat) (E : TypeId) (size : Nat) (xs : List (List Value)) : Fat.Spec := fun v _ _ w => ∃ u, v = f u ∧ Own w n0 E size u xs
theorem aggSpec_lasting (f : Value → Value) (n0 : Nat) (E : TypeId) (size : Nat) (xs : List (List Value)) : Fat.Lasting (aggSpec f n0 E size xs) := fun _ _ _ _ _ hb _ ⟨u, h1, h2⟩ => ⟨u, h1, h2.later hb⟩
theorem take_map_succ {α β : Type} {l : List α} {f : α → β} {k : Nat} {x : α} (h : l[k]? = some x) : (l.take (k + 1)).map f = (l.take k).map f ++ [f x] := by
  rw [List.take_add_one, h]; simp
/-- A row of one element, just built. -/
theorem own_one {W : World} {g base : Nat} {E : TypeId} {u : Value} (hB : Box W g #[u] E) (hb : base ≤ g) : Own W base E 1 (.slice (some ⟨g, 0, none⟩) 1 1) [[u]] :=
  ⟨⟨by simp, .inr ⟨g, 1, #[u], rfl, hb, hB, Nat.le_refl _, by unfold maxLen; omega, by simp, by simp⟩⟩, by simp⟩
end Go.Proofs.Ytbphpeoddifkfaa
