/- Rows cut in two and laid together (for the main seat of layer 3). -/
import Derived.Test.YtfihdaoakfdlpaaWD
import Derived.Test.YtfihdaoakfdlpaaGen0
import Derived.Maps.AppendAt
open Go.RowKit
namespace Go.Proofs.Ytfihdaoakfdlpaa
open Go.Hill

theorem elem_rst : Elem Try.prog 22 77 4 32 := ⟨by kernel_rfl, by kernel_rfl⟩
theorem elem_rwl : Elem Try.prog 23 52 6 48 := ⟨by kernel_rfl, by kernel_rfl⟩
theorem elem_rcd : Elem Try.prog 53 55 8 64 := ⟨by kernel_rfl, by kernel_rfl⟩
theorem elem_rcs : Elem Try.prog 24 53 1 24 := ⟨by kernel_rfl, by kernel_rfl⟩
def emptySpec (E : TypeId) : Fat.Spec := fun v lo hi w => v = .slice (some ⟨lo, 0, none⟩) 0 0 ∧ lo < hi ∧ Box w lo #[] E
theorem emptySpec_lasting (E : TypeId) : Fat.Lasting (emptySpec E) := fun _ _ _ _ _ hb _ h => ⟨h.1, h.2.1, h.2.2.later hb⟩
theorem emptySpec_new (E : TypeId) (w : World) : Below w.heap.size w (w.alloc (.cells #[] E)) ∧ emptySpec E (.slice (some ⟨w.heap.size, 0, none⟩) 0 0) w.heap.size (w.heap.size + 1) (w.alloc (.cells #[] E)) :=
  ⟨al (Below.refl _ _) _, rfl, by simp, Box.new w _ E⟩
theorem nameAny {p : World → Prop} {w : World} (h : ∀ W, W = w → p W) : p w := h w rfl
theorem vs_st (l : List Stn) : (∀ x ∈ l.map Stn.vs, x.length = 4) ∧ ∀ x ∈ l.map Stn.vs, ∀ u ∈ x, u.oneCell' = true := by
  constructor
  · intro x hx; obtain ⟨s, _, rfl⟩ := List.mem_map.1 hx; rfl
  · intro x hx u hu; obtain ⟨s, _, rfl⟩ := List.mem_map.1 hx; simp [Stn.vs] at hu; rcases hu with rfl | rfl | rfl | rfl <;> rfl
theorem vs_wl (l : List Wl) : (∀ x ∈ l.map Wl.vs, x.length = 6) ∧ ∀ x ∈ l.map Wl.vs, ∀ u ∈ x, u.oneCell' = true := by
  constructor
  · intro x hx; obtain ⟨s, _, rfl⟩ := List.mem_map.1 hx; rfl
  · intro x hx u hu; obtain ⟨s, _, rfl⟩ := List.mem_map.1 hx; simp [Wl.vs] at hu; rcases hu with rfl | rfl | rfl | rfl | rfl | rfl <;> rfl
theorem vs_sn (l : List Sn) : (∀ x ∈ l.map Sn.vs, x.length = 3) ∧ ∀ x ∈ l.map Sn.vs, ∀ u ∈ x, u.oneCell' = true := by
  constructor
  · intro x hx; obtain ⟨s, _, rfl⟩ := List.mem_map.1 hx; rfl
  · intro x hx u hu; obtain ⟨s, _, rfl⟩ := List.mem_map.1 hx; simp [Sn.vs] at hu; rcases hu with rfl | rfl | rfl <;> rfl
theorem vs_cd (l : List Cd) : (∀ x ∈ l.map Cd.vs, x.length = 8) ∧ ∀ x ∈ l.map Cd.vs, ∀ u ∈ x, u.oneCell' = true := by
  constructor
  · intro x hx; obtain ⟨s, _, rfl⟩ := List.mem_map.1 hx; rfl
  · intro x hx u hu; obtain ⟨s, _, rfl⟩ := List.mem_map.1 hx; simp [Cd.vs] at hu; rcases hu with rfl | rfl | rfl | rfl | rfl | rfl | rfl | rfl <;> rfl

theorem Cells.drop {W : World} {b o size : Nat} {xs : List (List Value)} (h : Cells W b o size xs) (k : Nat) : Cells W b (o + k * size) size (xs.drop k) := fun i x hx j v hv => by
  rw [List.getElem?_drop] at hx
  have := h (k + i) x hx j v hv
  rwa [Nat.add_mul, ← Nat.add_assoc] at this
theorem Cells.take {W : World} {b o size : Nat} {xs : List (List Value)} (h : Cells W b o size xs) (k : Nat) : Cells W b o size (xs.take k) := fun i x hx j v hv => by
  rw [List.getElem?_take] at hx
  split at hx
  · exact h i x hx j v hv
  · cases hx
theorem wpList_growAll {P : Program} {ops : Array Oper} {rest : List Oper} {o : Oper} {a : Act} {W : World} {Q : Exit → Act → World → Prop} (hgd : o.guard = none) (s x : Operand) (t : TypeId)
    (ho : o.op = .call { callee := .builtin .append, args := #[s, x], argTypes := #[t, t] })
    {base : Nat} {E : TypeId} {size bytes : Nat} (he : Elem P t E size bytes) (h0 : 0 < size) {v : Value} {xs : List (List Value)} (hs : a.eval s = v) (hown : Own W base E size v xs)
    {b p m c : Nat} {ys : List (List Value)} (hx : a.eval x = .slice (some ⟨b, p, none⟩) m c) (hm : ys.length = m) (hr : Cells W b p size ys) (hl : ∀ y ∈ ys, y.length = size) (h1 : ∀ y ∈ ys, ∀ u ∈ y, u.oneCell' = true)
    (hn : xs.length ≤ 1000) (hn2 : m ≤ 1000) (hby : bytes ≤ 1000) (hbase : base ≤ W.heap.size)
    (h : ∀ a' c' W', Own W' base E size (.slice a' (xs.length + m) c') (xs ++ ys) → Below base W W' → W.grownBy W' v.ownBlock → wpList P ops Q rest (a.put o.dst (.slice a' (xs.length + m) c')) W') : wpList P ops Q (o :: rest) a W := by
  subst hm
  obtain ⟨i, z, hi, hz, i1, i2, i3⟩ := he.get
  refine wpList_append_own_at W hgd s x t ho base E i z size bytes he.ht hi hz i1 i2 i3 h0 v xs.length xs.flatten hs hown.1 ⟨b, p, none⟩ ys.length c ys.flatten hx (flat_length ys hl) (fun j u hj => by rw [Addr.add_lit]; exact flat_cells hr hl h0 j u hj) (fun u hu => ?_) (by unfold maxLen; omega) ?_ hbase ?_
  · obtain ⟨y, hy, huy⟩ := List.mem_flatten.1 hu
    exact h1 y hy u huy
  · have : (xs.length + ys.length) * bytes ≤ 2000 * 1000 := Nat.mul_le_mul (by omega) hby
    omega
  · intro v' w' h2 h3 _ _
    have hO : Own w' base E size v' (xs ++ ys) := ⟨by rw [List.length_append, List.flatten_append]; exact h2, fun y hy => by
      rcases List.mem_append.1 hy with hy | hy
      · exact hown.2 y hy
      · exact hl y hy⟩
    obtain ⟨a', c', e, _, _⟩ := hO.row
    rw [List.length_append] at e
    subst e
    exact h a' c' w' hO (below_grown h3 hbase fun k hk => (hown.1.lt k hk).1) h3
end Go.Proofs.Ytfihdaoakfdlpaa
