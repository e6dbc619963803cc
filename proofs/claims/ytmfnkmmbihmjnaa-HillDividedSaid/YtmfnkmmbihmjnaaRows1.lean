/- Layer 1: rows of structs in memory, and lands. -/
import Derived.Test.YtmfnkmmbihmjnaaW3
open Go.RowKit
namespace Go.Proofs.Ytmfnkmmbihmjnaa
open Go.Hill

/-- The cells of a row of elements of 'size' cells each. -/
def Cells (W : World) (b o size : Nat) (xs : List (List Value)) : Prop := ∀ i x, xs[i]? = some x → ∀ j v, x[j]? = some v → W.cell? ⟨b, o + i * size + j, none⟩ = some v
theorem Cells.later {W W' : World} {b o size : Nat} {xs : List (List Value)} (h : Cells W b o size xs) (hb : Below W.heap.size W W') : Cells W' b o size xs :=
  fun i x hx j v hv => by
    have := h i x hx j v hv
    rw [hb.cell (block_lt_of_cell this)]; exact this
/-- A slice's address, its elements told. -/
def RowAt (W : World) (a : Option Addr) (size : Nat) (xs : List (List Value)) : Prop := xs = [] ∨ ∃ b o, a = some ⟨b, o, none⟩ ∧ Cells W b o size xs
theorem RowAt.later {W W' : World} {a : Option Addr} {size : Nat} {xs : List (List Value)} (h : RowAt W a size xs) (hb : Below W.heap.size W W') : RowAt W' a size xs := by
  rcases h with h | ⟨b, o, h1, h2⟩
  · exact .inl h
  · exact .inr ⟨b, o, h1, h2.later hb⟩
theorem RowAt.at {α : Type} {W : World} {a : Option Addr} {size : Nat} {l : List α} {f : α → List Value} {k : Nat} (h : RowAt W a size (l.map f)) (hk : k < l.length) :
    ∃ b o, a = some ⟨b, o, none⟩ ∧ Cells W b o size (l.map f) := by
  rcases h with h | h
  · simp at h; subst h; simp at hk
  · exact h

/-- A case: its slice. -/
structure CV where
  a : Option Addr
  c : Nat
  cs : List Cd
def CasesAt (W : World) (a : Option Addr) (css : List (List Cd)) : Prop :=
  ∃ l : List CV, l.map (·.cs) = css ∧ RowAt W a 1 (l.map fun x => [.slice x.a x.cs.length x.c]) ∧ ∀ x ∈ l, RowAt W x.a 8 (x.cs.map Cd.vs)
theorem CasesAt.later {W W' : World} {a : Option Addr} {css : List (List Cd)} (h : CasesAt W a css) (hb : Below W.heap.size W W') : CasesAt W' a css := by
  obtain ⟨l, h1, h2, h3⟩ := h
  exact ⟨l, h1, h2.later hb, fun x hx => (h3 x hx).later hb⟩

/-- The places of a land's four slices, and their capacities. -/
structure LV where
  a1 : Option Addr
  c1 : Nat
  a2 : Option Addr
  c2 : Nat
  a3 : Option Addr
  c3 : Nat
  a4 : Option Addr
  c4 : Nat
structure LandAt (W : World) (q : LV) (L : Land) : Prop where
  st : RowAt W q.a1 4 (L.st.map Stn.vs)
  rd : RowAt W q.a2 6 (L.rd.map Wl.vs)
  cs : CasesAt W q.a3 L.cs
  sn : RowAt W q.a4 3 (L.sn.map Sn.vs)
  k1 : L.st.length ≤ q.c1
  k2 : L.rd.length ≤ q.c2
  k3 : L.cs.length ≤ q.c3
  k4 : L.sn.length ≤ q.c4
theorem LandAt.later {W W' : World} {q : LV} {L : Land} (h : LandAt W q L) (hb : Below W.heap.size W W') : LandAt W' q L :=
  ⟨h.st.later hb, h.rd.later hb, h.cs.later hb, h.sn.later hb, h.k1, h.k2, h.k3, h.k4⟩

section
variable {W : World} {b o k : Nat}
theorem cells_wl {l : List Wl} {x : Wl} (h : Cells W b o 6 (l.map Wl.vs)) (hx : l[k]? = some x) :
    W.cell? ⟨b, o + k * 6, none⟩ = some (.int .i64 x.X1) ∧ W.cell? ⟨b, o + k * 6 + 1, none⟩ = some (.int .i64 x.Y1) ∧ W.cell? ⟨b, o + k * 6 + 2, none⟩ = some (.int .i64 x.X2) ∧
    W.cell? ⟨b, o + k * 6 + 3, none⟩ = some (.int .i64 x.Y2) ∧ W.cell? ⟨b, o + k * 6 + 4, none⟩ = some (.int .i64 x.B) ∧ W.cell? ⟨b, o + k * 6 + 5, none⟩ = some (.int .i64 x.T) := by
  have := h k x.vs (by simp [hx])
  exact ⟨this 0 _ rfl, this 1 _ rfl, this 2 _ rfl, this 3 _ rfl, this 4 _ rfl, this 5 _ rfl⟩
theorem cells_cd {l : List Cd} {x : Cd} (h : Cells W b o 8 (l.map Cd.vs)) (hx : l[k]? = some x) :
    W.cell? ⟨b, o + k * 8, none⟩ = some (.int .i64 x.wl.X1) ∧ W.cell? ⟨b, o + k * 8 + 1, none⟩ = some (.int .i64 x.wl.Y1) ∧ W.cell? ⟨b, o + k * 8 + 2, none⟩ = some (.int .i64 x.wl.X2) ∧
    W.cell? ⟨b, o + k * 8 + 3, none⟩ = some (.int .i64 x.wl.Y2) ∧ W.cell? ⟨b, o + k * 8 + 4, none⟩ = some (.int .i64 x.wl.B) ∧ W.cell? ⟨b, o + k * 8 + 5, none⟩ = some (.int .i64 x.wl.T) ∧
    W.cell? ⟨b, o + k * 8 + 6, none⟩ = some (.int .i64 x.fr) ∧ W.cell? ⟨b, o + k * 8 + 7, none⟩ = some (.int .i64 x.to) := by
  have := h k x.vs (by simp [hx])
  exact ⟨this 0 _ rfl, this 1 _ rfl, this 2 _ rfl, this 3 _ rfl, this 4 _ rfl, this 5 _ rfl, this 6 _ rfl, this 7 _ rfl⟩
theorem cells_st {l : List Stn} {x : Stn} (h : Cells W b o 4 (l.map Stn.vs)) (hx : l[k]? = some x) :
    W.cell? ⟨b, o + k * 4, none⟩ = some (.int .i64 x.X) ∧ W.cell? ⟨b, o + k * 4 + 1, none⟩ = some (.int .i64 x.Y) ∧ W.cell? ⟨b, o + k * 4 + 2, none⟩ = some (.int .i64 x.Z) ∧
    W.cell? ⟨b, o + k * 4 + 3, none⟩ = some (.int .i64 x.M) := by
  have := h k x.vs (by simp [hx])
  exact ⟨this 0 _ rfl, this 1 _ rfl, this 2 _ rfl, this 3 _ rfl⟩
theorem cells_sn {l : List Sn} {x : Sn} (h : Cells W b o 3 (l.map Sn.vs)) (hx : l[k]? = some x) :
    W.cell? ⟨b, o + k * 3, none⟩ = some (.int .i64 x.E) ∧ W.cell? ⟨b, o + k * 3 + 1, none⟩ = some (.int .i64 x.N) ∧ W.cell? ⟨b, o + k * 3 + 2, none⟩ = some (.int .i64 x.U) := by
  have := h k x.vs (by simp [hx])
  exact ⟨this 0 _ rfl, this 1 _ rfl, this 2 _ rfl⟩
theorem cells_one {α : Type} {f : α → Value} {l : List α} {x : α} (h : Cells W b o 1 (l.map fun v => [f v])) (hx : l[k]? = some x) : W.cell? ⟨b, o + k, none⟩ = some (f x) := by
  have := h k [f x] (by simp [hx]) 0 (f x) rfl
  simpa using this
end

/-! ### Lists: the first that passes -/
def idxI {α : Type} (p : α → Bool) (l : List α) : Int := match l.findIdx? p with | some i => i | none => -1
theorem idxI_some {α : Type} {p : α → Bool} {l : List α} {k : Nat} {x : α} (hx : l[k]? = some x) (hp : p x = true) (hno : ∀ j y, j < k → l[j]? = some y → p y = false) : idxI p l = k := by
  have : l.findIdx? p = some k := by
    rw [List.findIdx?_eq_some_iff_getElem]
    obtain ⟨hk, rfl⟩ := List.getElem?_eq_some_iff.1 hx
    exact ⟨hk, hp, fun j hj => by have := hno j l[j] hj (by simp); simpa using this⟩
  simp [idxI, this]
theorem idxI_none {α : Type} {p : α → Bool} {l : List α} (hno : ∀ j y, j < l.length → l[j]? = some y → p y = false) : idxI p l = -1 := by
  have : l.findIdx? p = none := by
    rw [List.findIdx?_eq_none_iff]
    intro x hx
    obtain ⟨j, hj, rfl⟩ := List.getElem_of_mem hx
    exact hno j _ hj (by simp)
  simp [idxI, this]
theorem idxI_any {α : Type} (p : α → Bool) (l : List α) : decide (0 ≤ idxI p l) = l.any p := by
  unfold idxI
  cases h : l.findIdx? p with
  | none => rw [List.findIdx?_eq_none_iff] at h; simp; exact h
  | some i =>
    rw [List.findIdx?_eq_some_iff_getElem] at h
    obtain ⟨hi, hp, _⟩ := h
    have : l.any p = true := List.any_eq_true.2 ⟨l[i], List.getElem_mem hi, hp⟩
    rw [this]; simp
theorem idxI_bd {α : Type} (p : α → Bool) (l : List α) : -1 ≤ idxI p l ∧ idxI p l ≤ l.length := by
  unfold idxI
  cases h : l.findIdx? p with
  | none => simp
  | some i => rw [List.findIdx?_eq_some_iff_getElem] at h; obtain ⟨hi, _⟩ := h; simp; omega
theorem not_any_not {α : Type} (p : α → Bool) (l : List α) : (!l.any fun x => !p x) = l.all p := by
  induction l with
  | nil => rfl
  | cons x l ih => simp only [List.any_cons, List.all_cons, Bool.not_or, Bool.not_not, ih]
end Go.Proofs.Ytmfnkmmbihmjnaa
