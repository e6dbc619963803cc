/- Layer 5, the walks: a truth converted. -/
import Derived.Test.YtingfmdbihbamaaGreatOP6
open Go.RowKit
namespace Go.Proofs.YtingfmdbihbamaaGreat
namespace Cp
open Go.Once

theorem cells_iv {W : World} {b o k : Nat} {l : List IV} {x : IV} (h : Cells W b o 1 (l.map IV.vs)) (hx : l[k]? = some x) : W.cell? ⟨b, o + k, none⟩ = some (.slice x.a x.xs.length x.c) := by
  have := h k x.vs (by simp [hx]) 0 _ rfl
  simpa using this
theorem cells_tv {W : World} {b o k : Nat} {l : List TV} {x : TV} (h : Cells W b o 1 (l.map TV.vs)) (hx : l[k]? = some x) : W.cell? ⟨b, o + k, none⟩ = some (.slice x.a x.ls.length x.c) := by
  have := h k x.vs (by simp [hx]) 0 _ rfl
  simpa using this
theorem TruthAt.one {W : World} {a : Option Addr} {vs : List TV} {t : List (List (List Int))} {k : Nat} {x : TV} (h : TruthAt W a vs t) (hx : vs[k]? = some x) :
    ∃ b o, a = some ⟨b, o, none⟩ ∧ W.cell? ⟨b, o + k, none⟩ = some (.slice x.a x.ls.length x.c) ∧ b < W.heap.size ∧ TvAt W x := by
  obtain ⟨b, o, e, hC⟩ := RowAt.at (k := k) h.row (by have := (List.getElem?_eq_some_iff.1 hx).1; omega)
  have e0 := cells_tv hC hx
  exact ⟨b, o, e, e0, block_lt_of_cell e0, h.ls x (List.mem_of_getElem? hx)⟩
theorem TvAt.one {W : World} {x : TV} {k : Nat} {y : IV} (h : TvAt W x) (hy : x.ls[k]? = some y) :
    ∃ b o, x.a = some ⟨b, o, none⟩ ∧ W.cell? ⟨b, o + k, none⟩ = some (.slice y.a y.xs.length y.c) ∧ b < W.heap.size ∧ IntsAt W y.a y.xs := by
  obtain ⟨b, o, e, hC⟩ := RowAt.at (k := k) h.row (by have := (List.getElem?_eq_some_iff.1 hy).1; omega)
  have e0 := cells_iv hC hy
  exact ⟨b, o, e, e0, block_lt_of_cell e0, h.ls y (List.mem_of_getElem? hy)⟩
/-- A truth is not too great. -/
structure Small5 (vs : List TV) : Prop where
  l1 : vs.length ≤ 1000
  l2 : ∀ x ∈ vs, x.ls.length ≤ 1000
  l3 : ∀ x ∈ vs, ∀ y ∈ x.ls, y.xs.length ≤ 1000

/-- It returns a truth of its own. -/
def RetTruth (t : List (List (List Int))) (w : World) (e : Ending) (w' : World) : Prop := ∃ a c vs, e = .returned (.slice a vs.length c) ∧ Below w.heap.size w w' ∧ TruthAt w' a vs t

end Cp
end Go.Proofs.YtingfmdbihbamaaGreat
