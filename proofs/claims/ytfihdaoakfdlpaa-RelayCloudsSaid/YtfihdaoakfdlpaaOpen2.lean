/- Arguments opened: a wall. -/
import Derived.Test.YtfihdaoakfdlpaaOpen
open Go.RowKit Go.ChangeShapes Go.WideShapes Go.ChangeAt Go.Deep
namespace Go.Proofs.Ytfihdaoakfdlpaa
open Go.Hill

set_option maxRecDepth 100000 in
theorem open_wall {H : Type} {enc : TypeId × Value → H} {w : World} {base : Nat} {spare : Nat → Bool} {held : Bool} {r : Reach} {b0 : Nat} {v : Value} {d : DataW H} {p : List MemPlace} (hv : Value.okWide Try.prog w r b0 52 v) (h : DataW.Trod enc Try.prog w base spare held 52 v d p) :
    ∃ s : Wl, v = .agg #[.int .i64 s.X1, .int .i64 s.Y1, .int .i64 s.X2, .int .i64 s.Y2, .int .i64 s.B, .int .i64 s.T] := by
  obtain ⟨cs, rfl, _⟩ := okWide_struct Try.underlying52 hv
  clear hv
  obtain ⟨l⟩ := cs
  obtain ⟨fuel, hf⟩ := h
  obtain ⟨s, hs, _⟩ := wl_of hf
  obtain rfl : l = s.vs := by simpa [Value.cells] using hs
  exact ⟨s, rfl⟩
end Go.Proofs.Ytfihdaoakfdlpaa
