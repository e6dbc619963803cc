/- Arguments of the statements on relays: hops. -/
import Derived.Test.YtfihdaoakfdlpaaGreatROpen
import Derived.Test.YtfihdaoakfdlpaaGreatR21
open Go.RowKit Go.ChangeShapes Go.WideShapes Go.ChangeAt Go.Deep
namespace Go.Proofs.YtfihdaoakfdlpaaGreat
open Go.Hill
instance : Inhabited Hi := ⟨⟨0, 0, 0⟩⟩
section
variable {H : Type} {enc : TypeId × Value → H} {w : World} {base : Nat} {spare : Nat → Bool} {held : Bool}
theorem hi_of {n : Nat} {cs : List Value} {x : DataW H × List MemPlace} (h : DataW.trod enc Tryz.prog w base spare held n 82 cs = some x) : ∃ y : Hi, cs = Hi.vs y ∧ True := by
  obtain ⟨a, b, c, rfl⟩ := three_of Tryz.underlying82 (by kernel_rfl) (by kernel_rfl) (by kernel_rfl) h
  exact ⟨⟨a, b, c⟩, rfl, trivial⟩
set_option maxRecDepth 100000 in
/-- Hops that came in. -/
theorem open_hops {v : Value} {d : DataW H} {p : List MemPlace} {r : Reach} {b0 : Nat} (hv : Value.okWide Tryz.prog w r b0 55 v) (h : DataW.Trod enc Tryz.prog w base spare held 55 v d p) :
    ∃ (l : List Hi) (a : Option Addr) (c : Nat), v = .slice a l.length c ∧ HisAt w a l ∧ l.length ≤ 9223372036854775807 := by
  obtain ⟨a0, n0, c0, rfl⟩ := okWide_slice Tryz.underlying55 hv
  clear hv
  obtain ⟨fuel, hf⟩ := h
  obtain ⟨l, a, c, e, g, m, hr, hq⟩ := row_of (size := 3) (f := Hi.vs) (Q := fun _ => True) Tryz.underlying55 (by kernel_rfl) (by omega) (fun _ _ _ => hi_of) hf
  unfold maxLen at m
  cases e
  exact ⟨l, a0, c0, rfl, hr, by omega⟩
end
end Go.Proofs.YtfihdaoakfdlpaaGreat
