/- Arguments of the statements on relays: lists of numbers, words, hops. -/
import Derived.Test.YtfihdaoakfdlpaaGreatOpen
import Derived.Test.YtfihdaoakfdlpaaGreatRC
open Go.RowKit Go.ChangeShapes Go.WideShapes Go.ChangeAt Go.Deep
namespace Go.Proofs.YtfihdaoakfdlpaaGreat
open Go.Hill
section
variable {H : Type} {enc : TypeId × Value → H} {w : World} {base : Nat} {spare : Nat → Bool} {held : Bool}
theorem i_of {n : Nat} {cs : List Value} {x : DataW H × List MemPlace} (h : DataW.trod enc Tryz.prog w base spare held n 3 cs = some x) : ∃ y : Int, cs = [.int .i64 y] ∧ True := by
  obtain ⟨z, hz, _⟩ := DataW.trod_int Tryz.underlying3 h
  exact ⟨z, hz, trivial⟩
set_option maxRecDepth 100000 in
/-- Numbers that came in. -/
theorem open_ints {v : Value} {d : DataW H} {p : List MemPlace} {r : Reach} {b0 : Nat} (hv : Value.okWide Tryz.prog w r b0 40 v) (h : DataW.Trod enc Tryz.prog w base spare held 40 v d p) :
    ∃ (l : List Int) (a : Option Addr) (c : Nat), v = .slice a l.length c ∧ IntsAt w a l ∧ l.length ≤ 9223372036854775807 := by
  obtain ⟨a0, n0, c0, rfl⟩ := okWide_slice Tryz.underlying40 hv
  clear hv
  obtain ⟨fuel, hf⟩ := h
  obtain ⟨l, a, c, e, g, m, hr, hq⟩ := row_of (size := 1) (f := fun n : Int => [Value.int .i64 n]) (Q := fun _ => True) Tryz.underlying40 (by kernel_rfl) (by omega) (fun _ _ _ => i_of) hf
  unfold maxLen at m
  cases e
  exact ⟨l, a0, c0, rfl, hr, by omega⟩
end
end Go.Proofs.YtfihdaoakfdlpaaGreat
