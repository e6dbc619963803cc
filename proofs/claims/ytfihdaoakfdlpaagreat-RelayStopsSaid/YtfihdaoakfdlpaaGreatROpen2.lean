/- Arguments of the statements on relays: words. -/
import Derived.Test.YtfihdaoakfdlpaaGreatROpen
import Derived.Test.YtfihdaoakfdlpaaGreatLR3
open Go.RowKit Go.ChangeShapes Go.WideShapes Go.ChangeAt Go.Deep
namespace Go.Proofs.YtfihdaoakfdlpaaGreat
open Go.Hill
section
variable {H : Type} {enc : TypeId × Value → H} {w : World} {base : Nat} {spare : Nat → Bool} {held : Bool}
theorem u_of {n : Nat} {cs : List Value} {x : DataW H × List MemPlace} (h : DataW.trod enc Tryz.prog w base spare held n 117 cs = some x) : ∃ y : Nat, cs = [.int .u16 (y : Int)] ∧ y < 65536 := by
  obtain ⟨z, hz, _, hw⟩ := DataW.trod_int Tryz.underlying117 h
  obtain ⟨y, rfl, hy⟩ := u16_nat hw
  exact ⟨y, hz, hy⟩
set_option maxRecDepth 100000 in
/-- Words that came in. -/
theorem open_words {v : Value} {d : DataW H} {p : List MemPlace} {r : Reach} {b0 : Nat} (hv : Value.okWide Tryz.prog w r b0 52 v) (h : DataW.Trod enc Tryz.prog w base spare held 52 v d p) :
    ∃ (l : List Nat) (a : Option Addr) (c : Nat), v = .slice a l.length c ∧ WordsAt w a l ∧ l.length ≤ 9223372036854775807 ∧ ∀ n ∈ l, n < 65536 := by
  obtain ⟨a0, n0, c0, rfl⟩ := okWide_slice Tryz.underlying52 hv
  clear hv
  obtain ⟨fuel, hf⟩ := h
  obtain ⟨l, a, c, e, g, m, hr, hq⟩ := row_of (size := 1) (f := fun n : Nat => [Value.int .u16 (n : Int)]) (Q := fun n => n < 65536) Tryz.underlying52 (by kernel_rfl) (by omega) (fun _ _ _ => u_of) hf
  unfold maxLen at m
  cases e
  exact ⟨l, a0, c0, rfl, hr, by omega, hq⟩
end
end Go.Proofs.YtfihdaoakfdlpaaGreat
