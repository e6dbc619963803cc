/- Arguments of the statements on relays: lists of numbers, words, hops. -/
import Derived.Test.YtfihdaoakfdlpaaOpen
import Derived.Test.YtfihdaoakfdlpaaRC
open Go.RowKit Go.ChangeShapes Go.WideShapes Go.ChangeAt Go.Deep
namespace Go.Proofs.Ytfihdaoakfdlpaa
open Go.Hill
theorem u8_nat {y : Int} (h : (Lit.int .u8 y).wf = true) : ∃ x : Nat, y = x ∧ x < 256 := by
  have : 0 ≤ y ∧ y < 256 := by
    unfold Lit.wf at h
    simp only [Bool.and_eq_true, decide_eq_true_eq] at h
    rw [show IntKind.u8.min = 0 from rfl, show IntKind.u8.max = 255 from rfl] at h
    omega
  exact ⟨y.toNat, by omega, by omega⟩
theorem u16_nat {y : Int} (h : (Lit.int .u16 y).wf = true) : ∃ x : Nat, y = x ∧ x < 65536 := by
  have : 0 ≤ y ∧ y < 65536 := by
    unfold Lit.wf at h
    simp only [Bool.and_eq_true, decide_eq_true_eq] at h
    rw [show IntKind.u16.min = 0 from rfl, show IntKind.u16.max = 65535 from rfl] at h
    omega
  exact ⟨y.toNat, by omega, by omega⟩
section
variable {H : Type} {enc : TypeId × Value → H} {w : World} {base : Nat} {spare : Nat → Bool} {held : Bool}
theorem i_of {n : Nat} {cs : List Value} {x : DataW H × List MemPlace} (h : DataW.trod enc Try.prog w base spare held n 3 cs = some x) : ∃ y : Int, cs = [.int .i64 y] ∧ True := by
  obtain ⟨z, hz, _⟩ := DataW.trod_int Try.underlying3 h
  exact ⟨z, hz, trivial⟩
set_option maxRecDepth 100000 in
/-- Numbers that came in. -/
theorem open_ints {v : Value} {d : DataW H} {p : List MemPlace} {r : Reach} {b0 : Nat} (hv : Value.okWide Try.prog w r b0 46 v) (h : DataW.Trod enc Try.prog w base spare held 46 v d p) :
    ∃ (l : List Int) (a : Option Addr) (c : Nat), v = .slice a l.length c ∧ IntsAt w a l ∧ l.length ≤ 9223372036854775807 := by
  obtain ⟨a0, n0, c0, rfl⟩ := okWide_slice Try.underlying46 hv
  clear hv
  obtain ⟨fuel, hf⟩ := h
  obtain ⟨l, a, c, e, g, m, hr, hq⟩ := row_of (size := 1) (f := fun n : Int => [Value.int .i64 n]) (Q := fun _ => True) Try.underlying46 (by kernel_rfl) (by omega) (fun _ _ _ => i_of) hf
  unfold maxLen at m
  cases e
  exact ⟨l, a0, c0, rfl, hr, by omega⟩
end
end Go.Proofs.Ytfihdaoakfdlpaa
