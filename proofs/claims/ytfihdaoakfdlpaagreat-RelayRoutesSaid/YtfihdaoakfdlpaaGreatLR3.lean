/- The statements on relays: words, two lists that grow side by side. -/
import Derived.Test.YtfihdaoakfdlpaaGreatLR2
open Go.RowKit
namespace Go.Proofs.YtfihdaoakfdlpaaGreat
open Go.Hill

/-! ### Two lists that grow side by side -/
def Two (W : World) (base : Nat) (v1 : Value) (xs1 : List (List Value)) (v2 : Value) (xs2 : List (List Value)) : Prop :=
  Own W base 3 1 v1 xs1 ∧ Own W base 3 1 v2 xs2 ∧ ∀ g, v1.ownBlock = some g → v2.ownBlock ≠ some g
section
variable {W W' : World} {base : Nat} {v1 v2 : Value} {xs1 xs2 : List (List Value)}
theorem Two.nil (W : World) (base : Nat) : Two W base (.slice none 0 0) [] (.slice none 0 0) [] := ⟨Own.nil _ _ _ _, Own.nil _ _ _ _, fun g hg => by cases hg⟩
theorem Two.later (h : Two W base v1 xs1 v2 xs2) (hb : Below W.heap.size W W') : Two W' base v1 xs1 v2 xs2 := ⟨h.1.later hb, h.2.1.later hb, h.2.2⟩
theorem Two.swap (h : Two W base v1 xs1 v2 xs2) : Two W base v2 xs2 v1 xs1 := ⟨h.2.1, h.1, fun g h1 h2 => h.2.2 g h2 h1⟩
theorem Two.grow (h : Two W base v1 xs1 v2 xs2) {v' : Value} {xs' : List (List Value)} (ho : Own W' base 3 1 v' xs') (hg : W.grownBy W' v1.ownBlock) (hn : ∀ g, v'.ownBlock = some g → v1.ownBlock = some g ∨ W.heap.size ≤ g) :
    Two W' base v' xs' v2 xs2 := by
  refine ⟨ho, h.2.1.turn fun k hk => hg.block k (h.2.1.1.lt k hk).2 fun he => h.2.2 k he.symm hk, fun g h1 h2 => ?_⟩
  rcases hn g h1 with h3 | h3
  · exact h.2.2 g h3 h2
  · have := (h.2.1.1.lt g h2).2
    omega
end
/-! ### Words -/
abbrev WordsAt (W : World) (a : Option Addr) (l : List Nat) : Prop := RowAt W a 1 (l.map fun n : Nat => [Value.int .u16 (n : Int)])
def wordOf (l : List Nat) (i : Nat) : Nat := (l[i % l.length]?).getD 0
theorem wordOf_lt {l : List Nat} (h : ∀ n ∈ l, n < 65536) (i : Nat) : wordOf l i < 65536 := by
  unfold wordOf
  cases hx : l[i % l.length]? with
  | none => decide
  | some y => exact h y (List.mem_of_getElem? hx)
set_option maxRecDepth 100000 in
theorem word_any (l : List Nat) (a : Option Addr) (c i : Nat) (w : World) (h : WordsAt w a l) (hl : l.length ≤ 9223372036854775807) (hb : ∀ n ∈ l, n < 65536) (hi : i ≤ 1000) :
    Calls Tryz.prog 36 #[.slice a l.length c, .int .i64 i] w (Ret (.int .i64 (wordOf l i)) w) := by
  obtain ⟨v, hv⟩ : ∃ v, v = wordOf l i := ⟨_, rfl⟩
  have hvb : v < 65536 := by rw [hv]; exact wordOf_lt hb i
  rw [← hv]
  by_cases h0 : l.length = 0
  · have hl0 : l = [] := List.eq_nil_of_length_eq_zero h0
    subst hl0
    have hv0 : v = 0 := hv
    subst hv0
    go_enter Tryz.func36, Tryz.ntmps36
    go_wp2_with fail
    go_ret
    exact ⟨rfl, Below.refl _ _⟩
  · have hlt : i % l.length < l.length := Nat.mod_lt _ (by omega)
    have hx : l[i % l.length]? = some v := by rw [hv, wordOf, List.getElem?_eq_getElem hlt]; rfl
    have htm : (i : Int).tmod (l.length : Int) = ((i % l.length : Nat) : Int) := by rw [Int.tmod_eq_emod_of_nonneg (by omega)]; rfl
    obtain ⟨j, hj⟩ : ∃ j, j = i % l.length := ⟨_, rfl⟩
    rw [← hj] at hlt hx htm
    obtain ⟨p1, o1, rfl, hC1⟩ := RowAt.at h hlt
    have e1 := cells_one (f := fun n : Nat => Value.int .u16 (n : Int)) hC1 hx
    have z1 := block_lt_of_cell e1
    have r1 : (0 : Int) ≤ (j : Int) := by omega
    have r2 : (j : Int) < (l.length : Int) := by omega
    have r3 : ((l.length : Int) == 0) = false := by rw [beq_eq_false_iff_ne]; omega
    have r4 : (l.length : Int) ≠ 0 := by omega
    clear hv hx h hC1 hb h0 hlt hj
    generalize l.length = n at *
    go_enter Tryz.func36, Tryz.ntmps36
    go_wp2_with fail
    go_ret
    exact ⟨rfl, Below.refl _ _⟩
end Go.Proofs.YtfihdaoakfdlpaaGreat
