/- Layer 5, the walks: what a post may hold (the statement's words for it). -/
import Derived.Test.YtingfmdbihbamaaGreatOAll
import Derived.Test.YtingfmdbihbamaaGreatGen0
import Derived.Deep.DeepCutAuto
import Derived.Deep.CutBlock
import Derived.Deep.RegionHeld3
import Derived.Deep.DrawnRows
import Derived.Lib.SliceRun
open Go.RowKit
namespace Go.Proofs.YtingfmdbihbamaaGreat
namespace Cp
open Go.Once

theorem take_eq_succ {α : Type} {l m : List α} {k : Nat} {x : α} (h : l.take k = m.take k) (h1 : l[k]? = some x) (h2 : m[k]? = some x) : l.take (k + 1) = m.take (k + 1) := by
  obtain ⟨k1, rfl⟩ := List.getElem?_eq_some_iff.1 h1
  obtain ⟨k2, e⟩ := List.getElem?_eq_some_iff.1 h2
  rw [List.take_succ_eq_append_getElem k1, List.take_succ_eq_append_getElem k2, h, e]


/-! ### A post's cells -/
theorem PostAt.send {W : World} {q : PV} {p : Ps} {k : Nat} {s : Int} (h : PostAt W q p) (hs : p.sends[k]? = some s) :
    ∃ b o, q.a1 = some ⟨b, o, none⟩ ∧ W.cell? ⟨b, o + k, none⟩ = some (.int .i64 s) ∧ b < W.heap.size := by
  obtain ⟨b, o, e, hC⟩ := RowAt.at (k := k) h.sends (by have := (List.getElem?_eq_some_iff.1 hs).1; omega)
  have e0 := cells_one (f := fun n : Int => Value.int .i64 n) hC hs
  exact ⟨b, o, e, e0, block_lt_of_cell e0⟩
theorem PostAt.route {W : World} {q : PV} {p : Ps} {k : Nat} {x : RtV} (h : PostAt W q p) (hx : q.rs[k]? = some x) :
    ∃ b o, q.a2 = some ⟨b, o, none⟩ ∧ W.cell? ⟨b, o + k * 2, none⟩ = some (.slice x.a x.legs.length x.c) ∧ W.cell? ⟨b, o + k * 2 + 1, none⟩ = some (.bool x.lossy) ∧ b < W.heap.size ∧ RtAt W x := by
  obtain ⟨b, o, e, hC⟩ := RowAt.at (k := k) h.row (by have := (List.getElem?_eq_some_iff.1 hx).1; omega)
  obtain ⟨e0, e1⟩ := cells_rt hC hx
  exact ⟨b, o, e, e0, e1, block_lt_of_cell e0, h.rts x (List.mem_of_getElem? hx)⟩
theorem RtAt.leg {W : World} {x : RtV} {k : Nat} {l : LgV} (h : RtAt W x) (hl : x.legs[k]? = some l) :
    ∃ b o, x.a = some ⟨b, o, none⟩ ∧ W.cell? ⟨b, o + k * 3, none⟩ = some (.int .i64 l.lg.lo) ∧ W.cell? ⟨b, o + k * 3 + 1, none⟩ = some (.int .i64 l.lg.hi) ∧ W.cell? ⟨b, o + k * 3 + 2, none⟩ = some (.slice l.a l.lg.as.length l.c) ∧ b < W.heap.size ∧ LgAt W l := by
  obtain ⟨b, o, e, hC⟩ := RowAt.at (k := k) h.row (by have := (List.getElem?_eq_some_iff.1 hl).1; omega)
  obtain ⟨e0, e1, e2⟩ := cells_lg hC hl
  exact ⟨b, o, e, e0, e1, e2, block_lt_of_cell e0, h.legs l (List.mem_of_getElem? hl)⟩
theorem LgAt.rg {W : World} {l : LgV} {k : Nat} {r : Rg} (h : LgAt W l) (hr : l.lg.as[k]? = some r) :
    ∃ b o, l.a = some ⟨b, o, none⟩ ∧ W.cell? ⟨b, o + k * 2, none⟩ = some (.int .i64 r.lo) ∧ W.cell? ⟨b, o + k * 2 + 1, none⟩ = some (.int .i64 r.hi) ∧ b < W.heap.size := by
  obtain ⟨b, o, e, hC⟩ := RowAt.at (k := k) h (by have := (List.getElem?_eq_some_iff.1 hr).1; omega)
  obtain ⟨e0, e1⟩ := cells_rg hC hr
  exact ⟨b, o, e, e0, e1, block_lt_of_cell e0⟩

/-! ### Ranges -/
def spanB (r : Rg) (m : Int) : Bool := inB r.lo 0 r.hi && decide (r.hi ≤ m)
theorem spanB_ok {r : Rg} {m : Int} (h : spanB r m = true) : r.Ok m := by
  simp [spanB, inB] at h
  exact ⟨h.1.1, h.1.2, h.2⟩
theorem spanB_of {r : Rg} {m : Int} (h : r.Ok m) : spanB r m = true := by
  obtain ⟨h1, h2, h3⟩ := h
  simp [spanB, inB]; omega

/-! ### A thin post -/
/-- A truth value: if it is true, so is something. -/
def YesTo (P : Prop) (v : Value) : Prop := ∃ b : Bool, v = .bool b ∧ (b = true → P)
structure PostSane (q : PV) (p : Ps) : Prop where
  l1 : p.sends.length ≤ 9223372036854775807
  l2 : q.rs.length ≤ 9223372036854775807
  l3 : ∀ x ∈ q.rs, x.legs.length ≤ 9223372036854775807
  l4 : ∀ x ∈ q.rs, ∀ l ∈ x.legs, l.lg.as.length ≤ 9223372036854775807
structure Thin5 (q : PV) (p : Ps) : Prop where
  l1 : p.sends.length ≤ 7
  l2 : q.rs.length ≤ 6
  l3 : ∀ x ∈ q.rs, x.legs.length ≤ 6
  l4 : ∀ x ∈ q.rs, ∀ l ∈ x.legs, l.lg.as.length ≤ 5

end Cp
end Go.Proofs.YtingfmdbihbamaaGreat
