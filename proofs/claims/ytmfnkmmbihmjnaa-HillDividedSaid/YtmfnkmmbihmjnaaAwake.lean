/- The chapter's examples: some of them, as each statement checks them last. -/
import Derived.Test.YtmfnkmmbihmjnaaExp2
import Derived.Test.YtmfnkmmbihmjnaaRise1
open Go.RowKit
namespace Go.Proofs.Ytmfnkmmbihmjnaa
open Go.Hill

theorem row_box {W : World} {b size : Nat} {cs : Array Value} {T : TypeId} {xs : List (List Value)} (hB : Box W b cs T) (he : cs.toList = xs.flatten) (hl : ∀ x ∈ xs, x.length = size) : RowAt W (some ⟨b, 0, none⟩) size xs :=
  .inr ⟨b, 0, rfl, fun i x hx j v hv => by
    have h := flat_at xs i x hl hx j v hv
    rw [← he] at h
    rw [hB.cell, Nat.zero_add]
    simpa using h⟩

/-- The chapter's land, whose ridge has another Top. -/
def threeL (top : Int) : Land := ⟨[⟨10, 10, 100, 1⟩, ⟨30, 10, 200, 1⟩, ⟨10, 30, 50, 2⟩], [⟨20, 5, 20, 15, 0, top⟩], [[], [⟨⟨5, 20, 25, 20, 0, 80⟩, 1, 2⟩]], [⟨50, 0, 0⟩, ⟨50, 0, 20⟩, ⟨-50, 0, 30⟩]⟩

/-- It returns the land, in memory of its own. -/
def RetLandX (L : Land) (w : World) (e : Ending) (w' : World) : Prop := ∃ q : LV, e = .returned (landV q L) ∧ Below w.heap.size w w' ∧ LandAt w' q L

set_option maxRecDepth 100000 in
theorem three_any (top : Int) (w : World) : Calls Try.prog 42 #[.int .i64 top] w (RetLandX (threeL top) w) := by
  go_enter Try.func42, Try.ntmps42
  go_wp2_with fail
  refine bodyPost_ret (v := .agg #[.slice (some ⟨w.heap.size + 1, 0, none⟩) 3 3, .slice (some ⟨w.heap.size + 1 + 1, 0, none⟩) 1 1, .slice (some ⟨w.heap.size + 1 + 1 + 1 + 1, 0, none⟩) 2 2, .slice (some ⟨w.heap.size + 1 + 1 + 1 + 1 + 1, 0, none⟩) 3 3]) (by simp [results, Try.results42, go_sem]) rfl
    ⟨⟨some ⟨w.heap.size + 1, 0, none⟩, 3, some ⟨w.heap.size + 1 + 1, 0, none⟩, 1, some ⟨w.heap.size + 1 + 1 + 1 + 1, 0, none⟩, 2, some ⟨w.heap.size + 1 + 1 + 1 + 1 + 1, 0, none⟩, 3⟩, rfl, (by repeat (first | exact Below.refl _ _ | refine al ?_ _ | refine Below.drew ?_ | refine sc ?_ (by simp) _)), ?_⟩
  refine ⟨row_box (T := 81) (cs := #[.int .i64 10, .int .i64 10, .int .i64 100, .int .i64 1, .int .i64 30, .int .i64 10, .int .i64 200, .int .i64 1, .int .i64 10, .int .i64 30, .int .i64 50, .int .i64 2]) ?_ rfl (by simp [threeL, Stn.vs]),
    row_box (T := 82) (cs := #[.int .i64 20, .int .i64 5, .int .i64 20, .int .i64 15, .int .i64 0, .int .i64 top]) ?_ rfl (by simp [threeL, Wl.vs]), ?_,
    row_box (T := 99) (cs := #[.int .i64 50, .int .i64 0, .int .i64 0, .int .i64 50, .int .i64 0, .int .i64 20, .int .i64 (-50), .int .i64 0, .int .i64 30]) ?_ rfl (by simp [threeL, Sn.vs]), Nat.le_refl _, Nat.le_refl _, Nat.le_refl _, Nat.le_refl _⟩
  · repeat (first | exact Box.newAt _ _ (by simp) | refine Box.alloc ?_ _)
  · repeat (first | exact Box.newAt _ _ (by simp) | refine Box.alloc ?_ _)
  · refine ⟨[⟨none, 0, []⟩, ⟨some ⟨w.heap.size + 1 + 1 + 1, 0, none⟩, 1, [⟨⟨5, 20, 25, 20, 0, 80⟩, 1, 2⟩]⟩], rfl, row_box (T := 85) (cs := #[.slice none 0 0, .slice (some ⟨w.heap.size + 1 + 1 + 1, 0, none⟩) 1 1]) ?_ rfl (by simp), fun x hx => ?_⟩
    · repeat (first | exact Box.newAt _ _ (by simp) | refine Box.alloc ?_ _)
    · simp only [List.mem_cons, List.not_mem_nil, or_false] at hx
      rcases hx with rfl | rfl
      · exact .inl rfl
      · refine row_box (T := 84) (cs := #[.int .i64 5, .int .i64 20, .int .i64 25, .int .i64 20, .int .i64 0, .int .i64 80, .int .i64 1, .int .i64 2]) ?_ rfl (by simp [Cd.vs])
        repeat (first | exact Box.newAt _ _ (by simp) | refine Box.alloc ?_ _)
  · repeat (first | exact Box.newAt _ _ (by simp) | refine Box.alloc ?_ _)
end Go.Proofs.Ytmfnkmmbihmjnaa
