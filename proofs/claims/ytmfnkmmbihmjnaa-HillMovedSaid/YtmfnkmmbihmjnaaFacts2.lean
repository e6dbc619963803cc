/- The plain law of layer 1: a wall that is divided at a place on it. No program. -/
import Derived.Test.YtmfnkmmbihmjnaaFacts1
namespace Go.Hill

theorem side_line (ax ay bx «by» px py dx dy n : Int) : side ax ay bx «by» (px + dx * n) (py + dy * n) = side ax ay bx «by» px py + (side ax ay bx «by» (px + dx) (py + dy) - side ax ay bx «by» px py) * n := by
  unfold side; grind
theorem side_along (px py dx dy x y k n : Int) : side (px + dx * k) (py + dy * k) (px + dx * n) (py + dy * n) x y = side px py (px + dx) (py + dy) x y * (n - k) := by
  unfold side; grind
theorem absI_mul {x k : Int} (hk : 0 < k) : absI (x * k) = absI x * k := by
  unfold absI
  rcases Int.le_total 0 x with h | h
  · have := Int.mul_nonneg h (show 0 ≤ k by omega)
    rw [Int.max_eq_left (by omega), Int.max_eq_left (by omega)]
  · have := Int.mul_nonneg (show 0 ≤ -x by omega) (show 0 ≤ k by omega)
    rw [Int.neg_mul] at this
    rw [Int.max_eq_right (by omega), Int.max_eq_right (by omega), Int.neg_mul]
theorem pos_mul {x k : Int} (hk : 0 < k) : (0 < x * k ↔ 0 < x) ∧ (x * k = 0 ↔ x = 0) ∧ (x * k ≤ 0 ↔ x ≤ 0) ∧ (0 ≤ x * k ↔ 0 ≤ x) := by
  have h1 : 0 < x → 0 < x * k := fun h => Int.mul_pos h hk
  have h2 : x < 0 → x * k < 0 := fun h => Int.mul_neg_of_neg_of_pos h hk
  have h3 : x = 0 → x * k = 0 := fun h => by rw [h]; simp
  refine ⟨⟨fun h => ?_, h1⟩, ⟨fun h => ?_, h3⟩, ⟨fun h => ?_, fun h => ?_⟩, ⟨fun h => ?_, fun h => ?_⟩⟩ <;>
    (rcases Int.lt_trichotomy x 0 with c | c | c
     · have := h2 c; omega
     · have := h3 c; omega
     · have := h1 c; omega)
theorem over_mul_k (h az bz f o k : Int) : over h az bz (f * k) (o * k) = over h az bz f o * k := by unfold over; grind

/-- The lines are crossed. -/
def crossed (f o : Int) : Bool := !decide (f = 0 ∨ o = 0 ∨ (decide (0 < f) == decide (0 < o)) = true)
def parted (s t : Int) : Bool := !decide ((0 < s ∧ 0 < t) ∨ (s < 0 ∧ t < 0))
def inside (B T az bz f o : Int) : Bool := decide (0 ≤ over B az bz (absI f) (absI o)) && decide (over T az bz (absI f) (absI o) ≤ 0)
theorem blkOf_and (B T az bz f o s t : Int) : blkOf B T az bz f o s t = (crossed f o && parted s t && inside B T az bz f o) := by
  unfold blkOf crossed parted inside
  split
  · rename_i h; rw [decide_eq_true h]; rfl
  · rename_i h
    rw [decide_eq_false h]
    split
    · rename_i h2; rw [decide_eq_true h2]; rfl
    · rename_i h2; rw [decide_eq_false h2]; rfl
theorem crossed_mul {f o k : Int} (hk : 0 < k) : crossed (f * k) (o * k) = crossed f o := by
  unfold crossed
  obtain ⟨a1, a2, _⟩ := pos_mul (x := f) hk
  obtain ⟨b1, b2, _⟩ := pos_mul (x := o) hk
  simp only [a1, a2, b1, b2]
theorem inside_mul {B T az bz f o k : Int} (hk : 0 < k) : inside B T az bz (f * k) (o * k) = inside B T az bz f o := by
  unfold inside
  rw [absI_mul hk, absI_mul hk, over_mul_k, over_mul_k]
  obtain ⟨_, _, _, a4⟩ := pos_mul (x := over B az bz (absI f) (absI o)) hk
  obtain ⟨_, _, b3, _⟩ := pos_mul (x := over T az bz (absI f) (absI o)) hk
  simp only [a4, b3]
theorem parted_mid {s d n k : Int} (h1 : 0 < k) (h2 : k < n) : (parted s (s + d * k) || parted (s + d * k) (s + d * n)) = parted s (s + d * n) := by
  have e : d * n = d * k + d * (n - k) := by rw [← Int.mul_add]; congr 1; omega
  have p1 := pos_mul (x := d) h1
  have p2 := pos_mul (x := d) (show 0 < n - k by omega)
  rw [e]
  generalize d * k = x at *
  generalize d * (n - k) = y at *
  unfold parted
  rw [Bool.eq_iff_iff]
  simp only [Bool.or_eq_true, Bool.not_eq_true', decide_eq_false_iff_not]
  omega

/-- A wall whose ends are a place, and n steps from it; divided after k of them. -/
theorem blk_parts {X Y dx dy n k B T : Int} (h1 : 0 < k) (h2 : k < n) (a b : Stn) :
    blk ⟨X, Y, X + dx * n, Y + dy * n, B, T⟩ a b = (blk ⟨X, Y, X + dx * k, Y + dy * k, B, T⟩ a b || blk ⟨X + dx * k, Y + dy * k, X + dx * n, Y + dy * n, B, T⟩ a b) := by
  unfold blk
  simp only [blkOf_and]
  rw [side_at X Y dx dy a.X a.Y n, side_at X Y dx dy b.X b.Y n, side_at X Y dx dy a.X a.Y k, side_at X Y dx dy b.X b.Y k, side_along, side_along]
  rw [crossed_mul (by omega), crossed_mul h1, crossed_mul (by omega), inside_mul (by omega), inside_mul h1, inside_mul (by omega)]
  rw [side_line a.X a.Y b.X b.Y X Y dx dy n, side_line a.X a.Y b.X b.Y X Y dx dy k, ← parted_mid h1 h2]
  generalize crossed _ _ = c
  generalize inside _ _ _ _ _ _ = i
  cases c <;> cases i <;> simp
end Go.Hill
