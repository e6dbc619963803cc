/- The plain law of layer 1: what blocks, from both sides, with more height, over places that are moved. No program. -/
import Derived.Test.YtmfnkmmbihmjnaaPlain3
namespace Go.Hill

theorem side_flip (ax ay bx «by» x y : Int) : side bx «by» ax ay x y = -side ax ay bx «by» x y := by
  unfold side; grind
theorem absI_neg (x : Int) : absI (-x) = absI x := by unfold absI; omega
theorem over_swap (h az bz f o : Int) : over h az bz f o = over h bz az o f := by
  unfold over
  rw [Int.add_comm f o, Int.add_comm (az * o)]
theorem blkOf_swap (B T az bz f o s t : Int) : blkOf B T az bz f o s t = blkOf B T bz az o f (-s) (-t) := by
  unfold blkOf
  rw [over_swap B, over_swap T]
  have h1 : (f = 0 ∨ o = 0 ∨ (decide (0 < f) == decide (0 < o)) = true) ↔ (o = 0 ∨ f = 0 ∨ (decide (0 < o) == decide (0 < f)) = true) := by
    simp only [beq_iff_eq, decide_eq_decide]; omega
  have h2 : ((0 < s ∧ 0 < t) ∨ (s < 0 ∧ t < 0)) ↔ ((0 < -s ∧ 0 < -t) ∨ (-s < 0 ∧ -t < 0)) := by omega
  simp only [h1, h2]
theorem blk_swap (w : Wl) (a b : Stn) : blk w a b = blk w b a := by
  unfold blk
  rw [side_flip b.X b.Y a.X a.Y w.X1 w.Y1, side_flip b.X b.Y a.X a.Y w.X2 w.Y2, ← blkOf_swap]

/-- The wall's ends are exchanged. -/
def Wl.flip (w : Wl) : Wl := ⟨w.X2, w.Y2, w.X1, w.Y1, w.B, w.T⟩
theorem blkOf_neg (B T az bz f o s t : Int) : blkOf B T az bz (-f) (-o) t s = blkOf B T az bz f o s t := by
  unfold blkOf
  rw [absI_neg, absI_neg]
  have h1 : (-f = 0 ∨ -o = 0 ∨ (decide (0 < -f) == decide (0 < -o)) = true) ↔ (f = 0 ∨ o = 0 ∨ (decide (0 < f) == decide (0 < o)) = true) := by
    simp only [beq_iff_eq, decide_eq_decide]; omega
  have h2 : ((0 < t ∧ 0 < s) ∨ (t < 0 ∧ s < 0)) ↔ ((0 < s ∧ 0 < t) ∨ (s < 0 ∧ t < 0)) := by omega
  simp only [h1, h2]
theorem blk_flip (w : Wl) (a b : Stn) : blk w.flip a b = blk w a b := by
  unfold blk Wl.flip
  simp only
  rw [side_flip w.X1 w.Y1 w.X2 w.Y2 a.X a.Y, side_flip w.X1 w.Y1 w.X2 w.Y2 b.X b.Y, blkOf_neg]

/-! ### With more height -/
theorem mul_mono {x y k : Int} (hk : 0 ≤ k) (h : x ≤ y) : x * k ≤ y * k := Int.mul_le_mul_of_nonneg_right h hk
theorem over_mono {T az az' bz f o : Int} (ho : 0 ≤ o) (h : az ≤ az') : over T az bz f o ≤ over T az' bz f o := by
  unfold over
  have := mul_mono ho h
  omega
theorem absI_nonneg (x : Int) : 0 ≤ absI x := by unfold absI; omega
theorem blkOf_mono {T az az' bz f o s t : Int} (h0 : 0 ≤ az) (hb : 0 ≤ bz) (h : az ≤ az') (hn : blkOf 0 T az bz f o s t = false) : blkOf 0 T az' bz f o s t = false := by
  unfold blkOf at *
  split
  · rfl
  · rename_i h1
    rw [if_neg h1] at hn
    split
    · rfl
    · rename_i h2
      rw [if_neg h2] at hn
      have m1 := over_mono (T := T) (bz := bz) (f := absI f) (absI_nonneg o) h
      have m2 : 0 ≤ over 0 az bz (absI f) (absI o) := by
        unfold over
        have := Int.mul_nonneg h0 (absI_nonneg o)
        have := Int.mul_nonneg hb (absI_nonneg f)
        omega
      simp only [Bool.and_eq_false_iff, decide_eq_false_iff_not] at *
      omega
theorem blk_up {w : Wl} {a b : Stn} {n m : Int} (hB : w.B = 0) (ha : 0 ≤ a.Z) (hb : 0 ≤ b.Z) (h0 : 0 ≤ n) (h : n ≤ m) (hn : blk w (a.upBy n) b = false) : blk w (a.upBy m) b = false := by
  unfold blk Stn.upBy at *
  simp only at *
  rw [hB] at *
  exact blkOf_mono (by omega) hb (by omega) hn
theorem upBy_zero (a : Stn) : a.upBy 0 = a := by cases a; simp [Stn.upBy]
theorem upBy_upBy (a : Stn) (n m : Int) : (a.upBy n).upBy m = a.upBy (n + m) := by simp [Stn.upBy, Int.add_assoc]
theorem freeAt_mono {rd : List Wl} {a b : Stn} {n m : Int} (hr : ∀ w ∈ rd, w.B = 0) (ha : 0 ≤ a.Z) (hb : 0 ≤ b.Z) (h0 : 0 ≤ n) (h : n ≤ m) (hf : freeAt rd a b n = true) : freeAt rd a b m = true := by
  unfold freeAt at *
  rw [List.all_eq_true] at *
  intro w hw
  have := hf w hw
  simp only [Bool.not_eq_true'] at *
  exact blk_up (hr w hw) ha hb h0 h this

/-! ### Low and high walls -/
theorem blk_low {w : Wl} {a b : Stn} (h1 : w.T < a.Z) (h2 : w.T < b.Z) : blk w a b = false := by
  unfold blk blkOf
  split
  · rfl
  · rename_i hf
    split
    · rfl
    · have hx := absI_nonneg (side w.X1 w.Y1 w.X2 w.Y2 a.X a.Y)
      have hy : 0 < absI (side w.X1 w.Y1 w.X2 w.Y2 b.X b.Y) := by unfold absI; omega
      generalize absI (side w.X1 w.Y1 w.X2 w.Y2 a.X a.Y) = f at *
      generalize absI (side w.X1 w.Y1 w.X2 w.Y2 b.X b.Y) = o at *
      have m1 := mul_mono hx (show w.T ≤ b.Z by omega)
      have m2 := mul_mono (show 0 ≤ o by omega) (show w.T + 1 ≤ a.Z by omega)
      rw [Int.add_mul] at m2
      have : ¬ over w.T a.Z b.Z f o ≤ 0 := by
        unfold over; rw [Int.mul_add]; omega
      simp [this]
theorem blk_high {w : Wl} {a b : Stn} (h1 : a.Z < w.B) (h2 : b.Z < w.B) : blk w a b = false := by
  unfold blk blkOf
  split
  · rfl
  · rename_i hf
    split
    · rfl
    · have hx := absI_nonneg (side w.X1 w.Y1 w.X2 w.Y2 a.X a.Y)
      have hy : 0 < absI (side w.X1 w.Y1 w.X2 w.Y2 b.X b.Y) := by unfold absI; omega
      generalize absI (side w.X1 w.Y1 w.X2 w.Y2 a.X a.Y) = f at *
      generalize absI (side w.X1 w.Y1 w.X2 w.Y2 b.X b.Y) = o at *
      have m1 := mul_mono hx (show b.Z ≤ w.B by omega)
      have m2 := mul_mono (show 0 ≤ o by omega) (show a.Z + 1 ≤ w.B by omega)
      rw [Int.add_mul] at m2
      have : ¬ 0 ≤ over w.B a.Z b.Z f o := by
        unfold over; rw [Int.mul_add]; omega
      simp [this]

/-! ### Moved, turned -/
def Stn.mv (e n : Int) (tn : Bool) (a : Stn) : Stn := if tn then ⟨a.Y + n, a.X + e, a.Z, a.M⟩ else ⟨a.X + e, a.Y + n, a.Z, a.M⟩
def Wl.mv (e n : Int) (tn : Bool) (w : Wl) : Wl := if tn then ⟨w.Y1 + n, w.X1 + e, w.Y2 + n, w.X2 + e, w.B, w.T⟩ else ⟨w.X1 + e, w.Y1 + n, w.X2 + e, w.Y2 + n, w.B, w.T⟩
def Cd.mv (e n : Int) (tn : Bool) (c : Cd) : Cd := ⟨c.wl.mv e n tn, c.fr, c.to⟩
def Sn.tn (tn : Bool) (s : Sn) : Sn := if tn then ⟨s.N, s.E, s.U⟩ else s
theorem side_move (e n px py qx qy x y : Int) : side (px + e) (py + n) (qx + e) (qy + n) (x + e) (y + n) = side px py qx qy x y := by
  unfold side; grind
theorem side_turn (px py qx qy x y : Int) : side py px qy qx y x = -side px py qx qy x y := by
  unfold side; grind
theorem blkOf_neg2 (B T az bz f o s t : Int) : blkOf B T az bz (-f) (-o) (-s) (-t) = blkOf B T az bz f o s t := by
  rw [blkOf_neg]
  unfold blkOf
  have h2 : ((0 < -t ∧ 0 < -s) ∨ (-t < 0 ∧ -s < 0)) ↔ ((0 < s ∧ 0 < t) ∨ (s < 0 ∧ t < 0)) := by omega
  simp only [h2]
theorem blk_mv (e n : Int) (tn : Bool) (w : Wl) (a b : Stn) : blk (w.mv e n tn) (a.mv e n tn) (b.mv e n tn) = blk w a b := by
  cases tn with
  | false =>
    simp only [Wl.mv, Stn.mv, blk, Bool.false_eq_true, if_false, side_move]
  | true =>
    simp only [Wl.mv, Stn.mv, blk, if_true]
    rw [side_turn (w.X1 + e), side_turn (w.X1 + e), side_turn (a.X + e), side_turn (a.X + e), side_move, side_move, side_move, side_move, blkOf_neg2]
theorem dot_mv (e n : Int) (tn : Bool) (s : Sn) (a b : Stn) : dot (s.tn tn) (a.mv e n tn) (b.mv e n tn) = dot s a b := by
  cases tn with
  | false =>
    simp only [Sn.tn, Stn.mv, dot, Bool.false_eq_true, if_false]
    rw [show b.X + e - (a.X + e) = b.X - a.X by omega, show b.Y + n - (a.Y + n) = b.Y - a.Y by omega]
  | true =>
    simp only [Sn.tn, Stn.mv, dot, if_true]
    rw [show b.X + e - (a.X + e) = b.X - a.X by omega, show b.Y + n - (a.Y + n) = b.Y - a.Y by omega, Int.add_comm]
theorem needM_mv (e n : Int) (tn : Bool) (s : Sn) (a b : Stn) : needM (s.tn tn) (a.mv e n tn) (b.mv e n tn) = needM s a b := by
  unfold needM behind; rw [dot_mv]
theorem dot_swap (s : Sn) (a b : Stn) : dot s b a = -dot s a b := by unfold dot; grind
theorem needM_two (s : Sn) (a b : Stn) : (needM s a b = 1 ∨ needM s a b = 2) ∧ needM s a b + needM s b a ≤ 3 := by
  unfold needM behind
  have := dot_swap s a b
  constructor
  · split <;> simp
  · by_cases h1 : dot s a b < 0 <;> by_cases h2 : dot s b a < 0 <;> simp [h1, h2] <;> omega

/-! ### Divided -/
theorem side_at (px py dx dy x y k : Int) : side px py (px + dx * k) (py + dy * k) x y = side px py (px + dx) (py + dy) x y * k := by
  unfold side; grind
end Go.Hill
