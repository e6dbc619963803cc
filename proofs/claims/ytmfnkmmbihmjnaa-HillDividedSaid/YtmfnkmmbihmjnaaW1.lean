/- Layer 1, the walks: places, sides, what blocks. -/
import Derived.Test.YtmfnkmmbihmjnaaBase
open Go.RowKit
namespace Go.Proofs.Ytmfnkmmbihmjnaa
open Go.Hill

theorem within_any (n a b : Int) (w : World) : Calls Try.prog 79 #[.int .i64 n, .int .i64 a, .int .i64 b] w (Ret (.bool (inB n a b)) w) := by
  by_cases h : a ≤ n
  · go_enter Try.func79, Try.ntmps79
    go_wp2
    go_ret
    exact ⟨ret_bool (by simp [inB]; omega), Below.refl _ _⟩
  · have hd : decide (a ≤ n) = false := by simpa using h
    go_enter Try.func79, Try.ntmps79
    go_wp2
    go_ret
    exact ⟨ret_bool (by simp [inB]; omega), Below.refl _ _⟩

theorem in_any (n a b : Int) (w : World) : Calls Try.prog 23 #[.int .i64 n, .int .i64 a, .int .i64 b] w (Ret (.bool (inB n a b)) w) := by
  by_cases h : a ≤ n
  · have hd : decide (a ≤ n) = true := by simpa using h
    go_enter Try.func23, Try.ntmps23
    go_wp2
    go_ret
    exact ⟨ret_bool (by simp [inB]; omega), Below.refl _ _⟩
  · have hd : decide (a ≤ n) = false := by simpa using h
    go_enter Try.func23, Try.ntmps23
    go_wp2
    go_ret
    exact ⟨ret_bool (by simp [inB]; omega), Below.refl _ _⟩

theorem place_any (s : Stn) (w : World) : Calls Try.prog 84 #[.agg #[.int .i64 s.X, .int .i64 s.Y, .int .i64 s.Z, .int .i64 s.M]] w (Ret (.agg #[.int .i64 s.X, .int .i64 s.Y]) w) := by
  go_enter Try.func84, Try.ntmps84
  go_wp2
  exact bodyPost_ret (v := .agg #[.int .i64 s.X, .int .i64 s.Y]) (by simp [results, Try.results84, go_sem]) rfl ⟨rfl, (by repeat (first | exact Below.refl _ _ | refine al ?_ _ | refine Below.drew ?_ | refine sc ?_ (by simp) _))⟩

theorem ends_any (s : Wl) (w : World) : Calls Try.prog 83 #[.agg #[.int .i64 s.X1, .int .i64 s.Y1, .int .i64 s.X2, .int .i64 s.Y2, .int .i64 s.B, .int .i64 s.T]] w
    (Ret (.tuple #[.agg #[.int .i64 s.X1, .int .i64 s.Y1], .agg #[.int .i64 s.X2, .int .i64 s.Y2]]) w) := by
  go_enter Try.func83, Try.ntmps83
  go_wp2
  go_region
  all_goals go_wp2
  all_goals exact bodyPost_ret (v := .tuple #[.agg #[.int .i64 s.X1, .int .i64 s.Y1], .agg #[.int .i64 s.X2, .int .i64 s.Y2]]) (by simp [results, Try.results83, go_sem]) rfl ⟨rfl, (by repeat (first | exact Below.refl _ _ | refine al ?_ _ | refine Below.drew ?_ | refine sc ?_ (by simp) _))⟩

theorem side_any (px py qx qy x y : Int) (w : World) (h1 : In1 px) (h2 : In1 py) (h3 : In1 qx) (h4 : In1 qy) (h5 : In1 x) (h6 : In1 y) :
    Calls Try.prog 85 #[.agg #[.int .i64 px, .int .i64 py], .agg #[.int .i64 qx, .int .i64 qy], .agg #[.int .i64 x, .int .i64 y]] w (Ret (.int .i64 (side px py qx qy x y)) w) := by
  obtain ⟨⟨b1, b2⟩, b3, b4⟩ := side_mul h1 h2 h3 h4 h5 h6
  unfold In1 at *
  go_enter Try.func85, Try.ntmps85
  go_wp2
  go_ret
  exact ⟨rfl, (by repeat (first | exact Below.refl _ _ | refine al ?_ _ | refine Below.drew ?_ | refine sc ?_ (by simp) _))⟩

theorem abs_any (n : Int) (w : World) (h1 : -1000000 ≤ n) (h2 : n ≤ 1000000) : Calls Try.prog 86 #[.int .i64 n] w (Ret (.int .i64 (absI n)) w) := by
  go_enter Try.func86, Try.ntmps86
  go_wp2
  all_goals
    go_ret
    exact ⟨ret_int (by unfold absI; omega), (by repeat (first | exact Below.refl _ _ | refine al ?_ _ | refine Below.drew ?_ | refine sc ?_ (by simp) _))⟩

theorem base_any (s : Wl) (w : World) : Calls Try.prog 87 #[.agg #[.int .i64 s.X1, .int .i64 s.Y1, .int .i64 s.X2, .int .i64 s.Y2, .int .i64 s.B, .int .i64 s.T]] w (Ret (.int .i64 s.B) w) := by
  go_enter Try.func87, Try.ntmps87
  go_wp2
  go_ret
  exact ⟨rfl, (by repeat (first | exact Below.refl _ _ | refine al ?_ _ | refine Below.drew ?_ | refine sc ?_ (by simp) _))⟩
theorem top_any (s : Wl) (w : World) : Calls Try.prog 88 #[.agg #[.int .i64 s.X1, .int .i64 s.Y1, .int .i64 s.X2, .int .i64 s.Y2, .int .i64 s.B, .int .i64 s.T]] w (Ret (.int .i64 s.T) w) := by
  go_enter Try.func88, Try.ntmps88
  go_wp2
  go_ret
  exact ⟨rfl, (by repeat (first | exact Below.refl _ _ | refine al ?_ _ | refine Below.drew ?_ | refine sc ?_ (by simp) _))⟩

set_option maxHeartbeats 400000 in
theorem above_base (s : Wl) (a b : Stn) (far other : Int) (w : World) (ha : a.In) (hb : b.In) (hs : s.In) (h1 : 0 ≤ far) (h2 : far ≤ 20000) (h3 : 0 ≤ other) (h4 : other ≤ 20000) :
    Calls Try.prog 89 #[.agg #[.func (.func 87) #[] #[]], .agg #[.int .i64 s.X1, .int .i64 s.Y1, .int .i64 s.X2, .int .i64 s.Y2, .int .i64 s.B, .int .i64 s.T],
      .agg #[.int .i64 a.X, .int .i64 a.Y, .int .i64 a.Z, .int .i64 a.M], .agg #[.int .i64 b.X, .int .i64 b.Y, .int .i64 b.Z, .int .i64 b.M], .int .i64 far, .int .i64 other] w (Ret (.int .i64 (Hill.over s.B a.Z b.Z far other)) w) := by
  obtain ⟨m1, m2, m3⟩ := over_mul (h := s.B) ha hb (by unfold Wl.In at hs; omega) h1 h2 h3 h4
  clear ha hb hs
  have w1 : IntKind.i64.wrap (a.Z * other + b.Z * far) = a.Z * other + b.Z * far := IntWalk.i64_in _ (by omega)
  have w2 : IntKind.i64.wrap (far + other) = far + other := IntWalk.i64_in _ (by omega)
  have w3 : IntKind.i64.wrap (a.Z * other) = a.Z * other := IntWalk.i64_in _ (by omega)
  have w4 : IntKind.i64.wrap (b.Z * far) = b.Z * far := IntWalk.i64_in _ (by omega)
  have w5 : IntKind.i64.wrap (s.B * (far + other)) = s.B * (far + other) := IntWalk.i64_in _ (by omega)
  have w6 : IntKind.i64.wrap (a.Z * other + b.Z * far - s.B * (far + other)) = a.Z * other + b.Z * far - s.B * (far + other) := IntWalk.i64_in _ (by omega)
  go_enter Try.func89, Try.ntmps89
  go_wp2
  refine Fat.wp_region_tail 19 (by kernel_rfl) (by kernel_rfl) ?_
  simp only [List.take_succ_cons, List.drop_succ_cons, List.take_nil, List.drop_nil]
  repeat (go_big_quiet_step (exact Calls.regrown_of (base_any s _)))
  refine wpQuiet_nil ?_
  intro w1 hb1
  go_wp2
  go_ret
  exact ⟨rfl, over (by repeat (first | exact Below.refl _ _ | refine al ?_ _ | refine Below.drew ?_ | refine sc ?_ (by simp) _)) hb1⟩
set_option maxHeartbeats 400000 in
theorem above_top (s : Wl) (a b : Stn) (far other : Int) (w : World) (ha : a.In) (hb : b.In) (hs : s.In) (h1 : 0 ≤ far) (h2 : far ≤ 20000) (h3 : 0 ≤ other) (h4 : other ≤ 20000) :
    Calls Try.prog 89 #[.agg #[.func (.func 88) #[] #[]], .agg #[.int .i64 s.X1, .int .i64 s.Y1, .int .i64 s.X2, .int .i64 s.Y2, .int .i64 s.B, .int .i64 s.T],
      .agg #[.int .i64 a.X, .int .i64 a.Y, .int .i64 a.Z, .int .i64 a.M], .agg #[.int .i64 b.X, .int .i64 b.Y, .int .i64 b.Z, .int .i64 b.M], .int .i64 far, .int .i64 other] w (Ret (.int .i64 (Hill.over s.T a.Z b.Z far other)) w) := by
  obtain ⟨m1, m2, m3⟩ := over_mul (h := s.T) ha hb (by unfold Wl.In at hs; omega) h1 h2 h3 h4
  clear ha hb hs
  have w1 : IntKind.i64.wrap (a.Z * other + b.Z * far) = a.Z * other + b.Z * far := IntWalk.i64_in _ (by omega)
  have w2 : IntKind.i64.wrap (far + other) = far + other := IntWalk.i64_in _ (by omega)
  have w3 : IntKind.i64.wrap (a.Z * other) = a.Z * other := IntWalk.i64_in _ (by omega)
  have w4 : IntKind.i64.wrap (b.Z * far) = b.Z * far := IntWalk.i64_in _ (by omega)
  have w5 : IntKind.i64.wrap (s.T * (far + other)) = s.T * (far + other) := IntWalk.i64_in _ (by omega)
  have w6 : IntKind.i64.wrap (a.Z * other + b.Z * far - s.T * (far + other)) = a.Z * other + b.Z * far - s.T * (far + other) := IntWalk.i64_in _ (by omega)
  go_enter Try.func89, Try.ntmps89
  go_wp2
  refine Fat.wp_region_tail 19 (by kernel_rfl) (by kernel_rfl) ?_
  simp only [List.take_succ_cons, List.drop_succ_cons, List.take_nil, List.drop_nil]
  repeat (go_big_quiet_step (exact Calls.regrown_of (top_any s _)))
  refine wpQuiet_nil ?_
  intro w1 hb1
  go_wp2
  go_ret
  exact ⟨rfl, over (by repeat (first | exact Below.refl _ _ | refine al ?_ _ | refine Below.drew ?_ | refine sc ?_ (by simp) _)) hb1⟩
end Go.Proofs.Ytmfnkmmbihmjnaa
