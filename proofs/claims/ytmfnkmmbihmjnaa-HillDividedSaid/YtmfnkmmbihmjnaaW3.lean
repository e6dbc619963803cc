/- Layer 1, the walks: what is valid (the program's), sides and what blocks (the reference's). -/
import Derived.Test.YtmfnkmmbihmjnaaW2
open Go.RowKit
namespace Go.Proofs.Ytmfnkmmbihmjnaa
open Go.Hill


theorem on_any (x y : Int) (w : World) : Calls Try.prog 100 #[.agg #[.int .i64 x, .int .i64 y]] w (Ret (.bool (inB x 0 100 && inB y 0 100)) w) := by
  go_enter Try.func100, Try.ntmps100
  go_wp2_with fail
  refine named1 (p := fun W => Calls _ _ _ W _) ?_
  intro W hW B1
  have c1 := B1.cell; have t1 := B1.lt
  go_wp2_with (go_at_call 79; refine (within_any _ _ _ _).mono ?_; rintro e w' ⟨rfl, hb⟩; replace hW := over hW hb; (try clear c1 t1); replace B1 := B1.later hb; have c1 := B1.cell; have t1 := B1.lt; clear hb)
  all_goals
    go_ret
    exact ⟨ret_bool (by simp_all), hW⟩

theorem stn_valid (s : Stn) (w : World) : Calls Try.prog 70 #[.agg #[.int .i64 s.X, .int .i64 s.Y, .int .i64 s.Z, .int .i64 s.M]] w (Ret (.bool s.ok) w) := by
  have HK : Hid (s.ok = (inB s.X 0 100 && inB s.Y 0 100 && inB s.Z 0 1000 && inB s.M 1 2)) := rfl
  go_enter Try.func70, Try.ntmps70
  go_wp2_with fail
  refine named1 (p := fun W => Calls _ _ _ W _) ?_
  intro W hW B1
  have c1 := B1.cell; have t1 := B1.lt
  go_wp2_with (first
    | (go_at_call 84; refine (place_any s _).mono ?_; rintro e w' ⟨rfl, hb⟩; replace hW := over hW hb; (try clear c1 t1); replace B1 := B1.later hb; have c1 := B1.cell; have t1 := B1.lt; clear hb)
    | (go_at_call 100; refine (on_any _ _ _).mono ?_; rintro e w' ⟨rfl, hb⟩; replace hW := over hW hb; (try clear c1 t1); replace B1 := B1.later hb; have c1 := B1.cell; have t1 := B1.lt; clear hb)
    | (go_at_call 79; refine (within_any _ _ _ _).mono ?_; rintro e w' ⟨rfl, hb⟩; replace hW := over hW hb; (try clear c1 t1); replace B1 := B1.later hb; have c1 := B1.cell; have t1 := B1.lt; clear hb))
  all_goals
    go_ret
    exact ⟨ret_bool (by rw [HK.out]; simp_all), hW⟩

set_option maxRecDepth 100000 in
set_option maxHeartbeats 400000 in
theorem wl_valid (s : Wl) (w : World) : Calls Try.prog 93 #[.agg #[.int .i64 s.X1, .int .i64 s.Y1, .int .i64 s.X2, .int .i64 s.Y2, .int .i64 s.B, .int .i64 s.T]] w (Ret (.bool s.ok) w) := by
  have HK : Hid (s.ok = (inB s.X1 0 100 && inB s.Y1 0 100 && inB s.X2 0 100 && inB s.Y2 0 100 && !(s.X1 == s.X2 && s.Y1 == s.Y2) && inB s.B 0 s.T && decide (s.T ≤ 1000))) := rfl
  go_enter Try.func93, Try.ntmps93
  go_wp2_with fail
  refine named1 (p := fun W => Calls _ _ _ W _) ?_
  intro W hW B1
  refine (ends_any s _).mono ?_
  rintro e w1 ⟨rfl, hb1⟩
  replace hW := over hW hb1
  (try clear c1 t1); replace B1 := B1.later hb1; have c1 := B1.cell; have t1 := B1.lt
  clear hb1
  go_wp2_with fail
  refine named2 (p := fun W => Calls _ _ _ W _) ?_
  intro w2 hb2 B3 B4
  replace hW := over hW hb2
  (try clear c1 t1); replace B1 := B1.later hb2; have c1 := B1.cell; have t1 := B1.lt
  have c3 := B3.cell; have t3 := B3.lt; have c4 := B4.cell; have t4 := B4.lt
  clear hb2
  go_wp2_with (first
    | (go_at_call 100; refine (on_any _ _ _).mono ?_; rintro e w' ⟨rfl, hb⟩; replace hW := over hW hb; (try clear c1 t1 c3 t3 c4 t4); replace B1 := B1.later hb; replace B3 := B3.later hb; replace B4 := B4.later hb; have c1 := B1.cell; have t1 := B1.lt; have c3 := B3.cell; have t3 := B3.lt; have c4 := B4.cell; have t4 := B4.lt; clear hb)
    | (go_at_call 79; refine (within_any _ _ _ _).mono ?_; rintro e w' ⟨rfl, hb⟩; replace hW := over hW hb; (try clear c1 t1 c3 t3 c4 t4); replace B1 := B1.later hb; replace B3 := B3.later hb; replace B4 := B4.later hb; have c1 := B1.cell; have t1 := B1.lt; have c3 := B3.cell; have t3 := B3.lt; have c4 := B4.cell; have t4 := B4.lt; clear hb))
  all_goals
    go_ret
    exact ⟨ret_bool (by rw [HK.out]; simp_all), hW⟩

theorem sign_any (n : Int) (w : World) : Calls Try.prog 108 #[.int .i64 n] w (Ret (.int .i64 (Hill.sgn n)) w) := by
  go_enter Try.func108, Try.ntmps108
  go_wp2
  all_goals
    go_ret
    exact ⟨ret_int (by unfold Hill.sgn; repeat' split <;> omega), (by repeat (first | exact Below.refl _ _ | refine al ?_ _ | refine Below.drew ?_ | refine sc ?_ (by simp) _))⟩

theorem rside_any (px py qx qy x y : Int) (w : World) (h1 : In1 px) (h2 : In1 py) (h3 : In1 qx) (h4 : In1 qy) (h5 : In1 x) (h6 : In1 y) :
    Calls Try.prog 92 #[.int .i64 px, .int .i64 py, .int .i64 qx, .int .i64 qy, .int .i64 x, .int .i64 y] w (Ret (.int .i64 (side px py qx qy x y)) w) := by
  obtain ⟨⟨b1, b2⟩, b3, b4⟩ := side_mul h1 h2 h3 h4 h5 h6
  unfold In1 at *
  go_enter Try.func92, Try.ntmps92
  go_wp2
  go_ret
  exact ⟨rfl, (by repeat (first | exact Below.refl _ _ | refine al ?_ _ | refine Below.drew ?_ | refine sc ?_ (by simp) _))⟩

set_option maxRecDepth 100000 in
set_option maxHeartbeats 400000 in
theorem crosses_any (s : Wl) (a b : Stn) (w : World) (ha : a.In) (hb : b.In) (hs : s.In) :
    Calls Try.prog 91 #[.agg #[.int .i64 s.X1, .int .i64 s.Y1, .int .i64 s.X2, .int .i64 s.Y2, .int .i64 s.B, .int .i64 s.T], .agg #[.int .i64 a.X, .int .i64 a.Y, .int .i64 a.Z, .int .i64 a.M], .agg #[.int .i64 b.X, .int .i64 b.Y, .int .i64 b.Z, .int .i64 b.M]] w
      (Ret (.bool (rcross (side s.X1 s.Y1 s.X2 s.Y2 a.X a.Y) (side s.X1 s.Y1 s.X2 s.Y2 b.X b.Y) (side a.X a.Y b.X b.Y s.X1 s.Y1) (side a.X a.Y b.X b.Y s.X2 s.Y2))) w) := by
  obtain ⟨x1, x2, x3, x4, x5, x6, x7, x8⟩ : In1 s.X1 ∧ In1 s.Y1 ∧ In1 s.X2 ∧ In1 s.Y2 ∧ In1 a.X ∧ In1 a.Y ∧ In1 b.X ∧ In1 b.Y := by unfold Wl.In at hs; unfold Stn.In at ha hb; unfold In1; omega
  clear ha hb hs
  go_enter Try.func91, Try.ntmps91
  go_wp2_with fail
  refine named3 (p := Code.wp _ _ _ _) ?_
  intro W hW B3 B4 B5
  have c3 := B3.cell; have t3 := B3.lt; have c4 := B4.cell; have t4 := B4.lt; have c5 := B5.cell; have t5 := B5.lt
  refine Fat.wp_region_tail 28 (by kernel_rfl) (by kernel_rfl) ?_
  simp only [List.take_succ_cons, List.drop_succ_cons, List.take_nil, List.drop_nil]
  repeat (go_big_quiet_step (exact Calls.regrown_of (rside_any _ _ _ _ _ _ _ (by assumption) (by assumption) (by assumption) (by assumption) (by assumption) (by assumption))))
  refine wpQuiet_nil ?_
  intro w1 hb1
  replace hW := over hW hb1
  (try clear c3 t3 c4 t4 c5 t5); replace B3 := B3.later hb1; replace B4 := B4.later hb1; replace B5 := B5.later hb1; have c3 := B3.cell; have t3 := B3.lt; have c4 := B4.cell; have t4 := B4.lt; have c5 := B5.cell; have t5 := B5.lt
  clear hb1
  go_wp2_with fail
  refine Fat.wp_region_tail 28 (by kernel_rfl) (by kernel_rfl) ?_
  simp only [List.take_succ_cons, List.drop_succ_cons, List.take_nil, List.drop_nil]
  repeat (go_big_quiet_step (exact Calls.regrown_of (rside_any _ _ _ _ _ _ _ (by assumption) (by assumption) (by assumption) (by assumption) (by assumption) (by assumption))))
  refine wpQuiet_nil ?_
  intro w2 hb2
  replace hW := over hW hb2
  clear B3 B4 B5 c3 c4 c5 t3 t4 t5 hb2
  generalize side s.X1 s.Y1 s.X2 s.Y2 a.X a.Y = d1 at *
  generalize side s.X1 s.Y1 s.X2 s.Y2 b.X b.Y = d2 at *
  generalize side a.X a.Y b.X b.Y s.X1 s.Y1 = d3 at *
  generalize side a.X a.Y b.X b.Y s.X2 s.Y2 = d4 at *
  have HR : Hid (rcross d1 d2 d3 d4 = (sgn d1 * sgn d2 == -1 && sgn d3 * sgn d4 != 1)) := rfl
  obtain ⟨m1, m2⟩ := sgn_mul d1 d2
  obtain ⟨m3, m4⟩ := sgn_mul d3 d4
  clear x1 x2 x3 x4 x5 x6 x7 x8
  go_wp2_with (go_at_call 108; refine (sign_any _ _).mono ?_; rintro e w' ⟨rfl, hb⟩; replace hW := over hW hb; clear hb)
  all_goals
    go_ret
    exact ⟨ret_bool (by rw [HR.out]; simp_all), hW⟩

theorem ridge_any (s : Wl) (w : World) : Calls Try.prog 72 #[.agg #[.int .i64 s.X1, .int .i64 s.Y1, .int .i64 s.X2, .int .i64 s.Y2, .int .i64 s.B, .int .i64 s.T]] w (Ret (.bool s.rg) w) := by
  have HK : Hid (s.rg = (s.ok && s.B == 0)) := rfl
  go_enter Try.func72, Try.ntmps72
  go_wp2_with fail
  refine named1 (p := fun W => Calls _ _ _ W _) ?_
  intro W hW B1
  have c1 := B1.cell; have t1 := B1.lt
  go_wp2_with (go_at_call 93; refine (wl_valid s _).mono ?_; rintro e w' ⟨rfl, hb⟩; replace hW := over hW hb; (try clear c1 t1); replace B1 := B1.later hb; have c1 := B1.cell; have t1 := B1.lt; clear hb)
  all_goals
    go_ret
    exact ⟨ret_bool (by rw [HK.out]; simp_all), hW⟩

set_option maxRecDepth 100000 in
theorem iswall_any (s : Wl) (w : World) : Calls Try.prog 80 #[.agg #[.int .i64 s.X1, .int .i64 s.Y1, .int .i64 s.X2, .int .i64 s.Y2, .int .i64 s.B, .int .i64 s.T]] w (Ret (.bool s.ok) w) := by
  have HK : Hid (s.ok = (inB s.X1 0 100 && inB s.Y1 0 100 && inB s.X2 0 100 && inB s.Y2 0 100 && !(s.X1 == s.X2 && s.Y1 == s.Y2) && inB s.B 0 s.T && decide (s.T ≤ 1000))) := rfl
  go_enter Try.func80, Try.ntmps80
  go_wp2_with fail
  refine named1 (p := fun W => Calls _ _ _ W _) ?_
  intro W hW B1
  have c1 := B1.cell; have t1 := B1.lt
  go_wp2_with (go_at_call 23; refine (in_any _ _ _ _).mono ?_; rintro e w' ⟨rfl, hb⟩; replace hW := over hW hb; (try clear c1 t1); replace B1 := B1.later hb; have c1 := B1.cell; have t1 := B1.lt; clear hb)
  all_goals
    go_ret
    exact ⟨ret_bool (by rw [HK.out]; simp_all [bne]), hW⟩
end Go.Proofs.Ytmfnkmmbihmjnaa
