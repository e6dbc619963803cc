/- Layer 1, the walks: whether a wall blocks (the program's). -/
import Derived.Test.YtmfnkmmbihmjnaaW1
open Go.RowKit
namespace Go.Proofs.Ytmfnkmmbihmjnaa
open Go.Hill
set_option maxRecDepth 100000 in
set_option maxHeartbeats 400000 in
theorem blocks_any (s : Wl) (a b : Stn) (w : World) (ha : a.In) (hb : b.In) (hs : s.In) :
    Calls Try.prog 56 #[.agg #[.int .i64 s.X1, .int .i64 s.Y1, .int .i64 s.X2, .int .i64 s.Y2, .int .i64 s.B, .int .i64 s.T], .agg #[.int .i64 a.X, .int .i64 a.Y, .int .i64 a.Z, .int .i64 a.M], .agg #[.int .i64 b.X, .int .i64 b.Y, .int .i64 b.Z, .int .i64 b.M]] w (Ret (.bool (blk s a b)) w) := by
  go_enter Try.func56, Try.ntmps56
  go_wp2_with fail
  refine named3 (p := fun W => Calls _ _ _ W _) ?_
  intro W hW B3 B4 B5
  refine (ends_any s _).mono ?_
  rintro e w1 ⟨rfl, hb1⟩
  replace hW := over hW hb1
  (try clear c3 t3 c4 t4 c5 t5); replace B3 := B3.later hb1; replace B4 := B4.later hb1; replace B5 := B5.later hb1; have c3 := B3.cell; have t3 := B3.lt; have c4 := B4.cell; have t4 := B4.lt; have c5 := B5.cell; have t5 := B5.lt
  clear hb1
  go_wp2_with fail
  refine named2 (p := Code.wp _ _ _ _) ?_
  intro w2 hb2 B7 B8
  replace hW := over hW hb2
  have hl := hb2.size
  (try clear c3 t3 c4 t4 c5 t5); replace B3 := B3.later hb2; replace B4 := B4.later hb2; replace B5 := B5.later hb2; have c3 := B3.cell; have t3 := B3.lt; have c4 := B4.cell; have t4 := B4.lt; have c5 := B5.cell; have t5 := B5.lt
  have c7 := B7.cell; have t7 := B7.lt; have c8 := B8.cell; have t8 := B8.lt
  clear hb2
  refine Fat.wp_region 8 [1, 3, 4, 5, 6, 7] [(6, 4), (7, 5)] (fun i => if i = 1 then isSpec (.agg #[.int .i64 a.X, .int .i64 a.Y]) else if i = 3 then isSpec (.agg #[.int .i64 b.X, .int .i64 b.Y])
      else if i = 6 then setSpec 130 #[.int .i64 a.X, .int .i64 a.Y] else if i = 7 then setSpec 130 #[.int .i64 b.X, .int .i64 b.Y] else newSpec 130 2)
    (fun i => by (repeat' split) <;> first | exact isSpec_lasting _ | exact setSpec_lasting _ _ | exact newSpec_lasting _ _)
    (fun i => by (repeat' split) <;> first | exact isSpec_local _ | exact setSpec_local _ _ | exact newSpec_local _ _) (by kernel_rfl) (by kernel_rfl) ?_
  simp only [List.take_succ_cons, List.take_nil, Fat.pick, List.contains_cons, List.contains_nil, Nat.reduceAdd, Nat.reduceBEq]
  repeat (first | simp only [Bool.or_false] | simp only [Bool.or_true] | simp only [Bool.true_or] | simp only [Bool.false_eq_true] | simp only [if_true] | simp only [if_false])
  repeat (go_big_quiet_step (fail))
  refine wpQuiet_nil ?_
  refine ⟨?_, ?_, ?_⟩
  · intro i o hi hown ho vals lo hi' W hW hdep
    simp only [List.contains_cons, List.contains_nil, Bool.or_false] at hi
    (try simp only [Bool.or_eq_true] at hi)
    simp only [beq_iff_eq] at hi
    rcases hi with rfl | rfl | rfl | rfl | rfl | rfl
    all_goals first
      | exact absurd hown (by decide)
      | (simp only [List.getElem?_cons_succ, List.getElem?_cons_zero, Option.some.injEq] at ho; subst ho; refine .inl ⟨rfl, ?_⟩; simp only [Fat.putN, Fat.dstOf, Act.put, List.getElem?_toArray, List.getElem?_cons_succ, List.getElem?_cons_zero, Option.bind_some, List.setIfInBounds_toArray, List.set_cons_succ, List.set_cons_zero])
    · go_simp
      exact (place_any a W).mono fun e w'' ⟨he, h⟩ => ⟨_, he, h, rfl⟩
    · go_simp
      exact (place_any b W).mono fun e w'' ⟨he, h⟩ => ⟨_, he, h, rfl⟩
    · go_simp
      exact newSpec_new _ _ _
    · go_simp
      exact newSpec_new _ _ _
  · intro i o hi hown ho vals lo hi' W hW hdep
    simp only [List.contains_cons, List.contains_nil, Bool.or_false] at hi
    (try simp only [Bool.or_eq_true] at hi)
    simp only [beq_iff_eq] at hi
    rcases hi with rfl | rfl | rfl | rfl | rfl | rfl
    all_goals first
      | exact absurd (by decide) hown
      | (simp only [List.getElem?_cons_succ, List.getElem?_cons_zero, Option.some.injEq] at ho; subst ho; refine ⟨rfl, ?_⟩; simp only [Fat.putN, Fat.dstOf, Act.put, List.getElem?_toArray, List.getElem?_cons_succ, List.getElem?_cons_zero, Option.bind_some, List.setIfInBounds_toArray, List.set_cons_succ, List.set_cons_zero]; (try simp only [Option.bind_none]))
    · obtain ⟨_, _, _, hn⟩ := hdep 4 rfl (by kernel_rfl)
      obtain ⟨_, _, _, (hv : vals 1 = _)⟩ := hdep 1 rfl (by kernel_rfl)
      exact gives_fill (x := .tmp 9) (y := .tmp 23) rfl hn #[.int .i64 a.X, .int .i64 a.Y] rfl hv rfl (by kernel_rfl) rfl
    · obtain ⟨_, _, _, hn⟩ := hdep 5 rfl (by kernel_rfl)
      obtain ⟨_, _, _, (hv : vals 3 = _)⟩ := hdep 3 rfl (by kernel_rfl)
      exact gives_fill (x := .tmp 10) (y := .tmp 25) rfl hn #[.int .i64 b.X, .int .i64 b.Y] rfl hv rfl (by kernel_rfl) rfl
  · intro vals lo hi' w5 hb3 hphi hdis htied
    obtain ⟨_, _, _, (p1 : vals 1 = _)⟩ := hphi 1 rfl
    obtain ⟨_, _, _, (p3 : vals 3 = _)⟩ := hphi 3 rfl
    obtain ⟨_, _, _, (p4 : vals 4 = _), _⟩ := hphi 4 rfl
    obtain ⟨_, _, _, (p5 : vals 5 = _), _⟩ := hphi 5 rfl
    obtain ⟨_, _, _, _, (B9 : Box w5 (lo 6) _ _)⟩ := hphi 6 rfl
    obtain ⟨_, _, _, _, (B10 : Box w5 (lo 7) _ _)⟩ := hphi 7 rfl
    rw [(htied 6 rfl (by decide)).1] at B9
    rw [(htied 7 rfl (by decide)).1] at B10
    simp only [Fat.putN, Fat.dstOf, Act.put, List.getElem?_toArray, List.getElem?_cons_succ, List.getElem?_cons_zero, Option.bind_some, List.setIfInBounds_toArray, List.set_cons_succ, List.set_cons_zero, List.drop_succ_cons, List.drop_nil]
    (try simp only [Option.bind_none])
    rw [p1, p3, p4, p5]
    clear p1 p3 p4 p5 hphi hdis htied vals
    replace B9 : Box w5 (lo 4) _ _ := B9
    replace B10 : Box w5 (lo 5) _ _ := B10
    generalize lo 4 = b9 at *
    generalize lo 5 = b10 at *
    replace hW := over hW hb3
    (try clear c3 t3 c4 t4 c5 t5 c7 t7 c8 t8); replace B3 := B3.later hb3; replace B4 := B4.later hb3; replace B5 := B5.later hb3; replace B7 := B7.later hb3; replace B8 := B8.later hb3; have c3 := B3.cell; have t3 := B3.lt; have c4 := B4.cell; have t4 := B4.lt; have c5 := B5.cell; have t5 := B5.lt; have c7 := B7.cell; have t7 := B7.lt; have c8 := B8.cell; have t8 := B8.lt
    have c9 := B9.cell; have t9 := B9.lt; have c10 := B10.cell; have t10 := B10.lt
    clear hb3
    clear hl
    go_wp2_with fail
    obtain ⟨x1, x2, x3, x4, x5, x6, x7, x8⟩ : In1 s.X1 ∧ In1 s.Y1 ∧ In1 s.X2 ∧ In1 s.Y2 ∧ In1 a.X ∧ In1 a.Y ∧ In1 b.X ∧ In1 b.Y := by unfold Wl.In at hs; unfold Stn.In at ha hb; unfold In1; omega
    refine Fat.wp_region_tail 10 (by kernel_rfl) (by kernel_rfl) ?_
    simp only [List.take_succ_cons, List.drop_succ_cons, List.take_nil, List.drop_nil]
    repeat (go_big_quiet_step (exact Calls.regrown_of (side_any _ _ _ _ _ _ _ (by assumption) (by assumption) (by assumption) (by assumption) (by assumption) (by assumption))))
    refine wpQuiet_nil ?_
    intro w6 hb6
    replace hW := over hW hb6
    (try clear c3 t3 c4 t4 c5 t5 c7 t7 c8 t8 c9 t9 c10 t10); replace B3 := B3.later hb6; replace B4 := B4.later hb6; replace B5 := B5.later hb6; replace B7 := B7.later hb6; replace B8 := B8.later hb6; replace B9 := B9.later hb6; replace B10 := B10.later hb6; have c3 := B3.cell; have t3 := B3.lt; have c4 := B4.cell; have t4 := B4.lt; have c5 := B5.cell; have t5 := B5.lt; have c7 := B7.cell; have t7 := B7.lt; have c8 := B8.cell; have t8 := B8.lt; have c9 := B9.cell; have t9 := B9.lt; have c10 := B10.cell; have t10 := B10.lt
    clear hb6
    have g1 := side_bd x1 x2 x3 x4 x5 x6
    have g2 := side_bd x1 x2 x3 x4 x7 x8
    have HB : Hid (blk s a b = blkOf s.B s.T a.Z b.Z (side s.X1 s.Y1 s.X2 s.Y2 a.X a.Y) (side s.X1 s.Y1 s.X2 s.Y2 b.X b.Y) (side a.X a.Y b.X b.Y s.X1 s.Y1) (side a.X a.Y b.X b.Y s.X2 s.Y2)) := rfl
    generalize side s.X1 s.Y1 s.X2 s.Y2 a.X a.Y = far at *
    generalize side s.X1 s.Y1 s.X2 s.Y2 b.X b.Y = other at *
    go_wp2_with fail
    iterate 3 (go_ret; exact ⟨ret_bool (by rw [HB.out]; simp_all [blkOf]), hW⟩)
    refine Fat.wp_region_tail 10 (by kernel_rfl) (by kernel_rfl) ?_
    simp only [List.take_succ_cons, List.drop_succ_cons, List.take_nil, List.drop_nil]
    repeat (go_big_quiet_step (exact Calls.regrown_of (side_any _ _ _ _ _ _ _ (by assumption) (by assumption) (by assumption) (by assumption) (by assumption) (by assumption))))
    refine wpQuiet_nil ?_
    intro w7 hb7
    replace hW := over hW hb7
    (try clear c3 t3 c4 t4 c5 t5 c7 t7 c8 t8 c9 t9 c10 t10); replace B3 := B3.later hb7; replace B4 := B4.later hb7; replace B5 := B5.later hb7; replace B7 := B7.later hb7; replace B8 := B8.later hb7; replace B9 := B9.later hb7; replace B10 := B10.later hb7; have c3 := B3.cell; have t3 := B3.lt; have c4 := B4.cell; have t4 := B4.lt; have c5 := B5.cell; have t5 := B5.lt; have c7 := B7.cell; have t7 := B7.lt; have c8 := B8.cell; have t8 := B8.lt; have c9 := B9.cell; have t9 := B9.lt; have c10 := B10.cell; have t10 := B10.lt
    clear hb7
    generalize side a.X a.Y b.X b.Y s.X1 s.Y1 = ss at *
    generalize side a.X a.Y b.X b.Y s.X2 s.Y2 = tt at *
    clear x1 x2 x3 x4 x5 x6 x7 x8
    go_wp2_with fail
    all_goals first
      | (go_ret; exact ⟨ret_bool (by rw [HB.out]; simp_all [blkOf]), hW⟩)
      | skip
    all_goals
      have HT : Hid (blkOf s.B s.T a.Z b.Z far other ss tt = (decide (0 ≤ Hill.over s.B a.Z b.Z (absI far) (absI other)) && decide (Hill.over s.T a.Z b.Z (absI far) (absI other) ≤ 0))) := by
        simp_all [blkOf, Hid]
      have HQ : Hid (blk s a b = (decide (0 ≤ Hill.over s.B a.Z b.Z (absI far) (absI other)) && decide (Hill.over s.T a.Z b.Z (absI far) (absI other) ≤ 0))) := HB.out.trans HT.out
      clear HB HT
      have q1 : 0 ≤ absI far ∧ absI far ≤ 20000 := by unfold absI; omega
      have q2 : 0 ≤ absI other ∧ absI other ≤ 20000 := by unfold absI; omega
      refine (abs_any _ _ (by omega) (by omega)).mono ?_
      rintro e w8 ⟨rfl, hb8⟩
      replace hW := over hW hb8
      replace B3 := B3.later hb8; replace B4 := B4.later hb8; replace B5 := B5.later hb8
      clear hb8
      go_wp2_with fail
      refine (abs_any _ _ (by omega) (by omega)).mono ?_
      rintro e w9 ⟨rfl, hb9⟩
      replace hW := over hW hb9
      (try clear c3 t3 c4 t4 c5 t5)
      (try clear c3 t3 c4 t4 c5 t5); replace B3 := B3.later hb9; replace B4 := B4.later hb9; replace B5 := B5.later hb9; have c3 := B3.cell; have t3 := B3.lt; have c4 := B4.cell; have t4 := B4.lt; have c5 := B5.cell; have t5 := B5.lt
      clear hb9
      go_wp2_with fail
      refine named2 (p := fun W => Calls _ _ _ W _) ?_
      intro w10 hb10 B15 B16
      replace hW := over hW hb10
      replace B3 := B3.later hb10; replace B4 := B4.later hb10; replace B5 := B5.later hb10
      clear hb10
      refine (above_base s a b _ _ _ ha hb hs q1.1 q1.2 q2.1 q2.2).mono ?_
      rintro e w11 ⟨rfl, hb11⟩
      replace hW := over hW hb11
      (try clear c3 t3 c4 t4 c5 t5)
      (try clear c3 t3 c4 t4 c5 t5 c15 t15 c16 t16); replace B3 := B3.later hb11; replace B4 := B4.later hb11; replace B5 := B5.later hb11; replace B15 := B15.later hb11; replace B16 := B16.later hb11; have c3 := B3.cell; have t3 := B3.lt; have c4 := B4.cell; have t4 := B4.lt; have c5 := B5.cell; have t5 := B5.lt; have c15 := B15.cell; have t15 := B15.lt; have c16 := B16.cell; have t16 := B16.lt
      clear hb11
      generalize Hill.over s.B a.Z b.Z (absI far) (absI other) = ob at *
      go_wp2_with (go_at_call 89; refine (above_top s a b _ _ _ ha hb hs q1.1 q1.2 q2.1 q2.2).mono ?_; rintro e w12 ⟨rfl, hb12⟩; replace hW := over hW hb12)
      all_goals
        go_ret
        exact ⟨ret_bool (by rw [HQ.out]; first | (simp; omega) | (simp_all; done)), hW⟩
end Go.Proofs.Ytmfnkmmbihmjnaa
