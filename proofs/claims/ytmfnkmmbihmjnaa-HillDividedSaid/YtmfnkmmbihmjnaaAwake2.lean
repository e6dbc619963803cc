/- The chapter's examples: they are as they should be. -/
import Derived.Test.YtmfnkmmbihmjnaaAwake
open Go.RowKit
namespace Go.Proofs.Ytmfnkmmbihmjnaa
open Go.Hill

theorem chk149 : (threeL 149).chk = 0 := by decide +kernel
theorem chk159 : (threeL 159).chk = 0 := by decide +kernel
theorem ex_why : Land.whyE (threeL 149) 0 2 1 1 = (4, 0, 0) := by decide +kernel
theorem ex_hours : Land.hrsE (threeL 149) 0 2 0 = ([1, 2], 0) := by decide +kernel
theorem ex_stick : Land.stickE (threeL 149) 0 2 1 = (1, 0) := by decide +kernel
theorem ex_reach : Land.rchE (threeL 149) 0 0 1 = ([1, 2], 0) := by decide +kernel
theorem ex_rise : Land.riseE (threeL 159) 0 1 = (19, 0) := by decide +kernel
theorem ex_mir : Land.mirE (threeL 149) 2 1 2 = (2, 0) := by decide +kernel

theorem ints_yes (l : List Int) (a b : Option Addr) (c d : Nat) (w : World) (hl : IntsAt w a l) (hm : IntsAt w b l) (l1 : l.length ≤ 1000) :
    Calls Try.prog 25 #[.slice a l.length c, .slice b l.length d] w (Ret (.bool true) w) := by
  have := ints_any l l a b c d w hl hm l1 l1
  rwa [show decide (l = l) = true by simp] at this
theorem ints_box {W : World} {b : Nat} {x y : Int} (hB : Box W b #[.int .i64 x, .int .i64 y] 3) : IntsAt W (some ⟨b, 0, none⟩) [x, y] := row_box hB rfl (by simp)

set_option maxRecDepth 100000 in
set_option maxHeartbeats 4000000 in
theorem awake_any (w : World) : Calls Try.prog 18 #[] w (Ret (.bool true) w) := by
  have s1 := small_of chk149
  have s2 := small_of chk159
  have HWhy := Lib.hid (fun q W hL => ex_why ▸ Why_any q (threeL 149) 0 2 1 1 W hL s1)
  have HHrs := Lib.hid (fun q W hL => ex_hours ▸ Hours_any q (threeL 149) 0 2 0 W hL s1)
  have HStk := Lib.hid (fun q W hL => ex_stick ▸ Stick_any q (threeL 149) 0 2 1 W hL s1)
  have HRch := Lib.hid (fun q W hL => ex_reach ▸ Reach_any q (threeL 149) 0 0 1 W hL s1)
  have HRis := Lib.hid (fun q W hL => ex_rise ▸ Rise_any q (threeL 159) 0 1 W hL s2)
  have HMir := Lib.hid (fun q W hL => ex_mir ▸ Mirrors_any q (threeL 149) 2 1 2 W hL s1)
  clear s1 s2
  go_enter Try.func18, Try.ntmps18
  go_wp2_with fail
  refine (three_any 149 w).mono ?_
  rintro e w1 ⟨q1, rfl, hW, hL1⟩
  go_wp2_with fail
  refine (HWhy.out q1 w1 hL1).mono ?_
  rintro e w2 ⟨rfl, hb2⟩
  replace hW := over hW hb2
  clear hb2 hL1
  go_wp2_with fail
  refine (three_any 149 w2).mono ?_
  rintro e w3 ⟨q2, rfl, hb3, hL2⟩
  replace hW := over hW hb3
  clear hb3
  go_wp2_with fail
  refine (HHrs.out q2 w3 hL2).mono ?_
  rintro e w4 ⟨ha, hcp, rfl, hb4, hi4⟩
  replace hW := over hW hb4
  clear hb4 hL2
  have HI4 := Lib.hid (show IntsAt w4 ha [1, 2] from hi4)
  clear hi4
  go_wp2_with fail
  refine (three_any 149 w4).mono ?_
  rintro e w5 ⟨q3, rfl, hb5, hL3⟩
  replace hW := over hW hb5
  have HI5 := Lib.hid (HI4.out.later hb5)
  clear hb5 HI4
  go_wp2_with fail
  refine (HStk.out q3 w5 hL3).mono ?_
  rintro e w6 ⟨rfl, hb6⟩
  replace hW := over hW hb6
  have HI6 := Lib.hid (HI5.out.later hb6)
  clear hb6 hL3 HI5
  go_wp2_with fail
  refine (three_any 149 w6).mono ?_
  rintro e w7 ⟨q4, rfl, hb7, hL4⟩
  replace hW := over hW hb7
  have HI7 := Lib.hid (HI6.out.later hb7)
  clear hb7 HI6
  go_wp2_with fail
  refine (HRch.out q4 w7 hL4).mono ?_
  rintro e w8 ⟨ra, rcp, rfl, hb8, hi8⟩
  replace hW := over hW hb8
  have HI8 := Lib.hid (HI7.out.later hb8)
  have HR8 := Lib.hid (show IntsAt w8 ra [1, 2] from hi8)
  clear hb8 hL4 HI7 hi8
  go_wp2_with fail
  refine (three_any 159 w8).mono ?_
  rintro e w9 ⟨q5, rfl, hb9, hL5⟩
  replace hW := over hW hb9
  have HI9 := Lib.hid (HI8.out.later hb9)
  have HR9 := Lib.hid (HR8.out.later hb9)
  clear hb9 HI8 HR8
  go_wp2_with fail
  refine (HRis.out q5 w9 hL5).mono ?_
  rintro e w10 ⟨rfl, hb10⟩
  replace hW := over hW hb10
  have HI10 := Lib.hid (HI9.out.later hb10)
  have HR10 := Lib.hid (HR9.out.later hb10)
  clear hb10 hL5 HI9 HR9
  go_wp2_with fail
  refine (three_any 149 w10).mono ?_
  rintro e w11 ⟨q6, rfl, hb11, hL6⟩
  replace hW := over hW hb11
  have HI11 := Lib.hid (HI10.out.later hb11)
  have HR11 := Lib.hid (HR10.out.later hb11)
  clear hb11 HI10 HR10
  go_wp2_with fail
  refine (HMir.out q6 w11 hL6).mono ?_
  rintro e w12 ⟨rfl, hb12⟩
  replace hW := over hW hb12
  have HI12 := Lib.hid (HI11.out.later hb12)
  have HR12 := Lib.hid (HR11.out.later hb12)
  clear hb12 hL6 HI11 HR11
  go_wp2_with fail
  refine named1 (p := fun W => Calls _ _ _ W _) ?_
  intro w13 hb13 B1
  replace hW := over hW hb13
  refine (ints_yes [1, 2] ha _ _ _ w13 (HI12.out.later hb13) (ints_box B1) (by decide)).mono ?_
  rintro e w14 ⟨rfl, hb14⟩
  replace hW := over hW hb14
  have HR14 := Lib.hid ((HR12.out.later hb13).later hb14)
  clear hb13 hb14 B1 HI12 HR12
  go_wp2_with fail
  refine named1 (p := fun W => Calls _ _ _ W _) ?_
  intro w15 hb15 B1
  replace hW := over hW hb15
  refine (ints_yes [1, 2] ra _ _ _ w15 (HR14.out.later hb15) (ints_box B1) (by decide)).mono ?_
  rintro e w16 ⟨rfl, hb16⟩
  replace hW := over hW hb16
  clear hb15 hb16 B1 HR14
  go_wp2_with fail
  go_ret
  exact ⟨rfl, hW⟩
end Go.Proofs.Ytmfnkmmbihmjnaa
