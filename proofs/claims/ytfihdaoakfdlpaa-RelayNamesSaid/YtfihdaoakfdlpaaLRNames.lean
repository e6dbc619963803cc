/- The closed statement on relays: its walk. -/
import Derived.Test.YtfihdaoakfdlpaaRAwk
import Derived.Test.YtfihdaoakfdlpaaR20
import Derived.Test.YtfihdaoakfdlpaaR24
import Derived.Test.YtfihdaoakfdlpaaRB
import Derived.Test.YtfihdaoakfdlpaaRV1
open Go.RowKit
namespace Go.Proofs.Ytfihdaoakfdlpaa
open Go.Hill

deriving instance DecidableEq for Hi
theorem nx1 : Land.earlE (threeR 4) 0 0 0 = ([0, 2, 2], 0) := by decide +kernel
theorem nx2 : Land.stkE (threeR 4) 0 2 2 = ([], 0) := by decide +kernel
theorem nx3 : Land.latE (threeR 4) 0 2 4 = (3, 0) := by decide +kernel
theorem nx4 : Land.vitE (threeR 4) 0 2 0 = ([], 0) := by decide +kernel
theorem nx5 : Land.sticE (threeR 4) 0 0 [⟨0, 2, 1⟩] = (0, 1, 0) := by decide +kernel
theorem nx6 : Land.routeE (threeR 4) 1 1 2 = ([], 2, 0) := by decide +kernel
theorem nx7 : Land.prvE (threeR 4) 0 0 1 [0, 2, 3] = true := by decide +kernel
theorem nx8 : Land.prvE (threeR 4) 0 0 1 [0, 2, 4] = false := by decide +kernel
theorem nx9 : Land.prvR (threeR 4) 0 2 0 [⟨0, 2, 3⟩] 4 = true := by decide +kernel
theorem nx10 : Land.prvR (threeR 4) 0 2 0 [⟨0, 2, 3⟩] 3 = false := by decide +kernel
theorem nx11 : Land.earlE (threeR 4) 3 0 0 = ([], 2) := by decide +kernel
theorem nx12 : Land.sureE (threeR 4) 0 2 5 = (0, 0, 2) := by decide +kernel
theorem nx13 : Land.sureE (threeR 4) 0 2 4 = (0, 0, 10) := by decide +kernel
theorem nx14 : Land.latE (threeR 4) 0 2 1 = (0, 10) := by decide +kernel
theorem nx15 : Land.vitE (threeR 3) 0 2 2 = ([], 10) := by decide +kernel
theorem nx16 : Land.routeE (threeR 3) 0 2 2 = ([], 0, 10) := by decide +kernel
theorem nx17 : Land.sticE (threeR 4) 0 0 (List.replicate 13 ⟨0, 0, 0⟩) = (0, 0, 3) := by decide +kernel
theorem nx18 : Land.sticE (threeR 4) 0 2 [⟨0, 2, 1⟩] = (0, 0, 2) := by decide +kernel
theorem nx19 : Land.sticE (threeR 4) 0 2 [] = (0, 0, 7) := by decide +kernel
theorem nx20 : Land.stkE (threeR 3) 0 2 2 = ([1], 0) := by decide +kernel
/-- The land with a ridge that does not begin at 0. -/
def badR : Land := ⟨[⟨10, 10, 100, 1⟩, ⟨30, 10, 200, 1⟩, ⟨10, 30, 50, 2⟩], [⟨20, 5, 20, 15, 1, 149⟩], [[], [⟨⟨5, 20, 25, 20, 0, 80⟩, 1, 2⟩]], [⟨50, 0, 0⟩, ⟨50, 0, 20⟩, ⟨-50, 0, 30⟩, ⟨50, 0, 5⟩]⟩
theorem nx21 : Land.earlE badR 9 9 9 = ([], 1) := by decide +kernel
theorem bad_small : Small badR := ⟨by decide, by decide, by decide, by decide, fun c hc => by
  simp only [badR, List.mem_cons, List.not_mem_nil, or_false] at hc
  rcases hc with rfl | rfl <;> decide⟩
theorem mk13 (w : World) : (Instr.makeSlice 56 (.int .i64 13) (.int .i64 13)).run Try.prog w = .ok (.slice (some ⟨w.heap.size, 0, none⟩) 13 13) (w.alloc (.cells (List.replicate 39 (Value.int .i64 0)).toArray 63)) := by kernel_rfl
abbrev stB : Array Value := #[.int .i64 10, .int .i64 10, .int .i64 100, .int .i64 1, .int .i64 30, .int .i64 10, .int .i64 200, .int .i64 1, .int .i64 10, .int .i64 30, .int .i64 50, .int .i64 2]
abbrev clB : Array Value := #[.int .i64 5, .int .i64 20, .int .i64 25, .int .i64 20, .int .i64 0, .int .i64 80, .int .i64 1, .int .i64 2]
abbrev snB : Array Value := #[.int .i64 50, .int .i64 0, .int .i64 0, .int .i64 50, .int .i64 0, .int .i64 20, .int .i64 (-50), .int .i64 0, .int .i64 30, .int .i64 50, .int .i64 0, .int .i64 5]
abbrev wlB (b : Int) : Array Value := #[.int .i64 20, .int .i64 5, .int .i64 20, .int .i64 15, .int .i64 b, .int .i64 149]
structure ThreeB (W : World) (n : Nat) (b : Int) : Prop where
  b1 : Box W n stB 78
  b2 : Box W (n + 1) (wlB b) 67
  b3 : Box W (n + 1 + 1) clB 98
  b4 : Box W (n + 1 + 1 + 1) #[.slice none 0 0, .slice (some ⟨n + 1 + 1, 0, none⟩) 1 1] 80
  b5 : Box W (n + 1 + 1 + 1 + 1) snB 84
abbrev threeV (n : Nat) : Value := .agg #[.slice (some ⟨n, 0, none⟩) 3 3, .slice (some ⟨n + 1, 0, none⟩) 1 1, .slice (some ⟨n + 1 + 1 + 1, 0, none⟩) 2 2, .slice (some ⟨n + 1 + 1 + 1 + 1, 0, none⟩) 4 4]
theorem ThreeB.later {W W' : World} {n : Nat} {b : Int} (h : ThreeB W n b) (hb : Below W.heap.size W W') : ThreeB W' n b := ⟨h.b1.later hb, h.b2.later hb, h.b3.later hb, h.b4.later hb, h.b5.later hb⟩
theorem ThreeB.bad {W : World} {n : Nat} (h : ThreeB W n 1) : LandAt W ⟨some ⟨n, 0, none⟩, 3, some ⟨n + 1, 0, none⟩, 1, some ⟨n + 1 + 1 + 1, 0, none⟩, 2, some ⟨n + 1 + 1 + 1 + 1, 0, none⟩, 4⟩ badR := by
  refine ⟨row_box h.b1 rfl (by simp [badR, Stn.vs]), row_box h.b2 rfl (by simp [badR, Wl.vs]), ⟨[⟨none, 0, []⟩, ⟨some ⟨n + 1 + 1, 0, none⟩, 1, [⟨⟨5, 20, 25, 20, 0, 80⟩, 1, 2⟩]⟩], rfl, row_box h.b4 rfl (by simp), fun x hx => ?_⟩, row_box h.b5 rfl (by simp [badR, Sn.vs]), Nat.le_refl _, Nat.le_refl _, Nat.le_refl _, Nat.le_refl _⟩
  simp only [List.mem_cons, List.not_mem_nil, or_false] at hx
  rcases hx with rfl | rfl
  · exact .inl rfl
  · exact row_box h.b3 rfl (by simp [Cd.vs])
set_option maxRecDepth 100000 in
set_option maxHeartbeats 4000000 in
theorem three4_any (w : World) : Calls Try.prog 19 #[.int .i64 4] w (fun e w' => ∃ n, w.heap.size ≤ n ∧ e = .returned (threeV n) ∧ Below w.heap.size w w' ∧ ThreeB w' n 0) := by
  go_enter Try.func19, Try.ntmps19
  go_wp2_with fail
  refine bodyPost_ret (v := threeV (w.heap.size + 1)) (by simp [results, Try.results19, go_sem]) rfl
    ⟨w.heap.size + 1, by omega, rfl, (by repeat (first | exact Below.refl _ _ | refine al ?_ _ | refine Below.drew ?_ | refine sc ?_ (by simp) _)), ?_⟩
  refine ⟨?_, ?_, ?_, ?_, ?_⟩ <;> repeat (first | exact Box.newAt _ _ (by simp) | refine Box.alloc ?_ _)
theorem namedDrew {p : World → Prop} {w : World} {c : Array Value} {t : TypeId} (h : ∀ W, Below w.heap.size w W → Box W w.heap.size c t → p W) : p (w.alloc (.cells c t)).drew :=
  h _ (Below.drew (al (Below.refl _ _) _)) (Box.new w c t)
def threeSp : Fat.Spec := fun v _ _ w => ∃ q, v = landV q (threeR 4) ∧ LandAt w q (threeR 4)
theorem threeSp_lasting : Fat.Lasting threeSp := fun _ _ _ _ _ hb _ ⟨q, h1, h2⟩ => ⟨q, h1, h2.later hb⟩
def hopsSp : Fat.Spec := fun v _ _ w => ∃ a, v = .slice a 13 13 ∧ HisAt w a (List.replicate 13 ⟨0, 0, 0⟩)
theorem hopsSp_lasting : Fat.Lasting hopsSp := fun _ _ _ _ _ hb _ ⟨a, h1, h2⟩ => ⟨a, h1, RowAt.later h2 hb⟩
set_option maxRecDepth 100000 in
set_option maxHeartbeats 8000000 in
theorem RelayNames_any (w : World) : Calls Try.prog 6 #[] w (Ret (.bool true) w) := by
  have s4 := small_of rchk4
  have s3 := small_of rchk3
  have H1 := Lib.hid (fun q W hL => nx1 ▸ Earliest_any q (threeR 4) 0 0 0 W hL s4)
  have H2 := Lib.hid (fun q W hL => nx2 ▸ Stuck_any q (threeR 4) 0 2 2 W hL s4)
  have H3 := Lib.hid (fun q W hL => nx3 ▸ Latest_any q (threeR 4) 0 2 4 W hL s4)
  have H4 := Lib.hid (fun q W hL => nx4 ▸ Vital_any q (threeR 4) 0 2 0 W hL s4)
  have H5 := Lib.hid (fun q W hL a c hl => nx5 ▸ Stick_any q (threeR 4) 0 0 [⟨0, 2, 1⟩] a c W hL s4 hl (by decide))
  have H6 := Lib.hid (fun q W hL => nx6 ▸ Route_any q (threeR 4) 1 1 2 W hL s4)
  have H7 := Lib.hid (fun q W hL a c hl => nx7 ▸ ProveTable_any q (threeR 4) 0 0 1 [0, 2, 3] a c W hL s4 hl (by decide))
  have H8 := Lib.hid (fun q W hL a c hl => nx8 ▸ ProveTable_any q (threeR 4) 0 0 1 [0, 2, 4] a c W hL s4 hl (by decide))
  have H9 := Lib.hid (fun q W hL a c hl => nx9 ▸ ProveRoute_any q (threeR 4) 0 2 0 [⟨0, 2, 3⟩] a c 4 W hL s4 hl (by decide))
  have H10 := Lib.hid (fun q W hL a c hl => nx10 ▸ ProveRoute_any q (threeR 4) 0 2 0 [⟨0, 2, 3⟩] a c 3 W hL s4 hl (by decide))
  have H11 := Lib.hid (fun q W hL => nx11 ▸ Earliest_any q (threeR 4) 3 0 0 W hL s4)
  have H12 := Lib.hid (fun q W hL => nx12 ▸ Sure_any q (threeR 4) 0 2 5 W hL s4)
  have H13 := Lib.hid (fun q W hL => nx13 ▸ Sure_any q (threeR 4) 0 2 4 W hL s4)
  have H14 := Lib.hid (fun q W hL => nx14 ▸ Latest_any q (threeR 4) 0 2 1 W hL s4)
  have H15 := Lib.hid (fun q W hL => nx15 ▸ Vital_any q (threeR 3) 0 2 2 W hL s3)
  have H16 := Lib.hid (fun q W hL => nx16 ▸ Route_any q (threeR 3) 0 2 2 W hL s3)
  have H17 := Lib.hid (fun q W hL a c hl => nx17 ▸ Stick_any q (threeR 4) 0 0 (List.replicate 13 ⟨0, 0, 0⟩) a c W hL s4 hl (by decide))
  have H18 := Lib.hid (fun q W hL a c hl => nx18 ▸ Stick_any q (threeR 4) 0 2 [⟨0, 2, 1⟩] a c W hL s4 hl (by decide))
  have H19 := Lib.hid (fun q W hL a c hl => nx19 ▸ Stick_any q (threeR 4) 0 2 [] a c W hL s4 hl (by decide))
  have H20 := Lib.hid (fun q W hL => nx20 ▸ Stuck_any q (threeR 3) 0 2 2 W hL s3)
  have H21 := Lib.hid (fun q W hL => nx21 ▸ Earliest_any q badR 9 9 9 W hL bad_small)
  clear s4 s3
  have hW := Below.refl w.heap.size w
  go_enter Try.func6, Try.ntmps6
  go_wp2_with fail
  refine (three3_any 4 (by omega) w).mono ?_
  rintro e w1 ⟨q1, rfl, hbx, hlx⟩
  replace hW := over hW hbx
  clear hbx
  go_wp2_with fail
  refine (H1.out q1 w1 hlx).mono ?_
  rintro e w2 ⟨aa, ac, rfl, hb2, hi2⟩
  replace hW := over hW hb2
  have HA := Lib.hid (show IntsAt w2 aa [0, 2, 2] from hi2)
  clear hb2 hlx hi2
  go_wp2_with fail
  refine (three3_any 4 (by omega) w2).mono ?_
  rintro e w3 ⟨q2, rfl, hbx, hlx⟩
  replace hW := over hW hbx
  replace HA := Lib.hid (RowAt.later HA.out hbx)
  clear hbx
  go_wp2_with fail
  refine (H2.out q2 w3 hlx).mono ?_
  rintro e w4 ⟨ba, bc, rfl, hb4, hi4⟩
  clear hi4 hlx
  replace hW := over hW hb4
  replace HA := Lib.hid (RowAt.later HA.out hb4)
  clear hb4
  go_wp2_with fail
  refine (three3_any 4 (by omega) w4).mono ?_
  rintro e w5 ⟨q3, rfl, hbx, hlx⟩
  replace hW := over hW hbx
  replace HA := Lib.hid (RowAt.later HA.out hbx)
  clear hbx
  go_wp2_with fail
  refine (H3.out q3 w5 hlx).mono ?_
  rintro e w6 ⟨rfl, hb6⟩
  clear hlx
  replace hW := over hW hb6
  replace HA := Lib.hid (RowAt.later HA.out hb6)
  clear hb6
  go_wp2_with fail
  refine (three3_any 4 (by omega) w6).mono ?_
  rintro e w7 ⟨q4, rfl, hbx, hlx⟩
  replace hW := over hW hbx
  replace HA := Lib.hid (RowAt.later HA.out hbx)
  clear hbx
  go_wp2_with fail
  refine (H4.out q4 w7 hlx).mono ?_
  rintro e w8 ⟨ca, cc, rfl, hb8, hi8⟩
  clear hi8 hlx
  replace hW := over hW hb8
  replace HA := Lib.hid (RowAt.later HA.out hb8)
  clear hb8
  go_wp2_with fail
  refine (three3_any 4 (by omega) w8).mono ?_
  rintro e w9 ⟨q5, rfl, hbx, hlx⟩
  replace hW := over hW hbx
  replace HA := Lib.hid (RowAt.later HA.out hbx)
  clear hbx
  go_wp2_with fail
  refine named1 (p := fun W => Calls _ _ _ W _) ?_
  intro w10 hb10 B52
  refine (H5.out q5 w10 (hlx.later hb10) _ 1 (row_box B52 rfl (by simp [Hi.vs]))).mono ?_
  rintro e w11 ⟨rfl, hb11⟩
  clear hlx B52
  replace hW := over hW hb10
  replace HA := Lib.hid (RowAt.later HA.out hb10)
  clear hb10
  replace hW := over hW hb11
  replace HA := Lib.hid (RowAt.later HA.out hb11)
  clear hb11
  go_wp2_with fail
  refine (three3_any 4 (by omega) w11).mono ?_
  rintro e w12 ⟨q6, rfl, hbx, hlx⟩
  replace hW := over hW hbx
  replace HA := Lib.hid (RowAt.later HA.out hbx)
  clear hbx
  go_wp2_with fail
  refine (H6.out q6 w12 hlx).mono ?_
  rintro e w13 ⟨da, dc, rfl, hb13, hi13⟩
  clear hi13 hlx
  replace hW := over hW hb13
  replace HA := Lib.hid (RowAt.later HA.out hb13)
  clear hb13
  go_wp2_with fail
  refine named1 (p := fun W => Calls _ _ _ W _) ?_
  intro w14 hb14 B67
  refine (ints3_yes [0, 2, 2] aa _ _ _ w14 (HA.out.later hb14) (row_box B67 rfl (by simp)) (by decide)).mono ?_
  rintro e w15 ⟨rfl, hb15⟩
  clear B67 HA
  replace hW := over (over hW hb14) hb15
  clear hb14 hb15
  go_wp2_with fail
  refine (three3_any 4 (by omega) w15).mono ?_
  rintro e w16 ⟨q7, rfl, hbx, hlx⟩
  replace hW := over hW hbx
  clear hbx
  go_wp2_with fail
  refine named1 (p := fun W => Calls _ _ _ W _) ?_
  intro w17 hb17 B124
  refine (H7.out q7 w17 (hlx.later hb17) _ 3 (row_box B124 rfl (by simp))).mono ?_
  rintro e w18 ⟨rfl, hb18⟩
  clear hlx B124
  replace hW := over (over hW hb17) hb18
  clear hb17 hb18
  go_wp2_with fail
  refine (three3_any 4 (by omega) w18).mono ?_
  rintro e w19 ⟨q8, rfl, hbx, hlx⟩
  replace hW := over hW hbx
  clear hbx
  go_wp2_with fail
  refine named1 (p := fun W => Calls _ _ _ W _) ?_
  intro w20 hb20 B130
  refine (H8.out q8 w20 (hlx.later hb20) _ 3 (row_box B130 rfl (by simp))).mono ?_
  rintro e w21 ⟨rfl, hb21⟩
  clear hlx B130
  replace hW := over (over hW hb20) hb21
  clear hb20 hb21
  go_wp2_with fail
  refine (three3_any 4 (by omega) w21).mono ?_
  rintro e w22 ⟨q9, rfl, hbx, hlx⟩
  replace hW := over hW hbx
  clear hbx
  go_wp2_with fail
  refine named1 (p := fun W => Calls _ _ _ W _) ?_
  intro w23 hb23 B136
  refine (H9.out q9 w23 (hlx.later hb23) _ 1 (row_box B136 rfl (by simp [Hi.vs]))).mono ?_
  rintro e w24 ⟨rfl, hb24⟩
  clear hlx B136
  replace hW := over (over hW hb23) hb24
  clear hb23 hb24
  go_wp2_with fail
  refine (three3_any 4 (by omega) w24).mono ?_
  rintro e w25 ⟨q10, rfl, hbx, hlx⟩
  replace hW := over hW hbx
  clear hbx
  go_wp2_with fail
  refine named1 (p := fun W => Calls _ _ _ W _) ?_
  intro w26 hb26 B143
  refine (H10.out q10 w26 (hlx.later hb26) _ 1 (row_box B143 rfl (by simp [Hi.vs]))).mono ?_
  rintro e w27 ⟨rfl, hb27⟩
  clear hlx B143
  replace hW := over (over hW hb26) hb27
  clear hb26 hb27
  go_wp2_with fail
  refine (three3_any 4 (by omega) w27).mono ?_
  rintro e w28 ⟨q11, rfl, hbx, hlx⟩
  replace hW := over hW hbx
  clear hbx
  go_wp2_with fail
  refine (H11.out q11 w28 hlx).mono ?_
  rintro e w29 ⟨xa, xc, rfl, hb29, hi29⟩
  clear hlx hi29
  replace hW := over hW hb29
  clear hb29
  go_wp2_with fail
  refine (three3_any 4 (by omega) w29).mono ?_
  rintro e w30 ⟨q12, rfl, hbx, hlx⟩
  replace hW := over hW hbx
  clear hbx
  go_wp2_with fail
  refine (H12.out q12 w30 hlx).mono ?_
  rintro e w31 ⟨rfl, hb31⟩
  clear hlx
  replace hW := over hW hb31
  clear hb31
  go_wp2_with fail
  refine (three3_any 4 (by omega) w31).mono ?_
  rintro e w32 ⟨q13, rfl, hbx, hlx⟩
  replace hW := over hW hbx
  clear hbx
  go_wp2_with fail
  refine (H13.out q13 w32 hlx).mono ?_
  rintro e w33 ⟨rfl, hb33⟩
  clear hlx
  replace hW := over hW hb33
  clear hb33
  go_wp2_with fail
  refine (three3_any 4 (by omega) w33).mono ?_
  rintro e w34 ⟨q14, rfl, hbx, hlx⟩
  replace hW := over hW hbx
  clear hbx
  go_wp2_with fail
  refine (H14.out q14 w34 hlx).mono ?_
  rintro e w35 ⟨rfl, hb35⟩
  clear hlx
  replace hW := over hW hb35
  clear hb35
  go_wp2_with fail
  refine (three3_any 3 (by omega) w35).mono ?_
  rintro e w36 ⟨q15, rfl, hbx, hlx⟩
  replace hW := over hW hbx
  clear hbx
  go_wp2_with fail
  refine (H15.out q15 w36 hlx).mono ?_
  rintro e w37 ⟨ya, yc, rfl, hb37, hi37⟩
  clear hlx hi37
  replace hW := over hW hb37
  clear hb37
  go_wp2_with fail
  refine (three3_any 3 (by omega) w37).mono ?_
  rintro e w38 ⟨q16, rfl, hbx, hlx⟩
  replace hW := over hW hbx
  clear hbx
  go_wp2_with fail
  refine (H16.out q16 w38 hlx).mono ?_
  rintro e w39 ⟨za, zc, rfl, hb39, hi39⟩
  clear hlx hi39
  replace hW := over hW hb39
  clear hb39
  clear H1 H2 H3 H4 H5 H6 H7 H8 H9 H10 H11 H12 H13 H14 H15 H16
  have hmk := mk13
  go_upto_region 15 with fail
  go_cut [15, 16, 17] (fun s15 s16 s17 wx => s15 = .int .i64 0 ∧ s16 = .int .i64 0 ∧ s17 = .int .i64 3 ∧ Below w39.heap.size w39 wx)
  case first =>
    refine wp_region_noPanic ?_
    refine wp_region_held_drew (S := (fun _ => True)) (by kernel_rfl) (by (try dsimp only); skip) (fun hHeld => ?_)
    refine wpAnyH_ready (rs := [0, 1]) (by kernel_rfl) (by simp) ?_
    refine AllReadyH.cons (o := _) rfl (fun K hK => ?_) (AllReadyH.cons (o := _) rfl (fun K hK => ?_) AllReadyH.nil)
    · go_simp
      refine (three3_any 4 (by omega) _).mono ?_
      rintro e wA ⟨qA, rfl, hbA, hlA⟩
      have HbA := Lib.hid (over (show Below w39.heap.size w39 _ from (by repeat (first | exact Below.refl _ _ | refine al ?_ _ | refine Below.drew ?_ | refine sc ?_ (by simp) _))) hbA)
      have HlA := Lib.hid hlA
      clear hbA hlA
      refine hK.out _ _ (by (try dsimp only); skip) (fun hHeld => ?_)
      clear hK K
      (try dsimp only); (try simp only [Act.put]); (try simp only [List.setIfInBounds_toArray]); (try simp only [List.set_cons_succ]); (try simp only [List.set_cons_zero])
      refine wpAnyH_ready (rs := [1]) (by kernel_rfl) (by simp) ?_
      refine AllReadyH.cons (o := _) rfl (fun K hK => ?_) AllReadyH.nil
      go_simp
      refine hK.out _ _ (by (try dsimp only); skip) (fun hHeld => ?_)
      clear hK K
      (try dsimp only); (try simp only [Act.put]); (try simp only [List.setIfInBounds_toArray]); (try simp only [List.set_cons_succ]); (try simp only [List.set_cons_zero])
      refine wpAnyH_ready (rs := [2]) (by kernel_rfl) (by simp) ?_
      refine AllReadyH.cons (o := _) rfl (fun K hK => ?_) AllReadyH.nil
      go_simp
      refine named1 (p := fun W => Calls _ _ _ W _) ?_
      intro wB hbB BB
      refine (H17.out qA wB (HlA.out.later hbB) _ 13 (row_box BB rfl (by simp [Hi.vs, List.replicate]))).mono ?_
      rintro e wC ⟨rfl, hbC⟩
      have HbC := Lib.hid (over (over HbA.out hbB) hbC)
      clear hbB BB hbC HbA HlA
      refine hK.out _ _ (by (try dsimp only); skip) (fun hHeld => ?_)
      clear hK K
      (try dsimp only); (try simp only [Act.put]); (try simp only [List.setIfInBounds_toArray]); (try simp only [List.set_cons_succ]); (try simp only [List.set_cons_zero])
      refine wpAnyH_take (i := 3) (oi := _) (v := ?_) rfl (by kernel_rfl) (by kernel_rfl) (by kernel_rfl) (fun _ _ _ h => h) (Or.inl ⟨by rfl, ?_⟩) (by assumption) ?_
      rotate_left
      · (intro w hSw; (try dsimp only at hSw); go_simp; try with_reducible rfl)
      (try dsimp only); (try simp only [Act.put]); (try simp only [List.setIfInBounds_toArray]); (try simp only [List.set_cons_succ]); (try simp only [List.set_cons_zero])
      refine wpAnyH_take (i := 4) (oi := _) (v := ?_) rfl (by kernel_rfl) (by kernel_rfl) (by kernel_rfl) (fun _ _ _ h => h) (Or.inl ⟨by rfl, ?_⟩) (by assumption) ?_
      rotate_left
      · (intro w hSw; (try dsimp only at hSw); go_simp; try with_reducible rfl)
      (try dsimp only); (try simp only [Act.put]); (try simp only [List.setIfInBounds_toArray]); (try simp only [List.set_cons_succ]); (try simp only [List.set_cons_zero])
      refine wpAnyH_take (i := 5) (oi := _) (v := ?_) rfl (by kernel_rfl) (by kernel_rfl) (by kernel_rfl) (fun _ _ _ h => h) (Or.inl ⟨by rfl, ?_⟩) (by assumption) ?_
      rotate_left
      · (intro w hSw; (try dsimp only at hSw); go_simp; try with_reducible rfl)
      (try dsimp only); (try simp only [Act.put]); (try simp only [List.setIfInBounds_toArray]); (try simp only [List.set_cons_succ]); (try simp only [List.set_cons_zero])
      refine wpAnyH_take (i := 6) (oi := _) (v := ?_) rfl (by kernel_rfl) (by kernel_rfl) (by kernel_rfl) (fun _ _ _ h => h) (Or.inl ⟨by rfl, ?_⟩) (by assumption) ?_
      rotate_left
      · (intro w hSw; (try dsimp only at hSw); go_simp; try with_reducible rfl)
      (try dsimp only); (try simp only [Act.put]); (try simp only [List.setIfInBounds_toArray]); (try simp only [List.set_cons_succ]); (try simp only [List.set_cons_zero])
      refine wpAnyH_take (i := 7) (oi := _) (v := ?_) rfl (by kernel_rfl) (by kernel_rfl) (by kernel_rfl) (fun _ _ _ h => h) (Or.inl ⟨by rfl, ?_⟩) (by assumption) ?_
      rotate_left
      · (intro w hSw; (try dsimp only at hSw); go_simp; try with_reducible rfl)
      (try dsimp only); (try simp only [Act.put]); (try simp only [List.setIfInBounds_toArray]); (try simp only [List.set_cons_succ]); (try simp only [List.set_cons_zero])
      refine wpAnyH_take (i := 8) (oi := _) (v := ?_) rfl (by kernel_rfl) (by kernel_rfl) (by kernel_rfl) (fun _ _ _ h => h) (Or.inl ⟨by rfl, ?_⟩) (by assumption) ?_
      rotate_left
      · (intro w hSw; (try dsimp only at hSw); go_simp; try with_reducible rfl)
      (try dsimp only); (try simp only [Act.put]); (try simp only [List.setIfInBounds_toArray]); (try simp only [List.set_cons_succ]); (try simp only [List.set_cons_zero])
      refine wpAnyH_take (i := 9) (oi := _) (v := ?_) rfl (by kernel_rfl) (by kernel_rfl) (by kernel_rfl) (fun _ _ _ h => h) (Or.inl ⟨by rfl, ?_⟩) (by assumption) ?_
      rotate_left
      · (intro w hSw; (try dsimp only at hSw); go_simp; try with_reducible rfl)
      (try dsimp only); (try simp only [Act.put]); (try simp only [List.setIfInBounds_toArray]); (try simp only [List.set_cons_succ]); (try simp only [List.set_cons_zero])
      (try simp only [List.getElem_toArray, List.getElem_cons_succ, List.getElem_cons_zero])
      (try dsimp only)
      (try simp only [List.setIfInBounds_toArray])
      (try simp only [List.set_cons_succ])
      (try simp only [List.set_cons_zero])
      refine wpAnyH_done (by kernel_rfl) ?_ _
      refine NoPanic.normal ?_
      repeat (clear hHeld)
      go_wp2_with fail
      go_meet
      exact ⟨rfl, rfl, rfl, HbC.out⟩
    · go_simp
      refine hK.out _ _ (by (try dsimp only); skip) (fun hHeld => ?_)
      clear hK K
      (try dsimp only); (try simp only [Act.put]); (try simp only [List.setIfInBounds_toArray]); (try simp only [List.set_cons_succ]); (try simp only [List.set_cons_zero])
      refine wpAnyH_ready (rs := [0]) (by kernel_rfl) (by simp) ?_
      refine AllReadyH.cons (o := _) rfl (fun K hK => ?_) AllReadyH.nil
      go_simp
      refine namedDrew (p := fun W => Calls _ _ _ W _) ?_
      intro wB hbB BB
      have HbB := Lib.hid hbB
      clear hbB
      refine (three3_any 4 (by omega) wB).mono ?_
      rintro e wA ⟨qA, rfl, hbA, hlA⟩
      have HbA := Lib.hid (over HbB.out hbA)
      have HlA := Lib.hid hlA
      replace BB := BB.later hbA
      clear hbA hlA
      refine hK.out _ _ (by (try dsimp only); skip) (fun hHeld => ?_)
      clear hK K
      (try dsimp only); (try simp only [Act.put]); (try simp only [List.setIfInBounds_toArray]); (try simp only [List.set_cons_succ]); (try simp only [List.set_cons_zero])
      refine wpAnyH_ready (rs := [2]) (by kernel_rfl) (by simp) ?_
      refine AllReadyH.cons (o := _) rfl (fun K hK => ?_) AllReadyH.nil
      go_simp
      refine (H17.out qA wA HlA.out _ 13 (row_box BB rfl (by simp [Hi.vs, List.replicate]))).mono ?_
      rintro e wC ⟨rfl, hbC⟩
      have HbC := Lib.hid (over HbA.out hbC)
      clear BB hbC HbA HlA HbB
      refine hK.out _ _ (by (try dsimp only); skip) (fun hHeld => ?_)
      clear hK K
      (try dsimp only); (try simp only [Act.put]); (try simp only [List.setIfInBounds_toArray]); (try simp only [List.set_cons_succ]); (try simp only [List.set_cons_zero])
      refine wpAnyH_take (i := 3) (oi := _) (v := ?_) rfl (by kernel_rfl) (by kernel_rfl) (by kernel_rfl) (fun _ _ _ h => h) (Or.inl ⟨by rfl, ?_⟩) (by assumption) ?_
      rotate_left
      · (intro w hSw; (try dsimp only at hSw); go_simp; try with_reducible rfl)
      (try dsimp only); (try simp only [Act.put]); (try simp only [List.setIfInBounds_toArray]); (try simp only [List.set_cons_succ]); (try simp only [List.set_cons_zero])
      refine wpAnyH_take (i := 4) (oi := _) (v := ?_) rfl (by kernel_rfl) (by kernel_rfl) (by kernel_rfl) (fun _ _ _ h => h) (Or.inl ⟨by rfl, ?_⟩) (by assumption) ?_
      rotate_left
      · (intro w hSw; (try dsimp only at hSw); go_simp; try with_reducible rfl)
      (try dsimp only); (try simp only [Act.put]); (try simp only [List.setIfInBounds_toArray]); (try simp only [List.set_cons_succ]); (try simp only [List.set_cons_zero])
      refine wpAnyH_take (i := 5) (oi := _) (v := ?_) rfl (by kernel_rfl) (by kernel_rfl) (by kernel_rfl) (fun _ _ _ h => h) (Or.inl ⟨by rfl, ?_⟩) (by assumption) ?_
      rotate_left
      · (intro w hSw; (try dsimp only at hSw); go_simp; try with_reducible rfl)
      (try dsimp only); (try simp only [Act.put]); (try simp only [List.setIfInBounds_toArray]); (try simp only [List.set_cons_succ]); (try simp only [List.set_cons_zero])
      refine wpAnyH_take (i := 6) (oi := _) (v := ?_) rfl (by kernel_rfl) (by kernel_rfl) (by kernel_rfl) (fun _ _ _ h => h) (Or.inl ⟨by rfl, ?_⟩) (by assumption) ?_
      rotate_left
      · (intro w hSw; (try dsimp only at hSw); go_simp; try with_reducible rfl)
      (try dsimp only); (try simp only [Act.put]); (try simp only [List.setIfInBounds_toArray]); (try simp only [List.set_cons_succ]); (try simp only [List.set_cons_zero])
      refine wpAnyH_take (i := 7) (oi := _) (v := ?_) rfl (by kernel_rfl) (by kernel_rfl) (by kernel_rfl) (fun _ _ _ h => h) (Or.inl ⟨by rfl, ?_⟩) (by assumption) ?_
      rotate_left
      · (intro w hSw; (try dsimp only at hSw); go_simp; try with_reducible rfl)
      (try dsimp only); (try simp only [Act.put]); (try simp only [List.setIfInBounds_toArray]); (try simp only [List.set_cons_succ]); (try simp only [List.set_cons_zero])
      refine wpAnyH_take (i := 8) (oi := _) (v := ?_) rfl (by kernel_rfl) (by kernel_rfl) (by kernel_rfl) (fun _ _ _ h => h) (Or.inl ⟨by rfl, ?_⟩) (by assumption) ?_
      rotate_left
      · (intro w hSw; (try dsimp only at hSw); go_simp; try with_reducible rfl)
      (try dsimp only); (try simp only [Act.put]); (try simp only [List.setIfInBounds_toArray]); (try simp only [List.set_cons_succ]); (try simp only [List.set_cons_zero])
      refine wpAnyH_take (i := 9) (oi := _) (v := ?_) rfl (by kernel_rfl) (by kernel_rfl) (by kernel_rfl) (fun _ _ _ h => h) (Or.inl ⟨by rfl, ?_⟩) (by assumption) ?_
      rotate_left
      · (intro w hSw; (try dsimp only at hSw); go_simp; try with_reducible rfl)
      (try dsimp only); (try simp only [Act.put]); (try simp only [List.setIfInBounds_toArray]); (try simp only [List.set_cons_succ]); (try simp only [List.set_cons_zero])
      (try simp only [List.getElem_toArray, List.getElem_cons_succ, List.getElem_cons_zero])
      (try dsimp only)
      (try simp only [List.setIfInBounds_toArray])
      (try simp only [List.set_cons_succ])
      (try simp only [List.set_cons_zero])
      refine wpAnyH_done (by kernel_rfl) ?_ _
      refine NoPanic.normal ?_
      repeat (clear hHeld)
      go_wp2_with fail
      go_meet
      exact ⟨rfl, rfl, rfl, HbC.out⟩
  case rest =>
   as_aux_lemma =>
    obtain ⟨rfl, rfl, rfl, hbc⟩ := hcut
    replace hW := over hW hbc
    clear hbc hmk H17
    go_wp2_with fail
    refine (three3_any 4 (by omega) wc).mono ?_
    rintro e w40 ⟨q17, rfl, hbx, hlx⟩
    replace hW := over hW hbx
    clear hbx
    go_wp2_with fail
    refine named1 (p := fun W => Calls _ _ _ W _) ?_
    intro w41 hb41 B188
    refine (H18.out q17 w41 (hlx.later hb41) _ 1 (row_box B188 rfl (by simp [Hi.vs]))).mono ?_
    rintro e w42 ⟨rfl, hb42⟩
    clear hlx B188
    replace hW := over (over hW hb41) hb42
    clear hb41 hb42 H18
    go_wp2_with fail
    refine (three3_any 4 (by omega) w42).mono ?_
    rintro e w43 ⟨q18, rfl, hbx, hlx⟩
    replace hW := over hW hbx
    clear hbx
    go_wp2_with fail
    refine (H19.out q18 w43 hlx none 0 (.inl rfl)).mono ?_
    rintro e w44 ⟨rfl, hb44⟩
    clear hlx
    replace hW := over hW hb44
    clear hb44 H19
    go_wp2_with fail
    refine (three3_any 3 (by omega) w44).mono ?_
    rintro e w45 ⟨q19, rfl, hbx, hlx⟩
    replace hW := over hW hbx
    clear hbx
    go_wp2_with fail
    refine (H20.out q19 w45 hlx).mono ?_
    rintro e w46 ⟨va, vc, rfl, hb46, hi46⟩
    replace hW := over hW hb46
    have HV := Lib.hid (show IntsAt w46 va [1] from hi46)
    have hw46 : w.heap.size ≤ w46.heap.size := hW.size
    clear hlx hb46 hi46 H20
    go_wp2_with fail
    refine (three4_any w46).mono ?_
    rintro e w47 ⟨n, hn, rfl, hb47, hT⟩
    have hn1 := hT.b2.lt
    have HT := Lib.hid hT
    replace hW := over hW hb47
    have hb46 : Below w46.heap.size w46 w47 := hb47
    have H46 := Lib.hid hb46
    clear hb47 hb46 hT
    go_upto_region 20 with fail
    refine named1 (p := Code.wp _ _ _ _) ?_
    intro w48 hb48 B26
    replace HT := Lib.hid (HT.out.later hb48)
    replace H46 := Lib.hid (over H46.out hb48)
    replace hW := over hW hb48
    have hn2 : w47.heap.size ≤ w48.heap.size := hb48.size
    clear hb48
    have c26 := B26.cell; have t26 := B26.lt
    have BR := HT.out.b2
    have cR := BR.cell
    have tR := BR.lt
    have fR := BR.frozen
    have HBR := Lib.hid BR
    have HB26 := Lib.hid B26
    clear BR B26
    go_upto_region 21 with fail
    clear cR tR fR c26 t26
    refine nameAny (p := Code.wp _ _ _ _) ?_
    intro V hV
    have but1 : But (n + 1) w48 V := by rw [hV]; exact setCell_but _ _ _ _
    have BR1 : Box V (n + 1) (wlB 1) 67 := by rw [hV]; exact setCell_box HBR.out 4 _
    have B26 := but1.box HB26.out (by omega)
    have hT1 : ThreeB V n 1 := ⟨but1.box HT.out.b1 (by omega), BR1, but1.box HT.out.b3 (by omega), but1.box HT.out.b4 (by omega), but1.box HT.out.b5 (by omega)⟩
    have HL21 := Lib.hid hT1.bad
    replace HV := Lib.hid (HV.out.later (but1.below H46.out (by omega)))
    replace hW := but1.below hW (by omega)
    clear hV but1 BR1 hT1 HT H46 HBR HB26
    have c26 := B26.cell; have t26 := B26.lt
    go_wp2_with fail
    refine (H21.out _ V HL21.out).mono ?_
    rintro e w49 ⟨xa2, xc2, rfl, hb49, hi49⟩
    replace hW := over hW hb49
    replace HV := Lib.hid (HV.out.later hb49)
    clear hb49 hi49 HL21 H21 B26 c26 t26
    go_wp2_with fail
    refine named1 (p := fun W => Calls _ _ _ W _) ?_
    intro w50 hb50 B255
    refine (ints3_yes [1] va _ _ _ w50 (HV.out.later hb50) (row_box B255 rfl (by simp)) (by decide)).mono ?_
    rintro e w51 ⟨rfl, hb51⟩
    replace hW := over (over hW hb50) hb51
    clear hb50 hb51 HV B255
    go_wp2_with fail
    refine (awake_any _).mono ?_
    rintro e wz ⟨rfl, hbz⟩
    replace hW := over hW hbz
    clear hbz
    go_wp2_with fail
    go_ret
    exact ⟨rfl, hW⟩
end Go.Proofs.Ytfihdaoakfdlpaa
