/- The document's examples and errors: the walk of the closed statement. -/
import Derived.Test.YtmfnkmmbihmjnaaLWays
import Derived.Test.YtmfnkmmbihmjnaaCopied2
import Derived.Deep.DeepCutAuto
import Derived.Deep.CutBlock
import Derived.Deep.RegionHeld3
import Derived.Deep.DrawnRows
open Go.RowKit
namespace Go.Proofs.Ytmfnkmmbihmjnaa
open Go.Hill
attribute [local go_sem ↓] Go.wp_at_zero Go.wp_at_succ

/-- The chapter's land in memory of its own, each row in a block of its own. -/
structure ThreeAt (W : World) (n : Nat) (top : Int) : Prop where
  st : Box W n #[.int .i64 10, .int .i64 10, .int .i64 100, .int .i64 1, .int .i64 30, .int .i64 10, .int .i64 200, .int .i64 1, .int .i64 10, .int .i64 30, .int .i64 50, .int .i64 2] 81
  rd : Box W (n + 1) #[.int .i64 20, .int .i64 5, .int .i64 20, .int .i64 15, .int .i64 0, .int .i64 top] 82
  cd : Box W (n + 2) #[.int .i64 5, .int .i64 20, .int .i64 25, .int .i64 20, .int .i64 0, .int .i64 80, .int .i64 1, .int .i64 2] 84
  cs : Box W (n + 3) #[.slice none 0 0, .slice (some ⟨n + 2, 0, none⟩) 1 1] 85
  sn : Box W (n + 4) #[.int .i64 50, .int .i64 0, .int .i64 0, .int .i64 50, .int .i64 0, .int .i64 20, .int .i64 (-50), .int .i64 0, .int .i64 30] 99
theorem ThreeAt.later {W W' : World} {n : Nat} {top : Int} (h : ThreeAt W n top) (hb : Below W.heap.size W W') : ThreeAt W' n top := ⟨h.st.later hb, h.rd.later hb, h.cd.later hb, h.cs.later hb, h.sn.later hb⟩
theorem ThreeAt.lt {W : World} {n : Nat} {top : Int} (h : ThreeAt W n top) : n + 4 < W.heap.size := h.sn.lt
def RetThree (top : Int) (w : World) (e : Ending) (w' : World) : Prop :=
  ∃ n, w.heap.size ≤ n ∧ e = .returned (.agg #[.slice (some ⟨n, 0, none⟩) 3 3, .slice (some ⟨n + 1, 0, none⟩) 1 1, .slice (some ⟨n + 3, 0, none⟩) 2 2, .slice (some ⟨n + 4, 0, none⟩) 3 3]) ∧ Below w.heap.size w w' ∧ ThreeAt w' n top

set_option maxRecDepth 100000 in
theorem three_box (top : Int) (w : World) : Calls Try.prog 42 #[.int .i64 top] w (RetThree top w) := by
  go_enter Try.func42, Try.ntmps42
  go_wp2_with fail
  refine bodyPost_ret (v := .agg #[.slice (some ⟨w.heap.size + 1, 0, none⟩) 3 3, .slice (some ⟨w.heap.size + 1 + 1, 0, none⟩) 1 1, .slice (some ⟨w.heap.size + 1 + 1 + 1 + 1, 0, none⟩) 2 2, .slice (some ⟨w.heap.size + 1 + 1 + 1 + 1 + 1, 0, none⟩) 3 3]) (by simp [results, Try.results42, go_sem]) rfl
    ⟨w.heap.size + 1, by omega, rfl, (by repeat (first | exact Below.refl _ _ | refine al ?_ _ | refine Below.drew ?_ | refine sc ?_ (by simp) _)), ?_⟩
  refine ⟨?_, ?_, ?_, ?_, ?_⟩ <;> repeat (first | exact Box.newAt _ _ (by simp) | refine Box.alloc ?_ _)

theorem named6 {p : World → Prop} {w : World} {c1 c2 c3 c4 c5 c6 : Array Value} {t1 t2 t3 t4 t5 t6 : TypeId} (h : ∀ W, Below w.heap.size w W → Box W w.heap.size c1 t1 → Box W (w.heap.size + 1) c2 t2 → Box W (w.heap.size + 1 + 1) c3 t3 → Box W (w.heap.size + 1 + 1 + 1) c4 t4 → Box W (w.heap.size + 1 + 1 + 1 + 1) c5 t5 → Box W (w.heap.size + 1 + 1 + 1 + 1 + 1) c6 t6 → p W) :
    p ((((((w.alloc (.cells c1 t1)).alloc (.cells c2 t2)).alloc (.cells c3 t3)).alloc (.cells c4 t4)).alloc (.cells c5 t5)).alloc (.cells c6 t6)) := by
  refine h _ (by repeat (first | exact Below.refl _ _ | refine al ?_ _ | refine Below.drew ?_ | refine sc ?_ (by simp) _)) ?_ ?_ ?_ ?_ ?_ ?_ <;> repeat (first | exact Box.newAt _ _ (by simp) | refine Box.alloc ?_ _)
theorem mk5 (w : World) : (Instr.makeSlice 36 (.int .i64 5) (.int .i64 5)).run Try.prog w = .ok (.slice (some ⟨w.heap.size, 0, none⟩) 5 5) (w.alloc (.cells #[.slice none 0 0, .slice none 0 0, .slice none 0 0, .slice none 0 0, .slice none 0 0] 85)) := by kernel_rfl
theorem nameAny {p : World → Prop} {w : World} (h : ∀ W, W = w → p W) : p w := h w rfl
/-- Six lands at work: what is stored into a block of one of them leaves all other blocks alone. -/
theorem box_aside {W : World} {b g o : Nat} {cs : Array Value} {T : TypeId} {v : Value} (h : Box W b cs T) (hne : b ≠ g) : Box (W.setCell ⟨g, o, none⟩ v) b cs T := (setCell_but W g o v).box h hne
theorem land_boxes {W : World} {b1 b2 b3 b4 : Nat} {L : Land} {k1 k2 k3 k4 : Array Value} (h1 : Box W b1 k1 81) (h2 : Box W b2 k2 82) (h3 : Box W b3 k3 85) (h4 : Box W b4 k4 99)
    (e1 : k1.toList = (L.st.map Stn.vs).flatten) (e2 : k2.toList = (L.rd.map Wl.vs).flatten) (l : List CV) (e3 : l.map (·.cs) = L.cs) (e5 : k3.toList = (l.map fun x => [x.val]).flatten) (e4 : k4.toList = (L.sn.map Sn.vs).flatten)
    (hl : ∀ x ∈ l, RowAt W x.a 8 (x.cs.map Cd.vs)) {c1 c2 c3 c4 : Nat} (m1 : L.st.length ≤ c1) (m2 : L.rd.length ≤ c2) (m3 : L.cs.length ≤ c3) (m4 : L.sn.length ≤ c4) :
    LandAt W ⟨some ⟨b1, 0, none⟩, c1, some ⟨b2, 0, none⟩, c2, some ⟨b3, 0, none⟩, c3, some ⟨b4, 0, none⟩, c4⟩ L :=
  ⟨row_box h1 e1 (vs_st _).1, row_box h2 e2 (vs_wl _).1, ⟨l, e3, row_box h3 e5 (by simp), hl⟩, row_box h4 e4 (vs_sn _).1, m1, m2, m3, m4⟩

def sameL : Land := ⟨[⟨10, 10, 100, 1⟩, ⟨30, 10, 200, 1⟩, ⟨30, 10, 50, 2⟩], [⟨20, 5, 20, 15, 0, 149⟩], [[], [⟨⟨5, 20, 25, 20, 0, 80⟩, 1, 2⟩]], [⟨50, 0, 0⟩, ⟨50, 0, 20⟩, ⟨-50, 0, 30⟩]⟩
theorem same_chk : sameL.chk = 1 := by decide +kernel
def manyL : Land := ⟨[⟨10, 10, 100, 1⟩, ⟨30, 10, 200, 1⟩, ⟨10, 30, 50, 2⟩], [⟨20, 5, 20, 15, 0, 149⟩], [[], [], [], [], []], [⟨50, 0, 0⟩, ⟨50, 0, 20⟩, ⟨-50, 0, 30⟩]⟩
theorem many_chk : manyL.chk = 3 := by decide +kernel
def highL : Land := ⟨[⟨10, 10, 1001, 1⟩, ⟨30, 10, 200, 1⟩, ⟨10, 30, 50, 2⟩], [⟨20, 5, 20, 15, 0, 149⟩], [[], [⟨⟨5, 20, 25, 20, 0, 80⟩, 1, 2⟩]], [⟨50, 0, 0⟩, ⟨50, 0, 20⟩, ⟨-50, 0, 30⟩]⟩
theorem high_chk : highL.chk = 1 := by decide +kernel
def nightL : Land := ⟨[⟨10, 10, 100, 1⟩, ⟨30, 10, 200, 1⟩, ⟨10, 30, 50, 2⟩], [⟨20, 5, 20, 15, 0, 149⟩], [[], [⟨⟨5, 20, 25, 20, 0, 80⟩, 1, 3⟩]], [⟨50, 0, 0⟩, ⟨50, 0, 20⟩, ⟨-50, 0, 30⟩]⟩
theorem night_chk : nightL.chk = 1 := by decide +kernel
def flatL : Land := ⟨[⟨10, 10, 100, 1⟩, ⟨30, 10, 200, 1⟩, ⟨10, 30, 50, 2⟩], [⟨20, 5, 20, 5, 0, 149⟩], [[], [⟨⟨5, 20, 25, 20, 0, 80⟩, 1, 2⟩]], [⟨50, 0, 0⟩, ⟨50, 0, 20⟩, ⟨-50, 0, 30⟩]⟩
theorem flat_chk : flatL.chk = 1 := by decide +kernel
def baseL : Land := ⟨[⟨10, 10, 100, 1⟩, ⟨30, 10, 200, 1⟩, ⟨10, 30, 50, 2⟩], [⟨20, 5, 20, 15, 1, 149⟩], [[], [⟨⟨5, 20, 25, 20, 0, 80⟩, 1, 2⟩]], [⟨50, 0, 0⟩, ⟨50, 0, 20⟩, ⟨-50, 0, 30⟩]⟩
theorem base_chk : baseL.chk = 1 := by decide +kernel
def noneL : Land := ⟨[], [], [], []⟩
theorem none_chk : noneL.chk = 1 := by decide +kernel
theorem nchk149 : (threeL 149).chk = 0 := by decide +kernel
theorem nchk150 : (threeL 150).chk = 0 := by decide +kernel
theorem nchk1000 : (threeL 1000).chk = 0 := by decide +kernel
theorem nx0 : Land.whyE (threeL 149) 0 1 0 0 = (1, 0, 0) := by decide +kernel
theorem nx1 : Land.whyE (threeL 149) 0 1 0 1 = (0, 0, 0) := by decide +kernel
theorem nx2 : Land.whyE (threeL 150) 0 1 0 1 = (3, 0, 0) := by decide +kernel
theorem nx3 : Land.whyE (threeL 149) 1 2 1 2 = (0, 0, 0) := by decide +kernel
theorem nx4 : Land.alwE (threeL 149) 0 2 = ([], 0) := by decide +kernel
theorem nx5 : Land.wallsE (threeL 150) 0 1 1 1 = ([0], [], 0) := by decide +kernel
theorem nx6 : Land.whyE (threeL 149) 0 3 0 0 = (0, 0, 2) := by decide +kernel
theorem nx7 : Land.wallsE (threeL 149) 0 1 2 0 = ([], [], 2) := by decide +kernel
theorem nx8 : Land.whyE (threeL 149) 0 1 0 3 = (0, 0, 2) := by decide +kernel
theorem nx9 : Land.hrsE (threeL 149) 1 1 0 = ([], 6) := by decide +kernel
theorem nx10 : Land.stickE (threeL 149) 0 1 1 = (0, 7) := by decide +kernel
theorem nx11 : Land.mirE (threeL 149) 0 1 0 = (0, 7) := by decide +kernel
theorem nx12 : Land.riseE (threeL 1000) 0 1 = (0, 9) := by decide +kernel
theorem nx13 : Land.rchE (threeL 149) (-1) 0 0 = ([], 2) := by decide +kernel
theorem ints_box1 {W : World} {b : Nat} {x : Int} (hB : Box W b #[.int .i64 x] 3) : IntsAt W (some ⟨b, 0, none⟩) [x] := row_box hB rfl (by simp)

set_option maxRecDepth 100000 in
set_option maxHeartbeats 8000000 in
theorem HillNames_any (w : World) : Calls Try.prog 14 #[] w (Ret (.bool true) w) := by
  have s149 := small_of nchk149
  have s150 := small_of nchk150
  have s1000 := small_of nchk1000
  have H0 := Lib.hid (fun q W hL => nx0 ▸ Why_any q (threeL 149) 0 1 0 0 W hL s149)
  have H1 := Lib.hid (fun q W hL => nx1 ▸ Why_any q (threeL 149) 0 1 0 1 W hL s149)
  have H2 := Lib.hid (fun q W hL => nx2 ▸ Why_any q (threeL 150) 0 1 0 1 W hL s150)
  have H3 := Lib.hid (fun q W hL => nx3 ▸ Why_any q (threeL 149) 1 2 1 2 W hL s149)
  have H4 := Lib.hid (fun q W hL => nx4 ▸ Always_any q (threeL 149) 0 2 W hL s149)
  have H5 := Lib.hid (fun q W hL => nx5 ▸ Walls_any q (threeL 150) 0 1 1 1 W hL s150)
  have H6 := Lib.hid (fun q W hL => nx6 ▸ Why_any q (threeL 149) 0 3 0 0 W hL s149)
  have H7 := Lib.hid (fun q W hL => nx7 ▸ Walls_any q (threeL 149) 0 1 2 0 W hL s149)
  have H8 := Lib.hid (fun q W hL => nx8 ▸ Why_any q (threeL 149) 0 1 0 3 W hL s149)
  have H9 := Lib.hid (fun q W hL => nx9 ▸ Hours_any q (threeL 149) 1 1 0 W hL s149)
  have H10 := Lib.hid (fun q W hL => nx10 ▸ Stick_any q (threeL 149) 0 1 1 W hL s149)
  have H11 := Lib.hid (fun q W hL => nx11 ▸ Mirrors_any q (threeL 149) 0 1 0 W hL s149)
  have H12 := Lib.hid (fun q W hL => nx12 ▸ Rise_any q (threeL 1000) 0 1 W hL s1000)
  have H13 := Lib.hid (fun q W hL => nx13 ▸ Reach_any q (threeL 149) (-1) 0 0 W hL s149)
  clear s149 s150 s1000
  go_enter Try.func14, Try.ntmps14
  have hW := Below.refl w.heap.size w
  go_wp2_with fail
  refine (three_any 149 w).mono ?_
  rintro e w1 ⟨q1, rfl, hbx, hlx⟩
  have HL := Lib.hid hlx
  replace hW := over hW hbx; clear hbx hlx
  go_wp2_with fail
  refine (H0.out q1 w1 HL.out).mono ?_
  rintro e w2 ⟨rfl, hbx⟩
  replace hW := over hW hbx; clear hbx HL H0
  go_wp2_with fail
  refine (three_any 149 w2).mono ?_
  rintro e w3 ⟨q3, rfl, hbx, hlx⟩
  have HL := Lib.hid hlx
  replace hW := over hW hbx; clear hbx hlx
  go_wp2_with fail
  refine (H1.out q3 w3 HL.out).mono ?_
  rintro e w4 ⟨rfl, hbx⟩
  replace hW := over hW hbx; clear hbx HL H1
  go_wp2_with fail
  refine (three_any 150 w4).mono ?_
  rintro e w5 ⟨q5, rfl, hbx, hlx⟩
  have HL := Lib.hid hlx
  replace hW := over hW hbx; clear hbx hlx
  go_wp2_with fail
  refine (H2.out q5 w5 HL.out).mono ?_
  rintro e w6 ⟨rfl, hbx⟩
  replace hW := over hW hbx; clear hbx HL H2
  go_wp2_with fail
  refine (three_any 149 w6).mono ?_
  rintro e w7 ⟨q7, rfl, hbx, hlx⟩
  have HL := Lib.hid hlx
  replace hW := over hW hbx; clear hbx hlx
  go_wp2_with fail
  refine (H3.out q7 w7 HL.out).mono ?_
  rintro e w8 ⟨rfl, hbx⟩
  replace hW := over hW hbx; clear hbx HL H3
  go_wp2_with fail
  refine (three_any 149 w8).mono ?_
  rintro e w9 ⟨q9, rfl, hbx, hlx⟩
  have HL := Lib.hid hlx
  replace hW := over hW hbx; clear hbx hlx
  go_wp2_with fail
  refine (H4.out q9 w9 HL.out).mono ?_
  rintro e w10 ⟨xa4, xc4, rfl, hbx, hix⟩
  replace hW := over hW hbx; clear hbx HL H4 hix
  go_wp2_with fail
  refine (three_any 150 w10).mono ?_
  rintro e w11 ⟨q11, rfl, hbx, hlx⟩
  have HL := Lib.hid hlx
  replace hW := over hW hbx; clear hbx hlx
  go_wp2_with fail
  refine (H5.out q11 w11 HL.out).mono ?_
  rintro e w12 ⟨xa5, xc5, ya5, yc5, rfl, hbx, hix, hjx⟩
  have HR := Lib.hid (show IntsAt w12 xa5 [0] from hix)
  replace hW := over hW hbx; clear hbx HL H5 hjx hix
  go_wp2_with fail
  refine named1 (p := fun W => Calls _ _ _ W _) ?_
  intro w13 hbx B1
  replace hW := over hW hbx; replace HR := Lib.hid (HR.out.later hbx); clear hbx 
  refine (ints_yes [0] xa5 _ _ _ w13 HR.out (ints_box1 B1) (by decide)).mono ?_
  rintro e w14 ⟨rfl, hbx⟩
  replace hW := over hW hbx; clear hbx HR B1
  go_wp2_with fail
  refine (three_any 149 w14).mono ?_
  rintro e w15 ⟨q15, rfl, hbx, hlx⟩
  have HL := Lib.hid hlx
  replace hW := over hW hbx; clear hbx hlx
  go_wp2_with fail
  refine (H6.out q15 w15 HL.out).mono ?_
  rintro e w16 ⟨rfl, hbx⟩
  replace hW := over hW hbx; clear hbx HL H6
  go_wp2_with fail
  refine (three_any 149 w16).mono ?_
  rintro e w17 ⟨q17, rfl, hbx, hlx⟩
  have HL := Lib.hid hlx
  replace hW := over hW hbx; clear hbx hlx
  go_wp2_with fail
  refine (H7.out q17 w17 HL.out).mono ?_
  rintro e w18 ⟨xa7, xc7, ya7, yc7, rfl, hbx, hix, hjx⟩
  replace hW := over hW hbx; clear hbx HL H7 hjx hix
  go_wp2_with fail
  refine (three_any 149 w18).mono ?_
  rintro e w19 ⟨q19, rfl, hbx, hlx⟩
  have HL := Lib.hid hlx
  replace hW := over hW hbx; clear hbx hlx
  go_wp2_with fail
  refine (H8.out q19 w19 HL.out).mono ?_
  rintro e w20 ⟨rfl, hbx⟩
  replace hW := over hW hbx; clear hbx HL H8
  go_wp2_with fail
  refine (three_any 149 w20).mono ?_
  rintro e w21 ⟨q21, rfl, hbx, hlx⟩
  have HL := Lib.hid hlx
  replace hW := over hW hbx; clear hbx hlx
  go_wp2_with fail
  refine (H9.out q21 w21 HL.out).mono ?_
  rintro e w22 ⟨xa9, xc9, rfl, hbx, hix⟩
  replace hW := over hW hbx; clear hbx HL H9 hix
  go_wp2_with fail
  refine (three_any 149 w22).mono ?_
  rintro e w23 ⟨q23, rfl, hbx, hlx⟩
  have HL := Lib.hid hlx
  replace hW := over hW hbx; clear hbx hlx
  go_wp2_with fail
  refine (H10.out q23 w23 HL.out).mono ?_
  rintro e w24 ⟨rfl, hbx⟩
  replace hW := over hW hbx; clear hbx HL H10
  go_wp2_with fail
  refine (three_any 149 w24).mono ?_
  rintro e w25 ⟨q25, rfl, hbx, hlx⟩
  have HL := Lib.hid hlx
  replace hW := over hW hbx; clear hbx hlx
  go_wp2_with fail
  refine (H11.out q25 w25 HL.out).mono ?_
  rintro e w26 ⟨rfl, hbx⟩
  replace hW := over hW hbx; clear hbx HL H11
  go_wp2_with fail
  refine (three_any 1000 w26).mono ?_
  rintro e w27 ⟨q27, rfl, hbx, hlx⟩
  have HL := Lib.hid hlx
  replace hW := over hW hbx; clear hbx hlx
  go_wp2_with fail
  refine (H12.out q27 w27 HL.out).mono ?_
  rintro e w28 ⟨rfl, hbx⟩
  replace hW := over hW hbx; clear hbx HL H12
  go_wp2_with fail
  refine (three_any 149 w28).mono ?_
  rintro e w29 ⟨q29, rfl, hbx, hlx⟩
  have HL := Lib.hid hlx
  replace hW := over hW hbx; clear hbx hlx
  go_wp2_with fail
  refine (H13.out q29 w29 HL.out).mono ?_
  rintro e w30 ⟨xa13, xc13, rfl, hbx, hix⟩
  replace hW := over hW hbx; clear hbx HL H13 hix
  have n0 := hW.size
  go_wp2_with fail
  refine (three_box 149 w30).mono ?_
  rintro e w31 ⟨n1, g1, rfl, hbx, htx⟩
  have T1 := Lib.hid htx
  have l1 := htx.lt
  replace hW := over hW hbx; clear hbx htx
  go_wp2_with fail
  refine (three_box 149 w31).mono ?_
  rintro e w32 ⟨n2, g2, rfl, hbx, htx⟩
  have T2 := Lib.hid htx
  have l2 := htx.lt
  replace hW := over hW hbx; replace T1 := Lib.hid (T1.out.later hbx); clear hbx htx
  go_wp2_with fail
  refine (three_box 149 w32).mono ?_
  rintro e w33 ⟨n3, g3, rfl, hbx, htx⟩
  have T3 := Lib.hid htx
  have l3 := htx.lt
  replace hW := over hW hbx; replace T1 := Lib.hid (T1.out.later hbx); replace T2 := Lib.hid (T2.out.later hbx); clear hbx htx
  go_wp2_with fail
  refine (three_box 149 w33).mono ?_
  rintro e w34 ⟨n4, g4, rfl, hbx, htx⟩
  have T4 := Lib.hid htx
  have l4 := htx.lt
  replace hW := over hW hbx; replace T1 := Lib.hid (T1.out.later hbx); replace T2 := Lib.hid (T2.out.later hbx); replace T3 := Lib.hid (T3.out.later hbx); clear hbx htx
  go_wp2_with fail
  refine (three_box 149 w34).mono ?_
  rintro e w35 ⟨n5, g5, rfl, hbx, htx⟩
  have T5 := Lib.hid htx
  have l5 := htx.lt
  replace hW := over hW hbx; replace T1 := Lib.hid (T1.out.later hbx); replace T2 := Lib.hid (T2.out.later hbx); replace T3 := Lib.hid (T3.out.later hbx); replace T4 := Lib.hid (T4.out.later hbx); clear hbx htx
  go_wp2_with fail
  refine (three_box 149 w35).mono ?_
  rintro e w36 ⟨n6, g6, rfl, hbx, htx⟩
  have T6 := Lib.hid htx
  have l6 := htx.lt
  replace hW := over hW hbx; replace T1 := Lib.hid (T1.out.later hbx); replace T2 := Lib.hid (T2.out.later hbx); replace T3 := Lib.hid (T3.out.later hbx); replace T4 := Lib.hid (T4.out.later hbx); replace T5 := Lib.hid (T5.out.later hbx); clear hbx htx
  go_upto_region 18 with fail
  refine named6 (p := Code.wp _ _ _ _) ?_
  intro W hbx B1 B2 B3 B4 B5 B6
  replace hW := over hW hbx; replace T1 := Lib.hid (T1.out.later hbx); replace T2 := Lib.hid (T2.out.later hbx); replace T3 := Lib.hid (T3.out.later hbx); replace T4 := Lib.hid (T4.out.later hbx); replace T5 := Lib.hid (T5.out.later hbx); replace T6 := Lib.hid (T6.out.later hbx); clear hbx 
  generalize w36.heap.size = m at *
  obtain ⟨o1, o2, o3, o4, o5, o6⟩ : n1 + 4 < n2 ∧ n2 + 4 < n3 ∧ n3 + 4 < n4 ∧ n4 + 4 < n5 ∧ n5 + 4 < n6 ∧ n6 + 4 < m := ⟨by omega, by omega, by omega, by omega, by omega, by omega⟩
  have hn1 : w.heap.size ≤ n1 := by omega
  clear g1 g2 g3 g4 g5 g6 l1 l2 l3 l4 l5 l6 n0
  simp only [Nat.add_assoc, Nat.reduceAdd] at B1 B2 B3 B4 B5 B6 ⊢
  have HB1 := Lib.hid B1
  have HB2 := Lib.hid B2
  have HB3 := Lib.hid B3
  have HB4 := Lib.hid B4
  have HB5 := Lib.hid B5
  have HB6 := Lib.hid B6
  have HO := Lib.hid (And.intro o1 (And.intro o2 (And.intro o3 (And.intro o4 (And.intro o5 (And.intro o6 hn1))))))
  have e0 : W.cell? ⟨m, 0, none⟩ = some (.slice (some ⟨n1, 0, none⟩) 3 3) := B1.cell 0
  have e1 : W.cell? ⟨n1, 8, none⟩ = some (.int .i64 10) := T1.out.st.cell 8
  have e2 : W.cell? ⟨n1, 9, none⟩ = some (.int .i64 30) := T1.out.st.cell 9
  have f1 := T1.out.st.frozen
  have z1 := block_lt_of_cell e0
  have z2 := block_lt_of_cell e1
  have d1 : n1 ≠ m := by omega
  have d2 : m ≠ n1 := by omega
  clear B1 B2 B3 B4 B5 B6 o1 o2 o3 o4 o5 o6 hn1
  go_wp2_with fail
  go_region_held3 (fun w' => w'.cell? ⟨m, 0, none⟩ = some (.slice (some ⟨n1, 0, none⟩) 3 3)) (go_keep) (fail)
  go_upto_region 19 with fail
  have HHW := Lib.hid hW
  clear hW e0 e1 e2 f1 z1 z2 d1 d2
  refine nameAny (p := Code.wp _ _ _ _) ?_
  intro W1 hw1
  have HW1 := Lib.hid hw1
  clear hw1
  have hmk := mk5 W1
  have K1a : Box W1 (m + 1) #[.slice (some ⟨n2, 0, none⟩) 3 3, .slice (some ⟨n2 + 1, 0, none⟩) 1 1, .slice (some ⟨n2 + 3, 0, none⟩) 2 2, .slice (some ⟨n2 + 4, 0, none⟩) 3 3] 39 := by
    obtain ⟨o1, o2, o3, o4, o5, o6, o7⟩ := HO.out
    rw [HW1.out]
    repeat (first | (with_reducible exact HB2.out) | (with_reducible refine Box.drew ?_) | (with_reducible refine Box.alloc ?_ _) | ((with_reducible refine box_aside ?_ ?_); rotate_left; (omega)))
  have cK1a := K1a.cell
  have fK1a := K1a.frozen
  have lK1a := K1a.lt
  have HK1a := Lib.hid K1a
  clear K1a
  go_upto_region 20 with fail
  clear cK1a fK1a lK1a
  refine nameAny (p := Code.wp _ _ _ _) ?_
  intro W2 hw
  have HW2 := Lib.hid hw
  clear hw
  have K2a : Box W2 (m + 2) #[.slice (some ⟨n3, 0, none⟩) 3 3, .slice (some ⟨n3 + 1, 0, none⟩) 1 1, .slice (some ⟨n3 + 3, 0, none⟩) 2 2, .slice (some ⟨n3 + 4, 0, none⟩) 3 3] 39 := by
    obtain ⟨o1, o2, o3, o4, o5, o6, o7⟩ := HO.out
    rw [HW2.out, HW1.out]
    repeat (first | (with_reducible exact HB3.out) | (with_reducible refine Box.drew ?_) | (with_reducible refine Box.alloc ?_ _) | ((with_reducible refine box_aside ?_ ?_); rotate_left; (omega)))
  have K2b : Box W2 n3 #[.int .i64 10, .int .i64 10, .int .i64 100, .int .i64 1, .int .i64 30, .int .i64 10, .int .i64 200, .int .i64 1, .int .i64 10, .int .i64 30, .int .i64 50, .int .i64 2] 81 := by
    obtain ⟨o1, o2, o3, o4, o5, o6, o7⟩ := HO.out
    rw [HW2.out, HW1.out]
    repeat (first | (with_reducible exact T3.out.st) | (with_reducible refine Box.drew ?_) | (with_reducible refine Box.alloc ?_ _) | ((with_reducible refine box_aside ?_ ?_); rotate_left; (omega)))
  have cK2a := K2a.cell
  have fK2a := K2a.frozen
  have lK2a := K2a.lt
  have cK2b := K2b.cell
  have fK2b := K2b.frozen
  have lK2b := K2b.lt
  have HK2a := Lib.hid K2a
  have HK2b := Lib.hid K2b
  clear K2a K2b
  go_upto_region 21 with fail
  clear cK2a fK2a lK2a cK2b fK2b lK2b
  refine nameAny (p := Code.wp _ _ _ _) ?_
  intro W3 hw
  have HW3 := Lib.hid hw
  clear hw
  have K3a : Box W3 (m + 3) #[.slice (some ⟨n4, 0, none⟩) 3 3, .slice (some ⟨n4 + 1, 0, none⟩) 1 1, .slice (some ⟨n4 + 3, 0, none⟩) 2 2, .slice (some ⟨n4 + 4, 0, none⟩) 3 3] 39 := by
    obtain ⟨o1, o2, o3, o4, o5, o6, o7⟩ := HO.out
    rw [HW3.out, HW2.out, HW1.out]
    repeat (first | (with_reducible exact HB4.out) | (with_reducible refine Box.drew ?_) | (with_reducible refine Box.alloc ?_ _) | ((with_reducible refine box_aside ?_ ?_); rotate_left; (omega)))
  have K3b : Box W3 (n4 + 3) #[.slice none 0 0, .slice (some ⟨n4 + 2, 0, none⟩) 1 1] 85 := by
    obtain ⟨o1, o2, o3, o4, o5, o6, o7⟩ := HO.out
    rw [HW3.out, HW2.out, HW1.out]
    repeat (first | (with_reducible exact T4.out.cs) | (with_reducible refine Box.drew ?_) | (with_reducible refine Box.alloc ?_ _) | ((with_reducible refine box_aside ?_ ?_); rotate_left; (omega)))
  have K3c : Box W3 (n4 + 2) #[.int .i64 5, .int .i64 20, .int .i64 25, .int .i64 20, .int .i64 0, .int .i64 80, .int .i64 1, .int .i64 2] 84 := by
    obtain ⟨o1, o2, o3, o4, o5, o6, o7⟩ := HO.out
    rw [HW3.out, HW2.out, HW1.out]
    repeat (first | (with_reducible exact T4.out.cd) | (with_reducible refine Box.drew ?_) | (with_reducible refine Box.alloc ?_ _) | ((with_reducible refine box_aside ?_ ?_); rotate_left; (omega)))
  have cK3a := K3a.cell
  have fK3a := K3a.frozen
  have lK3a := K3a.lt
  have cK3b := K3b.cell
  have fK3b := K3b.frozen
  have lK3b := K3b.lt
  have cK3c := K3c.cell
  have fK3c := K3c.frozen
  have lK3c := K3c.lt
  have HK3a := Lib.hid K3a
  have HK3b := Lib.hid K3b
  have HK3c := Lib.hid K3c
  clear K3a K3b K3c
  go_upto_region 22 with fail
  clear cK3a fK3a lK3a cK3b fK3b lK3b cK3c fK3c lK3c
  refine nameAny (p := Code.wp _ _ _ _) ?_
  intro W4 hw
  have HW4 := Lib.hid hw
  clear hw
  have K4a : Box W4 (m + 4) #[.slice (some ⟨n5, 0, none⟩) 3 3, .slice (some ⟨n5 + 1, 0, none⟩) 1 1, .slice (some ⟨n5 + 3, 0, none⟩) 2 2, .slice (some ⟨n5 + 4, 0, none⟩) 3 3] 39 := by
    obtain ⟨o1, o2, o3, o4, o5, o6, o7⟩ := HO.out
    rw [HW4.out, HW3.out, HW2.out, HW1.out]
    repeat (first | (with_reducible exact HB5.out) | (with_reducible refine Box.drew ?_) | (with_reducible refine Box.alloc ?_ _) | ((with_reducible refine box_aside ?_ ?_); rotate_left; (omega)))
  have K4b : Box W4 (n5 + 1) #[.int .i64 20, .int .i64 5, .int .i64 20, .int .i64 15, .int .i64 0, .int .i64 149] 82 := by
    obtain ⟨o1, o2, o3, o4, o5, o6, o7⟩ := HO.out
    rw [HW4.out, HW3.out, HW2.out, HW1.out]
    repeat (first | (with_reducible exact T5.out.rd) | (with_reducible refine Box.drew ?_) | (with_reducible refine Box.alloc ?_ _) | ((with_reducible refine box_aside ?_ ?_); rotate_left; (omega)))
  have cK4a := K4a.cell
  have fK4a := K4a.frozen
  have lK4a := K4a.lt
  have cK4b := K4b.cell
  have fK4b := K4b.frozen
  have lK4b := K4b.lt
  have HK4a := Lib.hid K4a
  have HK4b := Lib.hid K4b
  clear K4a K4b
  go_upto_region 23 with fail
  clear cK4a fK4a lK4a cK4b fK4b lK4b
  refine nameAny (p := Code.wp _ _ _ _) ?_
  intro W5 hw
  have HW5 := Lib.hid hw
  clear hw
  have K5a : Box W5 (m + 5) #[.slice (some ⟨n6, 0, none⟩) 3 3, .slice (some ⟨n6 + 1, 0, none⟩) 1 1, .slice (some ⟨n6 + 3, 0, none⟩) 2 2, .slice (some ⟨n6 + 4, 0, none⟩) 3 3] 39 := by
    obtain ⟨o1, o2, o3, o4, o5, o6, o7⟩ := HO.out
    rw [HW5.out, HW4.out, HW3.out, HW2.out, HW1.out]
    repeat (first | (with_reducible exact HB6.out) | (with_reducible refine Box.drew ?_) | (with_reducible refine Box.alloc ?_ _) | ((with_reducible refine box_aside ?_ ?_); rotate_left; (omega)))
  have K5b : Box W5 (n6 + 1) #[.int .i64 20, .int .i64 5, .int .i64 20, .int .i64 15, .int .i64 0, .int .i64 149] 82 := by
    obtain ⟨o1, o2, o3, o4, o5, o6, o7⟩ := HO.out
    rw [HW5.out, HW4.out, HW3.out, HW2.out, HW1.out]
    repeat (first | (with_reducible exact T6.out.rd) | (with_reducible refine Box.drew ?_) | (with_reducible refine Box.alloc ?_ _) | ((with_reducible refine box_aside ?_ ?_); rotate_left; (omega)))
  have cK5a := K5a.cell
  have fK5a := K5a.frozen
  have lK5a := K5a.lt
  have cK5b := K5b.cell
  have fK5b := K5b.frozen
  have lK5b := K5b.lt
  have HK5a := Lib.hid K5a
  have HK5b := Lib.hid K5b
  clear K5a K5b
  go_upto_region 24 with fail
  clear cK5a fK5a lK5a cK5b fK5b lK5b
  refine nameAny (p := Code.wp _ _ _ _) ?_
  intro W6 hw
  have HW6 := Lib.hid hw
  clear hw
  have hsz : m + 5 < W1.heap.size := by
    have h := HB6.out.lt
    rw [HW1.out]
    simpa [World.setCell, World.drew] using h
  have HO2 := Lib.hid (And.intro hsz HO.out)
  clear hsz
  have B22 : Box W6 (m) #[.slice (some ⟨n1, 0, none⟩) 3 3, .slice (some ⟨n1 + 1, 0, none⟩) 1 1, .slice (some ⟨n1 + 3, 0, none⟩) 2 2, .slice (some ⟨n1 + 4, 0, none⟩) 3 3] 39 := by
    obtain ⟨o0, o1, o2, o3, o4, o5, o6, o7⟩ := HO2.out
    rw [HW6.out, HW5.out, HW4.out, HW3.out, HW2.out, HW1.out]
    repeat (first | (with_reducible exact HB1.out) | (with_reducible refine Box.drew ?_) | (with_reducible refine Box.alloc ?_ _) | ((with_reducible refine box_aside ?_ ?_); rotate_left; (omega)))
  have B24 : Box W6 (m + 2) #[.slice (some ⟨n3, 0, none⟩) 3 3, .slice (some ⟨n3 + 1, 0, none⟩) 1 1, .slice (some ⟨n3 + 3, 0, none⟩) 2 2, .slice (some ⟨n3 + 4, 0, none⟩) 3 3] 39 := by
    obtain ⟨o0, o1, o2, o3, o4, o5, o6, o7⟩ := HO2.out
    rw [HW6.out, HW5.out, HW4.out, HW3.out, HW2.out, HW1.out]
    repeat (first | (with_reducible exact HB3.out) | (with_reducible refine Box.drew ?_) | (with_reducible refine Box.alloc ?_ _) | ((with_reducible refine box_aside ?_ ?_); rotate_left; (omega)))
  have B25 : Box W6 (m + 3) #[.slice (some ⟨n4, 0, none⟩) 3 3, .slice (some ⟨n4 + 1, 0, none⟩) 1 1, .slice (some ⟨n4 + 3, 0, none⟩) 2 2, .slice (some ⟨n4 + 4, 0, none⟩) 3 3] 39 := by
    obtain ⟨o0, o1, o2, o3, o4, o5, o6, o7⟩ := HO2.out
    rw [HW6.out, HW5.out, HW4.out, HW3.out, HW2.out, HW1.out]
    repeat (first | (with_reducible exact HB4.out) | (with_reducible refine Box.drew ?_) | (with_reducible refine Box.alloc ?_ _) | ((with_reducible refine box_aside ?_ ?_); rotate_left; (omega)))
  have B26 : Box W6 (m + 4) #[.slice (some ⟨n5, 0, none⟩) 3 3, .slice (some ⟨n5 + 1, 0, none⟩) 1 1, .slice (some ⟨n5 + 3, 0, none⟩) 2 2, .slice (some ⟨n5 + 4, 0, none⟩) 3 3] 39 := by
    obtain ⟨o0, o1, o2, o3, o4, o5, o6, o7⟩ := HO2.out
    rw [HW6.out, HW5.out, HW4.out, HW3.out, HW2.out, HW1.out]
    repeat (first | (with_reducible exact HB5.out) | (with_reducible refine Box.drew ?_) | (with_reducible refine Box.alloc ?_ _) | ((with_reducible refine box_aside ?_ ?_); rotate_left; (omega)))
  have B27 : Box W6 (m + 5) #[.slice (some ⟨n6, 0, none⟩) 3 3, .slice (some ⟨n6 + 1, 0, none⟩) 1 1, .slice (some ⟨n6 + 3, 0, none⟩) 2 2, .slice (some ⟨n6 + 4, 0, none⟩) 3 3] 39 := by
    obtain ⟨o0, o1, o2, o3, o4, o5, o6, o7⟩ := HO2.out
    rw [HW6.out, HW5.out, HW4.out, HW3.out, HW2.out, HW1.out]
    repeat (first | (with_reducible exact HB6.out) | (with_reducible refine Box.drew ?_) | (with_reducible refine Box.alloc ?_ _) | ((with_reducible refine box_aside ?_ ?_); rotate_left; (omega)))
  have X2 := setCell_box HK1a.out 2 (.slice (some ⟨W1.heap.size, 0, none⟩) 5 5)
  simp only [List.setIfInBounds_toArray, List.set_cons_zero, List.set_cons_succ] at X2
  have B23 : Box W6 (m + 1) #[.slice (some ⟨n2, 0, none⟩) 3 3, .slice (some ⟨n2 + 1, 0, none⟩) 1 1, .slice (some ⟨W1.heap.size, 0, none⟩) 5 5, .slice (some ⟨n2 + 4, 0, none⟩) 3 3] 39 := by
    obtain ⟨o0, o1, o2, o3, o4, o5, o6, o7⟩ := HO2.out
    rw [HW6.out, HW5.out, HW4.out, HW3.out, HW2.out]
    repeat (first | (with_reducible exact X2) | (with_reducible refine Box.drew ?_) | (with_reducible refine Box.alloc ?_ _) | ((with_reducible refine box_aside ?_ ?_); rotate_left; (omega)))
  clear X2
  have X1 := setCell_box (setCell_box T1.out.st 8 (.int .i64 30)) 9 (.int .i64 10)
  simp only [List.setIfInBounds_toArray, List.set_cons_zero, List.set_cons_succ] at X1
  have Y1 : Box W6 n1 #[.int .i64 10, .int .i64 10, .int .i64 100, .int .i64 1, .int .i64 30, .int .i64 10, .int .i64 200, .int .i64 1, .int .i64 30, .int .i64 10, .int .i64 50, .int .i64 2] 81 := by
    obtain ⟨o0, o1, o2, o3, o4, o5, o6, o7⟩ := HO2.out
    rw [HW6.out, HW5.out, HW4.out, HW3.out, HW2.out, HW1.out]
    repeat (first | (with_reducible exact X1) | (with_reducible refine Box.drew ?_) | (with_reducible refine Box.alloc ?_ _) | ((with_reducible refine box_aside ?_ ?_); rotate_left; (omega)))
  have X3 := setCell_box HK2b.out 2 (.int .i64 1001)
  simp only [List.setIfInBounds_toArray, List.set_cons_zero, List.set_cons_succ] at X3
  have Y3 : Box W6 n3 #[.int .i64 10, .int .i64 10, .int .i64 1001, .int .i64 1, .int .i64 30, .int .i64 10, .int .i64 200, .int .i64 1, .int .i64 10, .int .i64 30, .int .i64 50, .int .i64 2] 81 := by
    obtain ⟨o0, o1, o2, o3, o4, o5, o6, o7⟩ := HO2.out
    rw [HW6.out, HW5.out, HW4.out, HW3.out]
    repeat (first | (with_reducible exact X3) | (with_reducible refine Box.drew ?_) | (with_reducible refine Box.alloc ?_ _) | ((with_reducible refine box_aside ?_ ?_); rotate_left; (omega)))
  have X4 := setCell_box HK3c.out 7 (.int .i64 3)
  simp only [List.setIfInBounds_toArray, List.set_cons_zero, List.set_cons_succ] at X4
  have Y4 : Box W6 (n4 + 2) #[.int .i64 5, .int .i64 20, .int .i64 25, .int .i64 20, .int .i64 0, .int .i64 80, .int .i64 1, .int .i64 3] 84 := by
    obtain ⟨o0, o1, o2, o3, o4, o5, o6, o7⟩ := HO2.out
    rw [HW6.out, HW5.out, HW4.out]
    repeat (first | (with_reducible exact X4) | (with_reducible refine Box.drew ?_) | (with_reducible refine Box.alloc ?_ _) | ((with_reducible refine box_aside ?_ ?_); rotate_left; (omega)))
  have X5 := setCell_box HK4b.out 3 (.int .i64 5)
  simp only [List.setIfInBounds_toArray, List.set_cons_zero, List.set_cons_succ] at X5
  have Y5 : Box W6 (n5 + 1) #[.int .i64 20, .int .i64 5, .int .i64 20, .int .i64 5, .int .i64 0, .int .i64 149] 82 := by
    obtain ⟨o0, o1, o2, o3, o4, o5, o6, o7⟩ := HO2.out
    rw [HW6.out, HW5.out]
    repeat (first | (with_reducible exact X5) | (with_reducible refine Box.drew ?_) | (with_reducible refine Box.alloc ?_ _) | ((with_reducible refine box_aside ?_ ?_); rotate_left; (omega)))
  have X6 := setCell_box HK5b.out 4 (.int .i64 1)
  simp only [List.setIfInBounds_toArray, List.set_cons_zero, List.set_cons_succ] at X6
  have Y6 : Box W6 (n6 + 1) #[.int .i64 20, .int .i64 5, .int .i64 20, .int .i64 15, .int .i64 1, .int .i64 149] 82 := by
    obtain ⟨o0, o1, o2, o3, o4, o5, o6, o7⟩ := HO2.out
    rw [HW6.out]
    repeat (first | (with_reducible exact X6) | (with_reducible refine Box.drew ?_) | (with_reducible refine Box.alloc ?_ _) | ((with_reducible refine box_aside ?_ ?_); rotate_left; (omega)))
  have Y2 : Box W6 W1.heap.size #[.slice none 0 0, .slice none 0 0, .slice none 0 0, .slice none 0 0, .slice none 0 0] 85 := by
    obtain ⟨o0, o1, o2, o3, o4, o5, o6, o7⟩ := HO2.out
    rw [HW6.out, HW5.out, HW4.out, HW3.out, HW2.out]
    repeat (first | (with_reducible exact Box.newAt _ _ (by simp [World.setCell])) | ((with_reducible refine box_aside ?_ ?_); rotate_left; (omega)))
  clear X1 X3 X4 X5 X6
  have Zrd : Box W6 (n1 + 1) #[.int .i64 20, .int .i64 5, .int .i64 20, .int .i64 15, .int .i64 0, .int .i64 149] 82 := by
    obtain ⟨o0, o1, o2, o3, o4, o5, o6, o7⟩ := HO2.out
    rw [HW6.out, HW5.out, HW4.out, HW3.out, HW2.out, HW1.out]
    repeat (first | (with_reducible exact T1.out.rd) | (with_reducible refine Box.drew ?_) | (with_reducible refine Box.alloc ?_ _) | ((with_reducible refine box_aside ?_ ?_); rotate_left; (omega)))
  have Zcd : Box W6 (n1 + 2) #[.int .i64 5, .int .i64 20, .int .i64 25, .int .i64 20, .int .i64 0, .int .i64 80, .int .i64 1, .int .i64 2] 84 := by
    obtain ⟨o0, o1, o2, o3, o4, o5, o6, o7⟩ := HO2.out
    rw [HW6.out, HW5.out, HW4.out, HW3.out, HW2.out, HW1.out]
    repeat (first | (with_reducible exact T1.out.cd) | (with_reducible refine Box.drew ?_) | (with_reducible refine Box.alloc ?_ _) | ((with_reducible refine box_aside ?_ ?_); rotate_left; (omega)))
  have Zcs : Box W6 (n1 + 3) #[.slice none 0 0, .slice (some ⟨n1 + 2, 0, none⟩) 1 1] 85 := by
    obtain ⟨o0, o1, o2, o3, o4, o5, o6, o7⟩ := HO2.out
    rw [HW6.out, HW5.out, HW4.out, HW3.out, HW2.out, HW1.out]
    repeat (first | (with_reducible exact T1.out.cs) | (with_reducible refine Box.drew ?_) | (with_reducible refine Box.alloc ?_ _) | ((with_reducible refine box_aside ?_ ?_); rotate_left; (omega)))
  have Zsn : Box W6 (n1 + 4) #[.int .i64 50, .int .i64 0, .int .i64 0, .int .i64 50, .int .i64 0, .int .i64 20, .int .i64 (-50), .int .i64 0, .int .i64 30] 99 := by
    obtain ⟨o0, o1, o2, o3, o4, o5, o6, o7⟩ := HO2.out
    rw [HW6.out, HW5.out, HW4.out, HW3.out, HW2.out, HW1.out]
    repeat (first | (with_reducible exact T1.out.sn) | (with_reducible refine Box.drew ?_) | (with_reducible refine Box.alloc ?_ _) | ((with_reducible refine box_aside ?_ ?_); rotate_left; (omega)))
  have hla1 : LandAt W6 ⟨some ⟨n1, 0, none⟩, 3, some ⟨n1 + 1, 0, none⟩, 1, some ⟨n1 + 3, 0, none⟩, 2, some ⟨n1 + 4, 0, none⟩, 3⟩ sameL := land_boxes Y1 Zrd Zcs Zsn rfl rfl [⟨none, 0, []⟩, ⟨some ⟨n1 + 2, 0, none⟩, 1, [⟨⟨5, 20, 25, 20, 0, 80⟩, 1, 2⟩]⟩] rfl rfl rfl (fun x hx => by
      simp only [List.mem_cons, List.not_mem_nil, or_false] at hx
      rcases hx with rfl | rfl
      · exact .inl rfl
      · exact row_box Zcd rfl (by simp [Cd.vs])) (Nat.le_refl _) (Nat.le_refl _) (Nat.le_refl _) (Nat.le_refl _)
  have C1 : Hid (∀ W, Below W6.heap.size W6 W → Calls Try.prog 38 #[.agg #[.slice (some ⟨n1, 0, none⟩) 3 3, .slice (some ⟨n1 + 1, 0, none⟩) 1 1, .slice (some ⟨n1 + 3, 0, none⟩) 2 2, .slice (some ⟨n1 + 4, 0, none⟩) 3 3]] W (Ret (.int .i64 1) W)) := fun W hb => by
    have h := check_any _ sameL W (hla1.later hb) (by decide) (by decide) (by decide) (by decide) (by decide)
    rw [same_chk] at h
    exact h
  clear hla1 Y1 Zcd Zcs Zrd Zsn
  have Zst : Box W6 (n2) #[.int .i64 10, .int .i64 10, .int .i64 100, .int .i64 1, .int .i64 30, .int .i64 10, .int .i64 200, .int .i64 1, .int .i64 10, .int .i64 30, .int .i64 50, .int .i64 2] 81 := by
    obtain ⟨o0, o1, o2, o3, o4, o5, o6, o7⟩ := HO2.out
    rw [HW6.out, HW5.out, HW4.out, HW3.out, HW2.out, HW1.out]
    repeat (first | (with_reducible exact T2.out.st) | (with_reducible refine Box.drew ?_) | (with_reducible refine Box.alloc ?_ _) | ((with_reducible refine box_aside ?_ ?_); rotate_left; (omega)))
  have Zrd : Box W6 (n2 + 1) #[.int .i64 20, .int .i64 5, .int .i64 20, .int .i64 15, .int .i64 0, .int .i64 149] 82 := by
    obtain ⟨o0, o1, o2, o3, o4, o5, o6, o7⟩ := HO2.out
    rw [HW6.out, HW5.out, HW4.out, HW3.out, HW2.out, HW1.out]
    repeat (first | (with_reducible exact T2.out.rd) | (with_reducible refine Box.drew ?_) | (with_reducible refine Box.alloc ?_ _) | ((with_reducible refine box_aside ?_ ?_); rotate_left; (omega)))
  have Zsn : Box W6 (n2 + 4) #[.int .i64 50, .int .i64 0, .int .i64 0, .int .i64 50, .int .i64 0, .int .i64 20, .int .i64 (-50), .int .i64 0, .int .i64 30] 99 := by
    obtain ⟨o0, o1, o2, o3, o4, o5, o6, o7⟩ := HO2.out
    rw [HW6.out, HW5.out, HW4.out, HW3.out, HW2.out, HW1.out]
    repeat (first | (with_reducible exact T2.out.sn) | (with_reducible refine Box.drew ?_) | (with_reducible refine Box.alloc ?_ _) | ((with_reducible refine box_aside ?_ ?_); rotate_left; (omega)))
  have hla2 : LandAt W6 ⟨some ⟨n2, 0, none⟩, 3, some ⟨n2 + 1, 0, none⟩, 1, some ⟨W1.heap.size, 0, none⟩, 5, some ⟨n2 + 4, 0, none⟩, 3⟩ manyL := land_boxes Zst Zrd Y2 Zsn rfl rfl [⟨none, 0, []⟩, ⟨none, 0, []⟩, ⟨none, 0, []⟩, ⟨none, 0, []⟩, ⟨none, 0, []⟩] rfl rfl rfl (fun x hx => by
      simp only [List.mem_cons, List.not_mem_nil, or_false, or_self] at hx
      subst hx; exact .inl rfl) (Nat.le_refl _) (Nat.le_refl _) (Nat.le_refl _) (Nat.le_refl _)
  have C2 : Hid (∀ W, Below W6.heap.size W6 W → Calls Try.prog 38 #[.agg #[.slice (some ⟨n2, 0, none⟩) 3 3, .slice (some ⟨n2 + 1, 0, none⟩) 1 1, .slice (some ⟨W1.heap.size, 0, none⟩) 5 5, .slice (some ⟨n2 + 4, 0, none⟩) 3 3]] W (Ret (.int .i64 3) W)) := fun W hb => by
    have h := check_any _ manyL W (hla2.later hb) (by decide) (by decide) (by decide) (by decide) (by decide)
    rw [many_chk] at h
    exact h
  clear hla2 Y2 Zrd Zsn Zst
  have Zrd : Box W6 (n3 + 1) #[.int .i64 20, .int .i64 5, .int .i64 20, .int .i64 15, .int .i64 0, .int .i64 149] 82 := by
    obtain ⟨o0, o1, o2, o3, o4, o5, o6, o7⟩ := HO2.out
    rw [HW6.out, HW5.out, HW4.out, HW3.out, HW2.out, HW1.out]
    repeat (first | (with_reducible exact T3.out.rd) | (with_reducible refine Box.drew ?_) | (with_reducible refine Box.alloc ?_ _) | ((with_reducible refine box_aside ?_ ?_); rotate_left; (omega)))
  have Zcd : Box W6 (n3 + 2) #[.int .i64 5, .int .i64 20, .int .i64 25, .int .i64 20, .int .i64 0, .int .i64 80, .int .i64 1, .int .i64 2] 84 := by
    obtain ⟨o0, o1, o2, o3, o4, o5, o6, o7⟩ := HO2.out
    rw [HW6.out, HW5.out, HW4.out, HW3.out, HW2.out, HW1.out]
    repeat (first | (with_reducible exact T3.out.cd) | (with_reducible refine Box.drew ?_) | (with_reducible refine Box.alloc ?_ _) | ((with_reducible refine box_aside ?_ ?_); rotate_left; (omega)))
  have Zcs : Box W6 (n3 + 3) #[.slice none 0 0, .slice (some ⟨n3 + 2, 0, none⟩) 1 1] 85 := by
    obtain ⟨o0, o1, o2, o3, o4, o5, o6, o7⟩ := HO2.out
    rw [HW6.out, HW5.out, HW4.out, HW3.out, HW2.out, HW1.out]
    repeat (first | (with_reducible exact T3.out.cs) | (with_reducible refine Box.drew ?_) | (with_reducible refine Box.alloc ?_ _) | ((with_reducible refine box_aside ?_ ?_); rotate_left; (omega)))
  have Zsn : Box W6 (n3 + 4) #[.int .i64 50, .int .i64 0, .int .i64 0, .int .i64 50, .int .i64 0, .int .i64 20, .int .i64 (-50), .int .i64 0, .int .i64 30] 99 := by
    obtain ⟨o0, o1, o2, o3, o4, o5, o6, o7⟩ := HO2.out
    rw [HW6.out, HW5.out, HW4.out, HW3.out, HW2.out, HW1.out]
    repeat (first | (with_reducible exact T3.out.sn) | (with_reducible refine Box.drew ?_) | (with_reducible refine Box.alloc ?_ _) | ((with_reducible refine box_aside ?_ ?_); rotate_left; (omega)))
  have hla3 : LandAt W6 ⟨some ⟨n3, 0, none⟩, 3, some ⟨n3 + 1, 0, none⟩, 1, some ⟨n3 + 3, 0, none⟩, 2, some ⟨n3 + 4, 0, none⟩, 3⟩ highL := land_boxes Y3 Zrd Zcs Zsn rfl rfl [⟨none, 0, []⟩, ⟨some ⟨n3 + 2, 0, none⟩, 1, [⟨⟨5, 20, 25, 20, 0, 80⟩, 1, 2⟩]⟩] rfl rfl rfl (fun x hx => by
      simp only [List.mem_cons, List.not_mem_nil, or_false] at hx
      rcases hx with rfl | rfl
      · exact .inl rfl
      · exact row_box Zcd rfl (by simp [Cd.vs])) (Nat.le_refl _) (Nat.le_refl _) (Nat.le_refl _) (Nat.le_refl _)
  have C3 : Hid (∀ W, Below W6.heap.size W6 W → Calls Try.prog 38 #[.agg #[.slice (some ⟨n3, 0, none⟩) 3 3, .slice (some ⟨n3 + 1, 0, none⟩) 1 1, .slice (some ⟨n3 + 3, 0, none⟩) 2 2, .slice (some ⟨n3 + 4, 0, none⟩) 3 3]] W (Ret (.int .i64 1) W)) := fun W hb => by
    have h := check_any _ highL W (hla3.later hb) (by decide) (by decide) (by decide) (by decide) (by decide)
    rw [high_chk] at h
    exact h
  clear hla3 Y3 Zcd Zcs Zrd Zsn
  have Zst : Box W6 (n4) #[.int .i64 10, .int .i64 10, .int .i64 100, .int .i64 1, .int .i64 30, .int .i64 10, .int .i64 200, .int .i64 1, .int .i64 10, .int .i64 30, .int .i64 50, .int .i64 2] 81 := by
    obtain ⟨o0, o1, o2, o3, o4, o5, o6, o7⟩ := HO2.out
    rw [HW6.out, HW5.out, HW4.out, HW3.out, HW2.out, HW1.out]
    repeat (first | (with_reducible exact T4.out.st) | (with_reducible refine Box.drew ?_) | (with_reducible refine Box.alloc ?_ _) | ((with_reducible refine box_aside ?_ ?_); rotate_left; (omega)))
  have Zrd : Box W6 (n4 + 1) #[.int .i64 20, .int .i64 5, .int .i64 20, .int .i64 15, .int .i64 0, .int .i64 149] 82 := by
    obtain ⟨o0, o1, o2, o3, o4, o5, o6, o7⟩ := HO2.out
    rw [HW6.out, HW5.out, HW4.out, HW3.out, HW2.out, HW1.out]
    repeat (first | (with_reducible exact T4.out.rd) | (with_reducible refine Box.drew ?_) | (with_reducible refine Box.alloc ?_ _) | ((with_reducible refine box_aside ?_ ?_); rotate_left; (omega)))
  have Zcs : Box W6 (n4 + 3) #[.slice none 0 0, .slice (some ⟨n4 + 2, 0, none⟩) 1 1] 85 := by
    obtain ⟨o0, o1, o2, o3, o4, o5, o6, o7⟩ := HO2.out
    rw [HW6.out, HW5.out, HW4.out, HW3.out, HW2.out, HW1.out]
    repeat (first | (with_reducible exact T4.out.cs) | (with_reducible refine Box.drew ?_) | (with_reducible refine Box.alloc ?_ _) | ((with_reducible refine box_aside ?_ ?_); rotate_left; (omega)))
  have Zsn : Box W6 (n4 + 4) #[.int .i64 50, .int .i64 0, .int .i64 0, .int .i64 50, .int .i64 0, .int .i64 20, .int .i64 (-50), .int .i64 0, .int .i64 30] 99 := by
    obtain ⟨o0, o1, o2, o3, o4, o5, o6, o7⟩ := HO2.out
    rw [HW6.out, HW5.out, HW4.out, HW3.out, HW2.out, HW1.out]
    repeat (first | (with_reducible exact T4.out.sn) | (with_reducible refine Box.drew ?_) | (with_reducible refine Box.alloc ?_ _) | ((with_reducible refine box_aside ?_ ?_); rotate_left; (omega)))
  have hla4 : LandAt W6 ⟨some ⟨n4, 0, none⟩, 3, some ⟨n4 + 1, 0, none⟩, 1, some ⟨n4 + 3, 0, none⟩, 2, some ⟨n4 + 4, 0, none⟩, 3⟩ nightL := land_boxes Zst Zrd Zcs Zsn rfl rfl [⟨none, 0, []⟩, ⟨some ⟨n4 + 2, 0, none⟩, 1, [⟨⟨5, 20, 25, 20, 0, 80⟩, 1, 3⟩]⟩] rfl rfl rfl (fun x hx => by
      simp only [List.mem_cons, List.not_mem_nil, or_false] at hx
      rcases hx with rfl | rfl
      · exact .inl rfl
      · exact row_box Y4 rfl (by simp [Cd.vs])) (Nat.le_refl _) (Nat.le_refl _) (Nat.le_refl _) (Nat.le_refl _)
  have C4 : Hid (∀ W, Below W6.heap.size W6 W → Calls Try.prog 38 #[.agg #[.slice (some ⟨n4, 0, none⟩) 3 3, .slice (some ⟨n4 + 1, 0, none⟩) 1 1, .slice (some ⟨n4 + 3, 0, none⟩) 2 2, .slice (some ⟨n4 + 4, 0, none⟩) 3 3]] W (Ret (.int .i64 1) W)) := fun W hb => by
    have h := check_any _ nightL W (hla4.later hb) (by decide) (by decide) (by decide) (by decide) (by decide)
    rw [night_chk] at h
    exact h
  clear hla4 Y4 Zcs Zrd Zsn Zst
  have Zst : Box W6 (n5) #[.int .i64 10, .int .i64 10, .int .i64 100, .int .i64 1, .int .i64 30, .int .i64 10, .int .i64 200, .int .i64 1, .int .i64 10, .int .i64 30, .int .i64 50, .int .i64 2] 81 := by
    obtain ⟨o0, o1, o2, o3, o4, o5, o6, o7⟩ := HO2.out
    rw [HW6.out, HW5.out, HW4.out, HW3.out, HW2.out, HW1.out]
    repeat (first | (with_reducible exact T5.out.st) | (with_reducible refine Box.drew ?_) | (with_reducible refine Box.alloc ?_ _) | ((with_reducible refine box_aside ?_ ?_); rotate_left; (omega)))
  have Zcd : Box W6 (n5 + 2) #[.int .i64 5, .int .i64 20, .int .i64 25, .int .i64 20, .int .i64 0, .int .i64 80, .int .i64 1, .int .i64 2] 84 := by
    obtain ⟨o0, o1, o2, o3, o4, o5, o6, o7⟩ := HO2.out
    rw [HW6.out, HW5.out, HW4.out, HW3.out, HW2.out, HW1.out]
    repeat (first | (with_reducible exact T5.out.cd) | (with_reducible refine Box.drew ?_) | (with_reducible refine Box.alloc ?_ _) | ((with_reducible refine box_aside ?_ ?_); rotate_left; (omega)))
  have Zcs : Box W6 (n5 + 3) #[.slice none 0 0, .slice (some ⟨n5 + 2, 0, none⟩) 1 1] 85 := by
    obtain ⟨o0, o1, o2, o3, o4, o5, o6, o7⟩ := HO2.out
    rw [HW6.out, HW5.out, HW4.out, HW3.out, HW2.out, HW1.out]
    repeat (first | (with_reducible exact T5.out.cs) | (with_reducible refine Box.drew ?_) | (with_reducible refine Box.alloc ?_ _) | ((with_reducible refine box_aside ?_ ?_); rotate_left; (omega)))
  have Zsn : Box W6 (n5 + 4) #[.int .i64 50, .int .i64 0, .int .i64 0, .int .i64 50, .int .i64 0, .int .i64 20, .int .i64 (-50), .int .i64 0, .int .i64 30] 99 := by
    obtain ⟨o0, o1, o2, o3, o4, o5, o6, o7⟩ := HO2.out
    rw [HW6.out, HW5.out, HW4.out, HW3.out, HW2.out, HW1.out]
    repeat (first | (with_reducible exact T5.out.sn) | (with_reducible refine Box.drew ?_) | (with_reducible refine Box.alloc ?_ _) | ((with_reducible refine box_aside ?_ ?_); rotate_left; (omega)))
  have hla5 : LandAt W6 ⟨some ⟨n5, 0, none⟩, 3, some ⟨n5 + 1, 0, none⟩, 1, some ⟨n5 + 3, 0, none⟩, 2, some ⟨n5 + 4, 0, none⟩, 3⟩ flatL := land_boxes Zst Y5 Zcs Zsn rfl rfl [⟨none, 0, []⟩, ⟨some ⟨n5 + 2, 0, none⟩, 1, [⟨⟨5, 20, 25, 20, 0, 80⟩, 1, 2⟩]⟩] rfl rfl rfl (fun x hx => by
      simp only [List.mem_cons, List.not_mem_nil, or_false] at hx
      rcases hx with rfl | rfl
      · exact .inl rfl
      · exact row_box Zcd rfl (by simp [Cd.vs])) (Nat.le_refl _) (Nat.le_refl _) (Nat.le_refl _) (Nat.le_refl _)
  have C5 : Hid (∀ W, Below W6.heap.size W6 W → Calls Try.prog 38 #[.agg #[.slice (some ⟨n5, 0, none⟩) 3 3, .slice (some ⟨n5 + 1, 0, none⟩) 1 1, .slice (some ⟨n5 + 3, 0, none⟩) 2 2, .slice (some ⟨n5 + 4, 0, none⟩) 3 3]] W (Ret (.int .i64 1) W)) := fun W hb => by
    have h := check_any _ flatL W (hla5.later hb) (by decide) (by decide) (by decide) (by decide) (by decide)
    rw [flat_chk] at h
    exact h
  clear hla5 Y5 Zcd Zcs Zsn Zst
  have Zst : Box W6 (n6) #[.int .i64 10, .int .i64 10, .int .i64 100, .int .i64 1, .int .i64 30, .int .i64 10, .int .i64 200, .int .i64 1, .int .i64 10, .int .i64 30, .int .i64 50, .int .i64 2] 81 := by
    obtain ⟨o0, o1, o2, o3, o4, o5, o6, o7⟩ := HO2.out
    rw [HW6.out, HW5.out, HW4.out, HW3.out, HW2.out, HW1.out]
    repeat (first | (with_reducible exact T6.out.st) | (with_reducible refine Box.drew ?_) | (with_reducible refine Box.alloc ?_ _) | ((with_reducible refine box_aside ?_ ?_); rotate_left; (omega)))
  have Zcd : Box W6 (n6 + 2) #[.int .i64 5, .int .i64 20, .int .i64 25, .int .i64 20, .int .i64 0, .int .i64 80, .int .i64 1, .int .i64 2] 84 := by
    obtain ⟨o0, o1, o2, o3, o4, o5, o6, o7⟩ := HO2.out
    rw [HW6.out, HW5.out, HW4.out, HW3.out, HW2.out, HW1.out]
    repeat (first | (with_reducible exact T6.out.cd) | (with_reducible refine Box.drew ?_) | (with_reducible refine Box.alloc ?_ _) | ((with_reducible refine box_aside ?_ ?_); rotate_left; (omega)))
  have Zcs : Box W6 (n6 + 3) #[.slice none 0 0, .slice (some ⟨n6 + 2, 0, none⟩) 1 1] 85 := by
    obtain ⟨o0, o1, o2, o3, o4, o5, o6, o7⟩ := HO2.out
    rw [HW6.out, HW5.out, HW4.out, HW3.out, HW2.out, HW1.out]
    repeat (first | (with_reducible exact T6.out.cs) | (with_reducible refine Box.drew ?_) | (with_reducible refine Box.alloc ?_ _) | ((with_reducible refine box_aside ?_ ?_); rotate_left; (omega)))
  have Zsn : Box W6 (n6 + 4) #[.int .i64 50, .int .i64 0, .int .i64 0, .int .i64 50, .int .i64 0, .int .i64 20, .int .i64 (-50), .int .i64 0, .int .i64 30] 99 := by
    obtain ⟨o0, o1, o2, o3, o4, o5, o6, o7⟩ := HO2.out
    rw [HW6.out, HW5.out, HW4.out, HW3.out, HW2.out, HW1.out]
    repeat (first | (with_reducible exact T6.out.sn) | (with_reducible refine Box.drew ?_) | (with_reducible refine Box.alloc ?_ _) | ((with_reducible refine box_aside ?_ ?_); rotate_left; (omega)))
  have hla6 : LandAt W6 ⟨some ⟨n6, 0, none⟩, 3, some ⟨n6 + 1, 0, none⟩, 1, some ⟨n6 + 3, 0, none⟩, 2, some ⟨n6 + 4, 0, none⟩, 3⟩ baseL := land_boxes Zst Y6 Zcs Zsn rfl rfl [⟨none, 0, []⟩, ⟨some ⟨n6 + 2, 0, none⟩, 1, [⟨⟨5, 20, 25, 20, 0, 80⟩, 1, 2⟩]⟩] rfl rfl rfl (fun x hx => by
      simp only [List.mem_cons, List.not_mem_nil, or_false] at hx
      rcases hx with rfl | rfl
      · exact .inl rfl
      · exact row_box Zcd rfl (by simp [Cd.vs])) (Nat.le_refl _) (Nat.le_refl _) (Nat.le_refl _) (Nat.le_refl _)
  have C6 : Hid (∀ W, Below W6.heap.size W6 W → Calls Try.prog 38 #[.agg #[.slice (some ⟨n6, 0, none⟩) 3 3, .slice (some ⟨n6 + 1, 0, none⟩) 1 1, .slice (some ⟨n6 + 3, 0, none⟩) 2 2, .slice (some ⟨n6 + 4, 0, none⟩) 3 3]] W (Ret (.int .i64 1) W)) := fun W hb => by
    have h := check_any _ baseL W (hla6.later hb) (by decide) (by decide) (by decide) (by decide) (by decide)
    rw [base_chk] at h
    exact h
  clear hla6 Y6 Zcd Zcs Zsn Zst
  have C7 : Hid (∀ W, Calls Try.prog 38 #[.agg #[.slice none 0 0, .slice none 0 0, .slice none 0 0, .slice none 0 0]] W (Ret (.int .i64 1) W)) := fun W => by
    have h := check_any ⟨none, 0, none, 0, none, 0, none, 0⟩ noneL W ⟨.inl rfl, .inl rfl, ⟨[], rfl, .inl rfl, by simp⟩, .inl rfl, Nat.le_refl _, Nat.le_refl _, Nat.le_refl _, Nat.le_refl _⟩ (by decide) (by decide) (by decide) (by decide) (by decide)
    rw [none_chk] at h
    exact h
  have hW : Below w.heap.size w W6 := by
    obtain ⟨o0, o1, o2, o3, o4, o5, o6, o7⟩ := HO2.out
    rw [HW6.out, HW5.out, HW4.out, HW3.out, HW2.out, HW1.out]
    have h := HHW.out
    repeat (first | (with_reducible exact h) | (with_reducible refine al ?_ _) | (with_reducible refine Below.drew ?_) | ((with_reducible refine sc ?_ ?_ _); rotate_left; ((try dsimp only); omega)))
  have hb0 := Below.refl W6.heap.size W6
  clear HW1 HW2 HW3 HW4 HW5 HW6 T1 T2 T3 T4 T5 T6 HB1 HB2 HB3 HB4 HB5 HB6 HO HO2 HHW HK1a HK2a HK2b HK3a HK3b HK3c HK4a HK4b HK5a HK5b
  have c22 := B22.cell; have t22 := B22.lt; have c23 := B23.cell; have t23 := B23.lt; have c24 := B24.cell; have t24 := B24.lt; have c25 := B25.cell; have t25 := B25.lt; have c26 := B26.cell; have t26 := B26.lt; have c27 := B27.cell; have t27 := B27.lt
  go_wp2_with fail
  refine (C1.out W6 hb0).mono ?_
  rintro e v1 ⟨rfl, hbx⟩
  replace hb0 := over hb0 hbx
  replace hW := over hW hbx; (try clear c22 t22 c23 t23 c24 t24 c25 t25 c26 t26 c27 t27); replace B22 := B22.later hbx; replace B23 := B23.later hbx; replace B24 := B24.later hbx; replace B25 := B25.later hbx; replace B26 := B26.later hbx; replace B27 := B27.later hbx; have c22 := B22.cell; have t22 := B22.lt; have c23 := B23.cell; have t23 := B23.lt; have c24 := B24.cell; have t24 := B24.lt; have c25 := B25.cell; have t25 := B25.lt; have c26 := B26.cell; have t26 := B26.lt; have c27 := B27.cell; have t27 := B27.lt; clear hbx C1
  go_wp2_with fail
  refine (C2.out v1 hb0).mono ?_
  rintro e v2 ⟨rfl, hbx⟩
  replace hb0 := over hb0 hbx
  replace hW := over hW hbx; (try clear c22 t22 c23 t23 c24 t24 c25 t25 c26 t26 c27 t27); replace B22 := B22.later hbx; replace B23 := B23.later hbx; replace B24 := B24.later hbx; replace B25 := B25.later hbx; replace B26 := B26.later hbx; replace B27 := B27.later hbx; have c22 := B22.cell; have t22 := B22.lt; have c23 := B23.cell; have t23 := B23.lt; have c24 := B24.cell; have t24 := B24.lt; have c25 := B25.cell; have t25 := B25.lt; have c26 := B26.cell; have t26 := B26.lt; have c27 := B27.cell; have t27 := B27.lt; clear hbx C2
  go_wp2_with fail
  refine (C3.out v2 hb0).mono ?_
  rintro e v3 ⟨rfl, hbx⟩
  replace hb0 := over hb0 hbx
  replace hW := over hW hbx; (try clear c22 t22 c23 t23 c24 t24 c25 t25 c26 t26 c27 t27); replace B22 := B22.later hbx; replace B23 := B23.later hbx; replace B24 := B24.later hbx; replace B25 := B25.later hbx; replace B26 := B26.later hbx; replace B27 := B27.later hbx; have c22 := B22.cell; have t22 := B22.lt; have c23 := B23.cell; have t23 := B23.lt; have c24 := B24.cell; have t24 := B24.lt; have c25 := B25.cell; have t25 := B25.lt; have c26 := B26.cell; have t26 := B26.lt; have c27 := B27.cell; have t27 := B27.lt; clear hbx C3
  go_wp2_with fail
  refine (C4.out v3 hb0).mono ?_
  rintro e v4 ⟨rfl, hbx⟩
  replace hb0 := over hb0 hbx
  replace hW := over hW hbx; (try clear c22 t22 c23 t23 c24 t24 c25 t25 c26 t26 c27 t27); replace B22 := B22.later hbx; replace B23 := B23.later hbx; replace B24 := B24.later hbx; replace B25 := B25.later hbx; replace B26 := B26.later hbx; replace B27 := B27.later hbx; have c22 := B22.cell; have t22 := B22.lt; have c23 := B23.cell; have t23 := B23.lt; have c24 := B24.cell; have t24 := B24.lt; have c25 := B25.cell; have t25 := B25.lt; have c26 := B26.cell; have t26 := B26.lt; have c27 := B27.cell; have t27 := B27.lt; clear hbx C4
  go_wp2_with fail
  refine (C5.out v4 hb0).mono ?_
  rintro e v5 ⟨rfl, hbx⟩
  replace hb0 := over hb0 hbx
  replace hW := over hW hbx; (try clear c22 t22 c23 t23 c24 t24 c25 t25 c26 t26 c27 t27); replace B22 := B22.later hbx; replace B23 := B23.later hbx; replace B24 := B24.later hbx; replace B25 := B25.later hbx; replace B26 := B26.later hbx; replace B27 := B27.later hbx; have c22 := B22.cell; have t22 := B22.lt; have c23 := B23.cell; have t23 := B23.lt; have c24 := B24.cell; have t24 := B24.lt; have c25 := B25.cell; have t25 := B25.lt; have c26 := B26.cell; have t26 := B26.lt; have c27 := B27.cell; have t27 := B27.lt; clear hbx C5
  go_wp2_with fail
  refine (C6.out v5 hb0).mono ?_
  rintro e v6 ⟨rfl, hbx⟩
  replace hb0 := over hb0 hbx
  replace hW := over hW hbx; (try clear c22 t22 c23 t23 c24 t24 c25 t25 c26 t26 c27 t27); replace B22 := B22.later hbx; replace B23 := B23.later hbx; replace B24 := B24.later hbx; replace B25 := B25.later hbx; replace B26 := B26.later hbx; replace B27 := B27.later hbx; have c22 := B22.cell; have t22 := B22.lt; have c23 := B23.cell; have t23 := B23.lt; have c24 := B24.cell; have t24 := B24.lt; have c25 := B25.cell; have t25 := B25.lt; have c26 := B26.cell; have t26 := B26.lt; have c27 := B27.cell; have t27 := B27.lt; clear hbx C6
  go_wp2_with fail
  refine (C7.out v6).mono ?_
  rintro e v7 ⟨rfl, hbx⟩
  replace hW := over hW hbx; clear hbx C7
  go_wp2_with fail
  refine (awake_any v7).mono ?_
  rintro e v8 ⟨rfl, hbx⟩
  replace hW := over hW hbx; clear hbx 
  go_wp2_with fail
  go_ret
  exact ⟨rfl, hW⟩
end Go.Proofs.Ytmfnkmmbihmjnaa
