/- Layer 3's examples: some of them, as each statement checks them last. -/
import Derived.Test.YtfihdaoakfdlpaaRE
import Derived.Test.YtfihdaoakfdlpaaRD
import Derived.Test.YtfihdaoakfdlpaaRB
open Go.RowKit
namespace Go.Proofs.Ytfihdaoakfdlpaa
open Go.Hill

theorem row_box {W : World} {b size : Nat} {cs : Array Value} {T : TypeId} {xs : List (List Value)} (hB : Box W b cs T) (he : cs.toList = xs.flatten) (hl : ∀ x ∈ xs, x.length = size) : RowAt W (some ⟨b, 0, none⟩) size xs :=
  .inr ⟨b, 0, rfl, fun i x hx j v hv => by
    have h := flat_at xs i x hl hx j v hv
    rw [← he] at h
    rw [hB.cell, Nat.zero_add]
    simpa using h⟩
theorem row_take {W : World} {a : Option Addr} {size : Nat} {xs : List (List Value)} (h : RowAt W a size xs) (m : Nat) : RowAt W a size (xs.take m) := by
  rcases h with h | ⟨b, o, h1, h2⟩
  · exact .inl (by rw [h]; simp)
  · exact .inr ⟨b, o, h1, fun i x hx j v hv => h2 i x (by rw [List.getElem?_take] at hx; split at hx <;> first | exact hx | cases hx) j v hv⟩
/-- The chapter's land, with some of its suns. -/
def threeR (m : Nat) : Land := ⟨[⟨10, 10, 100, 1⟩, ⟨30, 10, 200, 1⟩, ⟨10, 30, 50, 2⟩], [⟨20, 5, 20, 15, 0, 149⟩], [[], [⟨⟨5, 20, 25, 20, 0, 80⟩, 1, 2⟩]], [⟨50, 0, 0⟩, ⟨50, 0, 20⟩, ⟨-50, 0, 30⟩, ⟨50, 0, 5⟩].take m⟩
/-- It returns the land, in memory of its own. -/
def RetLandX (L : Land) (w : World) (e : Ending) (w' : World) : Prop := ∃ q : LV, e = .returned (landV q L) ∧ Below w.heap.size w w' ∧ LandAt w' q L
set_option maxRecDepth 100000 in
set_option maxHeartbeats 4000000 in
theorem three3_any (m : Nat) (hm : m ≤ 4) (w : World) : Calls Try.prog 19 #[.int .i64 m] w (RetLandX (threeR m) w) := by
  have r1 : (0 : Int) ≤ (m : Int) := by omega
  have r2 : (m : Int) ≤ 4 := by omega
  go_enter Try.func19, Try.ntmps19
  go_wp2_with fail
  have hl : (threeR m).sn.length = m := by show (List.take m _).length = m; rw [List.length_take]; simp; omega
  refine bodyPost_ret (v := .agg #[.slice (some ⟨w.heap.size + 1, 0, none⟩) 3 3, .slice (some ⟨w.heap.size + 1 + 1, 0, none⟩) 1 1, .slice (some ⟨w.heap.size + 1 + 1 + 1 + 1, 0, none⟩) 2 2, .slice (some ⟨w.heap.size + 1 + 1 + 1 + 1 + 1, 0, none⟩) m 4]) (by simp [results, Try.results19, go_sem]) rfl
    ⟨⟨some ⟨w.heap.size + 1, 0, none⟩, 3, some ⟨w.heap.size + 1 + 1, 0, none⟩, 1, some ⟨w.heap.size + 1 + 1 + 1 + 1, 0, none⟩, 2, some ⟨w.heap.size + 1 + 1 + 1 + 1 + 1, 0, none⟩, 4⟩, by rw [landV, hl]; rfl, (by repeat (first | exact Below.refl _ _ | refine al ?_ _ | refine Below.drew ?_ | refine sc ?_ (by simp) _)), ?_⟩
  refine ⟨row_box (T := 78) (cs := #[.int .i64 10, .int .i64 10, .int .i64 100, .int .i64 1, .int .i64 30, .int .i64 10, .int .i64 200, .int .i64 1, .int .i64 10, .int .i64 30, .int .i64 50, .int .i64 2]) ?_ rfl (by simp [threeR, Stn.vs]),
    row_box (T := 67) (cs := #[.int .i64 20, .int .i64 5, .int .i64 20, .int .i64 15, .int .i64 0, .int .i64 149]) ?_ rfl (by simp [threeR, Wl.vs]), ?_, ?_, Nat.le_refl _, Nat.le_refl _, Nat.le_refl _, by rw [hl]; exact hm⟩
  · repeat (first | exact Box.newAt _ _ (by simp) | refine Box.alloc ?_ _)
  · repeat (first | exact Box.newAt _ _ (by simp) | refine Box.alloc ?_ _)
  · refine ⟨[⟨none, 0, []⟩, ⟨some ⟨w.heap.size + 1 + 1 + 1, 0, none⟩, 1, [⟨⟨5, 20, 25, 20, 0, 80⟩, 1, 2⟩]⟩], rfl, row_box (T := 80) (cs := #[.slice none 0 0, .slice (some ⟨w.heap.size + 1 + 1 + 1, 0, none⟩) 1 1]) ?_ rfl (by simp), fun x hx => ?_⟩
    · repeat (first | exact Box.newAt _ _ (by simp) | refine Box.alloc ?_ _)
    · simp only [List.mem_cons, List.not_mem_nil, or_false] at hx
      rcases hx with rfl | rfl
      · exact .inl rfl
      · refine row_box (T := 98) (cs := #[.int .i64 5, .int .i64 20, .int .i64 25, .int .i64 20, .int .i64 0, .int .i64 80, .int .i64 1, .int .i64 2]) ?_ rfl (by simp [Cd.vs])
        repeat (first | exact Box.newAt _ _ (by simp) | refine Box.alloc ?_ _)
  · show RowAt _ (some ⟨w.heap.size + 1 + 1 + 1 + 1 + 1, 0, none⟩) 3 ((List.take m _).map Sn.vs)
    rw [List.map_take]
    refine row_take (row_box (T := 84) (cs := #[.int .i64 50, .int .i64 0, .int .i64 0, .int .i64 50, .int .i64 0, .int .i64 20, .int .i64 (-50), .int .i64 0, .int .i64 30, .int .i64 50, .int .i64 0, .int .i64 5]) ?_ rfl (by simp [Sn.vs])) m
    repeat (first | exact Box.newAt _ _ (by simp) | refine Box.alloc ?_ _)

theorem rchk4 : (threeR 4).chk = 0 := by decide +kernel
theorem rchk3 : (threeR 3).chk = 0 := by decide +kernel
theorem rex_earl : Land.earlE (threeR 4) 0 0 1 = ([0, 2, 3], 0) := by decide +kernel
theorem rex_sure : Land.sureE (threeR 4) 0 2 0 = (3, 1, 0) := by decide +kernel
theorem rex_lat : Land.latE (threeR 4) 0 2 3 = (1, 0) := by decide +kernel
deriving instance DecidableEq for Hp
theorem rex_route : Land.routeE (threeR 4) 0 2 0 = ([⟨0, 1, 1⟩, ⟨1, 2, 2⟩], 3, 0) := by decide +kernel
theorem rex_vit : Land.vitE (threeR 3) 0 2 0 = ([1], 0) := by decide +kernel

set_option maxRecDepth 100000 in
set_option maxHeartbeats 4000000 in
theorem awake_any (w : World) : Calls Try.prog 8 #[] w (Ret (.bool true) w) := by
  have s4 := small_of rchk4
  have s3 := small_of rchk3
  have HEar := Lib.hid (fun q W hL => rex_earl ▸ Earliest_any q (threeR 4) 0 0 1 W hL s4)
  have HSur := Lib.hid (fun q W hL => rex_sure ▸ Sure_any q (threeR 4) 0 2 0 W hL s4)
  have HLat := Lib.hid (fun q W hL => rex_lat ▸ Latest_any q (threeR 4) 0 2 3 W hL s4)
  have HRou := Lib.hid (fun q W hL => rex_route ▸ Route_any q (threeR 4) 0 2 0 W hL s4)
  have HVit := Lib.hid (fun q W hL => rex_vit ▸ Vital_any q (threeR 3) 0 2 0 W hL s3)
  clear s4 s3
  go_enter Try.func8, Try.ntmps8
  go_wp2_with fail
  refine (three3_any 4 (by omega) w).mono ?_
  rintro e w1 ⟨q1, rfl, hW, hL1⟩
  go_wp2_with fail
  refine (HEar.out q1 w1 hL1).mono ?_
  rintro e w2 ⟨ea, ec, rfl, hb2, hi2⟩
  replace hW := over hW hb2
  have HE2 := Lib.hid (show IntsAt w2 ea [0, 2, 3] from hi2)
  clear hb2 hL1 hi2
  go_wp2_with fail
  refine (three3_any 4 (by omega) w2).mono ?_
  rintro e w3 ⟨q2, rfl, hb3, hL2⟩
  replace hW := over hW hb3
  have HE3 := Lib.hid (HE2.out.later hb3)
  clear hb3 HE2
  go_wp2_with fail
  refine (HSur.out q2 w3 hL2).mono ?_
  rintro e w4 ⟨rfl, hb4⟩
  replace hW := over hW hb4
  have HE4 := Lib.hid (HE3.out.later hb4)
  clear hb4 hL2 HE3
  go_wp2_with fail
  refine (three3_any 4 (by omega) w4).mono ?_
  rintro e w5 ⟨q3, rfl, hb5, hL3⟩
  replace hW := over hW hb5
  have HE5 := Lib.hid (HE4.out.later hb5)
  clear hb5 HE4
  go_wp2_with fail
  refine (HLat.out q3 w5 hL3).mono ?_
  rintro e w6 ⟨rfl, hb6⟩
  replace hW := over hW hb6
  have HE6 := Lib.hid (HE5.out.later hb6)
  clear hb6 hL3 HE5
  go_wp2_with fail
  refine (three3_any 4 (by omega) w6).mono ?_
  rintro e w7 ⟨q4, rfl, hb7, hL4⟩
  replace hW := over hW hb7
  have HE7 := Lib.hid (HE6.out.later hb7)
  clear hb7 HE6
  go_wp2_with fail
  refine (HRou.out q4 w7 hL4).mono ?_
  rintro e w8 ⟨ra, rc, rfl, hb8, hr8⟩
  replace hW := over hW hb8
  have HE8 := Lib.hid (HE7.out.later hb8)
  have HR8 := Lib.hid (show HopsAt w8 ra [⟨0, 1, 1⟩, ⟨1, 2, 2⟩] from hr8)
  clear hb8 hL4 HE7 hr8
  go_wp2_with fail
  refine (three3_any 3 (by omega) w8).mono ?_
  rintro e w9 ⟨q5, rfl, hb9, hL5⟩
  replace hW := over hW hb9
  have HE9 := Lib.hid (HE8.out.later hb9)
  have HR9 := Lib.hid (RowAt.later HR8.out hb9)
  clear hb9 HE8 HR8
  go_wp2_with fail
  refine (HVit.out q5 w9 hL5).mono ?_
  rintro e w10 ⟨va, vc, rfl, hb10, hi10⟩
  replace hW := over hW hb10
  have HE10 := Lib.hid (HE9.out.later hb10)
  have HR10 := Lib.hid (RowAt.later HR9.out hb10)
  have HV10 := Lib.hid (show IntsAt w10 va [1] from hi10)
  clear hb10 hL5 HE9 HR9 hi10
  go_wp2_with fail
  refine named1 (p := fun W => Calls _ _ _ W _) ?_
  intro w11 hb11 B44
  replace hW := over hW hb11
  refine (ints3_yes [0, 2, 3] ea _ _ _ w11 (HE10.out.later hb11) (row_box B44 rfl (by simp)) (by decide)).mono ?_
  rintro e w12 ⟨rfl, hb12⟩
  replace hW := over hW hb12
  have HR12 := Lib.hid (RowAt.later (RowAt.later HR10.out hb11) hb12)
  have HV12 := Lib.hid ((HV10.out.later hb11).later hb12)
  clear hb11 hb12 B44 HE10 HR10 HV10
  go_wp2_with fail
  refine named1 (p := fun W => Calls _ _ _ W _) ?_
  intro w13 hb13 B79
  replace hW := over hW hb13
  refine (hops3_yes [⟨0, 1, 1⟩, ⟨1, 2, 2⟩] ra _ _ _ w13 (RowAt.later HR12.out hb13) (row_box B79 rfl (by simp [Hp.vs])) (by decide)).mono ?_
  rintro e w14 ⟨rfl, hb14⟩
  replace hW := over hW hb14
  have HV14 := Lib.hid ((HV12.out.later hb13).later hb14)
  clear hb13 hb14 B79 HR12 HV12
  go_wp2_with fail
  refine named1 (p := fun W => Calls _ _ _ W _) ?_
  intro w15 hb15 B88
  replace hW := over hW hb15
  refine (ints3_yes [1] va _ _ _ w15 (HV14.out.later hb15) (row_box B88 rfl (by simp)) (by decide)).mono ?_
  rintro e w16 ⟨rfl, hb16⟩
  replace hW := over hW hb16
  clear hb15 hb16 B88 HV14
  go_wp2_with fail
  go_ret
  exact ⟨rfl, hW⟩
end Go.Proofs.Ytfihdaoakfdlpaa
