/- Layer 5, the walks: a good post is one (the program's words for it). -/
import Derived.Test.YtingfmdbihbamaaGreatOP7
open Go.RowKit
namespace Go.Proofs.YtingfmdbihbamaaGreat
namespace Cp
open Go.Once

theorem pwithin_any (n a b : Int) (w : World) : Calls Tryz.prog 73 #[.int .i64 n, .int .i64 a, .int .i64 b] w (Ret (.bool (inB n a b)) w) := by
  by_cases h : a ≤ n
  · have hd : decide (a ≤ n) = true := by simpa using h
    go_enter Tryz.func73, Tryz.ntmps73
    go_wp2
    go_ret
    exact ⟨ret_bool (by simp [inB]; omega), Below.refl _ _⟩
  · have hd : decide (a ≤ n) = false := by simpa using h
    go_enter Tryz.func73, Tryz.ntmps73
    go_wp2
    go_ret
    exact ⟨ret_bool (by simp [inB]; omega), Below.refl _ _⟩
theorem upto_any (r : Rg) (m : Int) (w : World) (hr : r.Ok m) : Calls Tryz.prog 107 #[.agg #[.int .i64 r.lo, .int .i64 r.hi], .int .i64 m] w (Ret (.bool true) w) := by
  obtain ⟨h1, h2, h3⟩ := hr
  have d1 : decide ((0 : Int) ≤ r.lo) = true := by simpa using h1
  have d2 : decide (r.lo ≤ r.hi) = true := by simpa using h2
  have d3 : decide (r.hi ≤ m) = true := by simpa using h3
  go_enter Tryz.func107, Tryz.ntmps107
  go_wp2_with fail
  go_ret
  exact ⟨rfl, (by repeat (first | exact Below.refl _ _ | refine al ?_ _ | refine Below.drew ?_ | refine sc ?_ (by simp) _))⟩
theorem hours_any (r : Rg) (w : World) (hr : r.Ok 30) : Calls Tryz.prog 109 #[.agg #[.int .i64 r.lo, .int .i64 r.hi]] w (Ret (.bool true) w) := by
  go_enter Tryz.func109, Tryz.ntmps109
  go_wp2_with fail
  refine named1 (p := fun W => Calls _ _ _ W _) ?_
  intro W hW B1
  refine (upto_any r 30 W hr).mono ?_
  rintro e w1 ⟨rfl, hb1⟩
  replace hW := over hW hb1; (try clear c1 t1); replace B1 := B1.later hb1; have c1 := B1.cell; have t1 := B1.lt; clear hb1 
  go_wp2_with fail
  go_ret
  exact ⟨rfl, hW⟩
theorem has_any (r : Rg) (n : Int) (w : World) : Calls Tryz.prog 43 #[.agg #[.int .i64 r.lo, .int .i64 r.hi], .int .i64 n] w (Ret (.bool (inB n r.lo r.hi)) w) := by
  go_enter Tryz.func43, Tryz.ntmps43
  go_wp2_with fail
  refine named1 (p := fun W => Calls _ _ _ W _) ?_
  intro W hW B2
  refine (pwithin_any n r.lo r.hi W).mono ?_
  rintro e w1 ⟨rfl, hb1⟩
  replace hW := over hW hb1; (try clear c2 t2); replace B2 := B2.later hb1; have c2 := B2.cell; have t2 := B2.lt; clear hb1 
  go_wp2_with fail
  go_ret
  exact ⟨rfl, hW⟩
theorem legvalid_any (y : LgV) (w : World) (hy : LgAt w y) (ho : y.lg.Ok) : Calls Tryz.prog 79 #[.agg #[.int .i64 y.lg.lo, .int .i64 y.lg.hi, .slice y.a y.lg.as.length y.c]] w (Ret (.bool true) w) := by
  have HY := Lib.hid hy
  have HO := Lib.hid ho
  have hf := ho.few
  clear hy ho
  go_enter Tryz.func79, Tryz.ntmps79
  go_wp2_with fail
  refine named1 (p := fun W => Calls _ _ _ W _) ?_
  intro W hW B1
  have c1 := B1.cell; have t1 := B1.lt
  refine (upto_any ⟨y.lg.lo, y.lg.hi⟩ 6 W HO.out.tk).mono ?_
  rintro e w1 ⟨rfl, hb1⟩
  replace hW := over hW hb1; (try clear c1 t1); replace B1 := B1.later hb1; have c1 := B1.cell; have t1 := B1.lt; clear hb1 
  go_wp2_with fail
  refine (all_rg y.lg.as y.a y.c w1 (RowAt.later HY.out hW) 109 #[] #[] (fun _ => true) (fun _ _ => by kernel_rfl) (by omega) (fun x hx w' _ => hours_any x w' (HO.out.as x hx))).mono ?_
  rintro e w2 ⟨rfl, hb2⟩
  rw [List.all_eq_true.2 (fun x _ => rfl)]
  replace hW := over hW hb2; (try clear c1 t1); replace B1 := B1.later hb2; have c1 := B1.cell; have t1 := B1.lt; clear hb2 
  go_wp2_with fail
  go_ret
  exact ⟨rfl, hW⟩
theorem few1_any (y : LgV) (w : World) (ho : y.lg.Ok) : Calls Tryz.prog 77 #[.agg #[.int .i64 y.lg.lo, .int .i64 y.lg.hi, .slice y.a y.lg.as.length y.c]] w (Ret (.bool true) w) := by
  have hf := ho.few
  have d1 : decide ((y.lg.as.length : Int) ≤ 2) = true := by simp; omega
  clear ho
  go_enter Tryz.func77, Tryz.ntmps77
  go_wp2_with fail
  go_ret
  exact ⟨rfl, (by repeat (first | exact Below.refl _ _ | refine al ?_ _ | refine Below.drew ?_ | refine sc ?_ (by simp) _))⟩
theorem few_any (x : RtV) (w : World) (hx : RtAt w x) (h1 : 0 < x.legs.length) (h3 : x.legs.length ≤ 3) (ho : ∀ l ∈ x.legs, l.lg.Ok) : Calls Tryz.prog 45 #[.agg #[.slice x.a x.legs.length x.c, .bool x.lossy]] w (Ret (.bool true) w) := by
  have HX := Lib.hid hx
  have HO := Lib.hid ho
  have d1 : decide ((x.legs.length : Int) ≤ 3) = true := by simp; omega
  clear hx ho
  go_enter Tryz.func45, Tryz.ntmps45
  go_wp2_with fail
  refine named1 (p := fun W => Calls _ _ _ W _) ?_
  intro W hW B1
  refine (all_lg x.legs x.a x.c W (HX.out.later hW).row 77 #[] #[] (fun _ => true) (fun _ _ => by kernel_rfl) (by omega) (fun y hy w' hb' => few1_any y w' (HO.out y hy))).mono ?_
  rintro e w2 ⟨rfl, hb2⟩
  rw [List.all_eq_true.2 (fun x _ => rfl)]
  replace hW := over hW hb2; (try clear c1 t1); replace B1 := B1.later hb2; have c1 := B1.cell; have t1 := B1.lt; clear hb2 
  go_wp2_with fail
  go_ret
  exact ⟨rfl, hW⟩
theorem valid_any (x : RtV) (w : World) (hx : RtAt w x) (h1 : 0 < x.legs.length) (h3 : x.legs.length ≤ 3) (ho : ∀ l ∈ x.legs, l.lg.Ok) : Calls Tryz.prog 48 #[.agg #[.slice x.a x.legs.length x.c, .bool x.lossy]] w (Ret (.bool true) w) := by
  have HX := Lib.hid hx
  have HO := Lib.hid ho
  have d1 : decide ((0 : Int) < (x.legs.length : Int)) = true := by simp; omega
  clear hx ho
  go_enter Tryz.func48, Tryz.ntmps48
  go_wp2_with fail
  refine named1 (p := fun W => Calls _ _ _ W _) ?_
  intro W hW B1
  refine (all_lg x.legs x.a x.c W (HX.out.later hW).row 79 #[] #[] (fun _ => true) (fun _ _ => by kernel_rfl) (by omega) (fun y hy w' hb' => legvalid_any y w' (((HX.out.later hW).later hb').legs y hy) (HO.out y hy))).mono ?_
  rintro e w2 ⟨rfl, hb2⟩
  rw [List.all_eq_true.2 (fun x _ => rfl)]
  replace hW := over hW hb2; (try clear c1 t1); replace B1 := B1.later hb2; have c1 := B1.cell; have t1 := B1.lt; clear hb2 
  go_wp2_with fail
  go_ret
  exact ⟨rfl, hW⟩

theorem rises_any (l : List Int) (a : Option Addr) (c : Nat) (w : World) (h : IntsAt w a l) (hl : l.length ≤ 1000) (hr : ∀ i a b, l[i]? = some a → l[i + 1]? = some b → a < b) :
    Calls Tryz.prog 47 #[.slice a l.length c] w (Ret (.bool true) w) := by
  have HI := Lib.hid h
  have HR := Lib.hid hr
  clear h hr
  go_enter Tryz.func47, Tryz.ntmps47
  go_wp2_with fail
  go_loopw [3] (fun i wr => ∃ k : Nat, i = .int .i64 ((k : Int) + 1) ∧ (k + 1 ≤ l.length ∨ k = 0) ∧ Below w.heap.size w wr) (fun i _ => l.length + 1 - (intOf i).toNat)
  case atStart => exact ⟨0, rfl, .inr rfl, Below.refl _ _⟩
  case round =>
    obtain ⟨k, rfl, hk, hW⟩ := hrel
    by_cases hlt : k + 1 < l.length
    · obtain ⟨p1, o1, rfl, hC⟩ := RowAt.at (k := k) HI.out (by omega)
      obtain ⟨x, hx⟩ : ∃ x, l[k]? = some x := ⟨l[k], by simp⟩
      obtain ⟨y, hy⟩ : ∃ y, l[k + 1]? = some y := ⟨l[k + 1], by simp⟩
      have e0 := cells_one (hC.later hW) hx
      have e1 := cells_one (hC.later hW) hy
      have z1 := block_lt_of_cell e0
      have hxy := HR.out k x y hx hy
      have d1 : decide (y ≤ x) = false := by simp; omega
      clear hx hy hC hk
      have r1 : (0 : Int) ≤ (k : Int) := by omega
      have r2 : (k : Int) < (l.length : Int) := by omega
      have r3 : (0 : Int) ≤ (k : Int) + 1 := by omega
      have r4 : (k : Int) + 1 < (l.length : Int) := by omega
      go_wp2_with fail
      refine Fat.wp_region_tail 10 (by kernel_rfl) (by kernel_rfl) ?_
      simp only [List.take_succ_cons, List.drop_succ_cons, List.take_nil, List.drop_nil]
      repeat (go_big_quiet_step (fail))
      refine wpQuiet_nil ?_
      intro W2 hb2
      replace hW := over hW hb2
      go_wp2_with fail
      go_roundw
      case rel => exact ⟨k + 1, by go_num, .inl (by omega), hW⟩
      case measure => first | omega | (simp [intOf]; omega)
    · have r4 : ¬ (k : Int) + 1 < (l.length : Int) := by omega
      have r5 : (k : Int) ≤ 1000 := by omega
      clear hlt
      go_wp2_with fail
      go_ret
      exact ⟨rfl, hW⟩

set_option maxRecDepth 100000 in
set_option maxHeartbeats 2000000 in
theorem checkPost_any (q : PV) (p : Ps) (w : World) (hB : PostAt w q p) (ho : p.Ok) : Calls Tryz.prog 24 #[postV q p] w (Ret (.int .i64 0) w) := by
  have HB := Lib.hid hB
  have hrl : q.rs.length = p.routes.length := by rw [← hB.eq]; simp
  obtain ⟨h1, h2, h3, h4, h5, h6, h7, h8⟩ := ho
  have HRt : Hid (∀ x ∈ q.rs, 0 < x.legs.length ∧ x.legs.length ≤ 3 ∧ ∀ l ∈ x.legs, l.lg.Ok) := fun x hx => by
    have h := h8 x.rt (by rw [← hB.eq]; exact List.mem_map_of_mem hx)
    exact ⟨by simpa [RtV.rt] using h.l1, by simpa [RtV.rt] using h.l3, fun l hl => h.legs l.lg (by simp only [RtV.rt]; exact List.mem_map_of_mem hl)⟩
  rw [← hrl] at h3 h4
  have z1 : ((p.sends.length : Int) == 0) = false := beq_eq_false_iff_ne.2 (by omega)
  have z2 : ((q.rs.length : Int) == 0) = false := beq_eq_false_iff_ne.2 (by omega)
  have d1 : decide ((4 : Int) < (p.sends.length : Int)) = false := by simp; omega
  have d2 : decide ((3 : Int) < (q.rs.length : Int)) = false := by simp; omega
  have HP : Hid (inB p.pat 0 30 = true) := by show _ = _; simp [inB]; omega
  have H6 := Lib.hid h6
  have H7 := Lib.hid h7
  clear hB hrl h6 h7 h8 h5
  go_enter Tryz.func24, Tryz.ntmps24
  go_wp2_with fail
  refine named1 (p := fun W => Calls _ _ _ W _) ?_
  intro W hW B1
  have c1 := B1.cell; have t1 := B1.lt
  refine (all_rt q.rs q.a2 q.c2 W (HB.out.later hW).row 45 #[] #[] (fun _ => true) (fun _ _ => by kernel_rfl) (by omega) (fun x hx w' hb' => few_any x w' ((HB.out.later (over hW hb')).rts x hx) (HRt.out x hx).1 (HRt.out x hx).2.1 (HRt.out x hx).2.2)).mono ?_
  rintro e w2 ⟨rfl, hb2⟩
  rw [List.all_eq_true.2 (fun x _ => rfl)]
  replace hW := over hW hb2; (try clear c1 t1); replace B1 := B1.later hb2; have c1 := B1.cell; have t1 := B1.lt; clear hb2 
  go_wp2_with fail
  refine (has_any ⟨0, 30⟩ p.pat _).mono ?_
  rintro e w3 ⟨rfl, hb3⟩
  rw [HP.out]
  replace hW := over hW hb3; (try clear c1 t1); replace B1 := B1.later hb3; have c1 := B1.cell; have t1 := B1.lt; clear hb3 
  go_wp2_with fail
  refine (all_int p.sends q.a1 q.c1 _ (HB.out.later hW).sends 43 #[.agg #[.int .i64 0, .int .i64 30]] #[] (fun n => inB n 0 30) (fun _ _ => by kernel_rfl) (by omega) (fun n _ w' _ => has_any ⟨0, 30⟩ n w')).mono ?_
  rintro e w4 ⟨rfl, hb4⟩
  rw [List.all_eq_true.2 (fun n hn => by have := H6.out n hn; simp [inB]; omega)]
  replace hW := over hW hb4; (try clear c1 t1); replace B1 := B1.later hb4; have c1 := B1.cell; have t1 := B1.lt; clear hb4 
  go_wp2_with fail
  refine (rises_any p.sends q.a1 q.c1 _ (HB.out.later hW).sends (by omega) H7.out).mono ?_
  rintro e w5 ⟨rfl, hb5⟩
  replace hW := over hW hb5; (try clear c1 t1); replace B1 := B1.later hb5; have c1 := B1.cell; have t1 := B1.lt; clear hb5 
  go_wp2_with fail
  refine (all_rt q.rs q.a2 q.c2 _ (HB.out.later hW).row 48 #[] #[] (fun _ => true) (fun _ _ => by kernel_rfl) (by omega) (fun x hx w' hb' => valid_any x w' ((HB.out.later (over hW hb')).rts x hx) (HRt.out x hx).1 (HRt.out x hx).2.1 (HRt.out x hx).2.2)).mono ?_
  rintro e w6 ⟨rfl, hb6⟩
  rw [List.all_eq_true.2 (fun x _ => rfl)]
  replace hW := over hW hb6; (try clear c1 t1); replace B1 := B1.later hb6; have c1 := B1.cell; have t1 := B1.lt; clear hb6 
  go_wp2_with fail
  go_ret
  exact ⟨rfl, hW⟩
end Cp
end Go.Proofs.YtingfmdbihbamaaGreat
