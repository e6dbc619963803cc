/- Layer 1, the walks: what blocks (the reference's); stations, a case and an hour that are asked for; whether the sun is behind. -/
import Derived.Test.YtmfnkmmbihmjnaaW6
import Derived.Test.YtmfnkmmbihmjnaaPlain2
open Go.RowKit
namespace Go.Proofs.Ytmfnkmmbihmjnaa
open Go.Hill

set_option maxRecDepth 100000 in
set_option maxHeartbeats 1000000 in
theorem rblocks_any (s : Wl) (a b : Stn) (w : World) (ha : a.In) (hb : b.In) (hs : s.In) :
    Calls Try.prog 58 #[.agg #[.int .i64 s.X1, .int .i64 s.Y1, .int .i64 s.X2, .int .i64 s.Y2, .int .i64 s.B, .int .i64 s.T], .agg #[.int .i64 a.X, .int .i64 a.Y, .int .i64 a.Z, .int .i64 a.M], .agg #[.int .i64 b.X, .int .i64 b.Y, .int .i64 b.Z, .int .i64 b.M]] w (Ret (.bool (blk s a b)) w) := by
  obtain ⟨x1, x2, x3, x4, x5, x6, x7, x8⟩ : In1 s.X1 ∧ In1 s.Y1 ∧ In1 s.X2 ∧ In1 s.Y2 ∧ In1 a.X ∧ In1 a.Y ∧ In1 b.X ∧ In1 b.Y := by unfold Wl.In at hs; unfold Stn.In at ha hb; unfold In1; omega
  have HB : Hid (blk s a b = rblkOf s.B s.T a.Z b.Z (side s.X1 s.Y1 s.X2 s.Y2 a.X a.Y) (side s.X1 s.Y1 s.X2 s.Y2 b.X b.Y) (side a.X a.Y b.X b.Y s.X1 s.Y1) (side a.X a.Y b.X b.Y s.X2 s.Y2)) := (rblk_eq s a b).symm
  go_enter Try.func58, Try.ntmps58
  go_wp2_with fail
  refine named3 (p := fun W => Calls _ _ _ W _) ?_
  intro W hW B3 B4 B5
  refine (crosses_any s a b _ ha hb hs).mono ?_
  rintro e w1 ⟨rfl, hb1⟩
  replace hW := over hW hb1
  (try clear c3 t3 c4 t4 c5 t5); replace B3 := B3.later hb1; replace B4 := B4.later hb1; replace B5 := B5.later hb1; have c3 := B3.cell; have t3 := B3.lt; have c4 := B4.cell; have t4 := B4.lt; have c5 := B5.cell; have t5 := B5.lt
  clear hb1
  obtain ⟨cB, hcB⟩ : ∃ c, c = rcross (side s.X1 s.Y1 s.X2 s.Y2 a.X a.Y) (side s.X1 s.Y1 s.X2 s.Y2 b.X b.Y) (side a.X a.Y b.X b.Y s.X1 s.Y1) (side a.X a.Y b.X b.Y s.X2 s.Y2) := ⟨_, rfl⟩
  rw [← hcB]
  have HC := Lib.hid hcB
  clear hcB
  cases cB with
  | false =>
    go_wp2_with fail
    go_ret
    exact ⟨ret_bool (by rw [HB.out, rblkOf, ← HC.out]; rfl), hW⟩
  | true =>
    go_wp2_with fail
    refine Fat.wp_region_tail 28 (by kernel_rfl) (by kernel_rfl) ?_
    simp only [List.take_succ_cons, List.drop_succ_cons, List.take_nil, List.drop_nil]
    repeat (go_big_quiet_step (exact Calls.regrown_of (rside_any _ _ _ _ _ _ _ (by assumption) (by assumption) (by assumption) (by assumption) (by assumption) (by assumption))))
    refine wpQuiet_nil ?_
    intro w2 hb2
    replace hW := over hW hb2
    (try clear c3 t3 c4 t4 c5 t5); replace B3 := B3.later hb2; replace B4 := B4.later hb2; replace B5 := B5.later hb2; have c3 := B3.cell; have t3 := B3.lt; have c4 := B4.cell; have t4 := B4.lt; have c5 := B5.cell; have t5 := B5.lt
    clear hb2
    have g1 := side_bd x1 x2 x3 x4 x5 x6
    have g2 := side_bd x1 x2 x3 x4 x7 x8
    have HD : Hid (blk s a b = (if side s.X1 s.Y1 s.X2 s.Y2 a.X a.Y < 0 then inB (a.Z * side s.X1 s.Y1 s.X2 s.Y2 b.X b.Y + b.Z * -side s.X1 s.Y1 s.X2 s.Y2 a.X a.Y) (s.B * (-side s.X1 s.Y1 s.X2 s.Y2 a.X a.Y + side s.X1 s.Y1 s.X2 s.Y2 b.X b.Y)) (s.T * (-side s.X1 s.Y1 s.X2 s.Y2 a.X a.Y + side s.X1 s.Y1 s.X2 s.Y2 b.X b.Y))
        else inB (a.Z * -side s.X1 s.Y1 s.X2 s.Y2 b.X b.Y + b.Z * side s.X1 s.Y1 s.X2 s.Y2 a.X a.Y) (s.B * (side s.X1 s.Y1 s.X2 s.Y2 a.X a.Y - side s.X1 s.Y1 s.X2 s.Y2 b.X b.Y)) (s.T * (side s.X1 s.Y1 s.X2 s.Y2 a.X a.Y - side s.X1 s.Y1 s.X2 s.Y2 b.X b.Y)))) := by
      rw [Hid, HB.out, rblkOf, ← HC.out]; rfl
    clear HB HC x1 x2 x3 x4 x5 x6 x7 x8
    generalize side s.X1 s.Y1 s.X2 s.Y2 a.X a.Y = d1 at *
    generalize side s.X1 s.Y1 s.X2 s.Y2 b.X b.Y = d2 at *
    obtain ⟨_, _, _, _, az1, az2⟩ := ha
    obtain ⟨_, _, _, _, bz1, bz2⟩ := hb
    obtain ⟨_, _, _, _, _, _, _, _, sb1, sb2, st1, st2⟩ := hs
    by_cases hneg : d1 < 0
    · have m1 := prod_bd az1 az2 (x := d2) (by omega) (by omega)
      have m2 := prod_bd bz1 bz2 (x := -d1) (by omega) (by omega)
      have m3 := prod_bd sb1 sb2 (x := -d1 + d2) (by omega) (by omega)
      have m4 := prod_bd st1 st2 (x := -d1 + d2) (by omega) (by omega)
      go_wp2_with (go_at_call 23; refine (in_any _ _ _ _).mono ?_; rintro e w' ⟨rfl, hb⟩; replace hW := over hW hb; clear hb)
      go_ret
      exact ⟨ret_bool (by rw [HD.out, if_pos hneg]), hW⟩
    · have m1 := prod_bd az1 az2 (x := -d2) (by omega) (by omega)
      have m2 := prod_bd bz1 bz2 (x := d1) (by omega) (by omega)
      have m3 := prod_bd sb1 sb2 (x := d1 - d2) (by omega) (by omega)
      have m4 := prod_bd st1 st2 (x := d1 - d2) (by omega) (by omega)
      go_wp2_with (go_at_call 23; refine (in_any _ _ _ _).mono ?_; rintro e w' ⟨rfl, hb⟩; replace hW := over hW hb; clear hb)
      go_ret
      exact ⟨ret_bool (by rw [HD.out, if_neg (by omega)]), hW⟩

set_option maxRecDepth 100000 in
set_option maxHeartbeats 400000 in
theorem rasked_any (q : LV) (n n2 m h : Nat) (fr to k t : Int) (w : World) (hn : n ≤ 1000) (hm : m ≤ 1000) (hh : h ≤ 1000) :
    Calls Try.prog 52 #[.agg #[.slice q.a1 n q.c1, .slice q.a2 n2 q.c2, .slice q.a3 m q.c3, .slice q.a4 h q.c4], .int .i64 fr, .int .i64 to, .int .i64 k, .int .i64 t] w (Ret (.int .i64 (askd n m h fr to k t)) w) := by
  obtain ⟨b1, h1⟩ : ∃ b, b = inB fr 0 ((n : Int) - 1) := ⟨_, rfl⟩
  obtain ⟨b2, h2⟩ : ∃ b, b = inB to 0 ((n : Int) - 1) := ⟨_, rfl⟩
  obtain ⟨b3, h3⟩ : ∃ b, b = inB k 0 ((m : Int) - 1) := ⟨_, rfl⟩
  obtain ⟨b4, h4⟩ : ∃ b, b = inB t 0 ((h : Int) - 1) := ⟨_, rfl⟩
  have HG : Hid (askd n m h fr to k t = if b1 && b2 && b3 && b4 then (if fr = to then 6 else 0) else 2) := by rw [h1, h2, h3, h4]; rfl
  have C1 : Hid (∀ w, Calls Try.prog 23 #[.int .i64 fr, .int .i64 0, .int .i64 ((n : Int) - 1)] w (Ret (.bool b1) w)) := fun w => by rw [h1]; exact in_any _ _ _ _
  have C2 : Hid (∀ w, Calls Try.prog 23 #[.int .i64 to, .int .i64 0, .int .i64 ((n : Int) - 1)] w (Ret (.bool b2) w)) := fun w => by rw [h2]; exact in_any _ _ _ _
  have C3 : Hid (∀ w, Calls Try.prog 23 #[.int .i64 k, .int .i64 0, .int .i64 ((m : Int) - 1)] w (Ret (.bool b3) w)) := fun w => by rw [h3]; exact in_any _ _ _ _
  have C4 : Hid (∀ w, Calls Try.prog 23 #[.int .i64 t, .int .i64 0, .int .i64 ((h : Int) - 1)] w (Ret (.bool b4) w)) := fun w => by rw [h4]; exact in_any _ _ _ _
  clear h1 h2 h3 h4
  go_enter Try.func52, Try.ntmps52
  go_wp2_with fail
  refine named1 (p := fun W => Calls _ _ _ W _) ?_; intro W hW B1; have c1 := B1.cell; have t1 := B1.lt
  cases b1 with
  | false =>
    refine (C1.out _).mono ?_
    rintro e w1 ⟨rfl, hb⟩; replace hW := over hW hb; clear hb
    go_wp2_with fail
    go_ret
    exact ⟨ret_int (by rw [HG.out]; rfl), hW⟩
  | true =>
    refine (C1.out _).mono ?_
    rintro e w1 ⟨rfl, hb⟩; replace hW := over hW hb; (try clear c1 t1); replace B1 := B1.later hb; have c1 := B1.cell; have t1 := B1.lt; clear hb
    go_wp2_with fail
    cases b2 with
    | false =>
      refine (C2.out _).mono ?_
      rintro e w1 ⟨rfl, hb⟩; replace hW := over hW hb; clear hb
      go_wp2_with fail
      go_ret
      exact ⟨ret_int (by rw [HG.out]; rfl), hW⟩
    | true =>
      refine (C2.out _).mono ?_
      rintro e w1 ⟨rfl, hb⟩; replace hW := over hW hb; (try clear c1 t1); replace B1 := B1.later hb; have c1 := B1.cell; have t1 := B1.lt; clear hb
      go_wp2_with fail
      cases b3 with
      | false =>
        refine (C3.out _).mono ?_
        rintro e w1 ⟨rfl, hb⟩; replace hW := over hW hb; clear hb
        go_wp2_with fail
        go_ret
        exact ⟨ret_int (by rw [HG.out]; rfl), hW⟩
      | true =>
        refine (C3.out _).mono ?_
        rintro e w1 ⟨rfl, hb⟩; replace hW := over hW hb; (try clear c1 t1); replace B1 := B1.later hb; have c1 := B1.cell; have t1 := B1.lt; clear hb
        go_wp2_with fail
        cases b4 with
        | false =>
          refine (C4.out _).mono ?_
          rintro e w1 ⟨rfl, hb⟩; replace hW := over hW hb; clear hb
          go_wp2_with fail
          go_ret
          exact ⟨ret_int (by rw [HG.out]; rfl), hW⟩
        | true =>
          refine (C4.out _).mono ?_
          rintro e w1 ⟨rfl, hb⟩; replace hW := over hW hb; (try clear c1 t1); replace B1 := B1.later hb; have c1 := B1.cell; have t1 := B1.lt; clear hb
          by_cases hft : fr = to
          · subst hft
            go_wp2_with fail
            go_ret
            exact ⟨ret_int (by rw [HG.out]; simp), hW⟩
          · have hne : (fr == to) = false := by simpa using hft
            go_wp2_with fail
            go_ret
            exact ⟨ret_int (by rw [HG.out]; simp [hft]), hW⟩
set_option maxRecDepth 100000 in
set_option maxHeartbeats 400000 in
theorem asked_any (q : LV) (n n2 m h : Nat) (fr to k t : Int) (w : World) (hn : n ≤ 1000) (hm : m ≤ 1000) (hh : h ≤ 1000) :
    Calls Try.prog 46 #[.agg #[.slice q.a1 n q.c1, .slice q.a2 n2 q.c2, .slice q.a3 m q.c3, .slice q.a4 h q.c4], .agg #[.int .i64 fr, .int .i64 to], .int .i64 k, .int .i64 t] w (Ret (.int .i64 (askd n m h fr to k t)) w) := by
  obtain ⟨b1, h1⟩ : ∃ b, b = inB fr 0 ((n : Int) - 1) := ⟨_, rfl⟩
  obtain ⟨b2, h2⟩ : ∃ b, b = inB to 0 ((n : Int) - 1) := ⟨_, rfl⟩
  obtain ⟨b3, h3⟩ : ∃ b, b = inB k 0 ((m : Int) - 1) := ⟨_, rfl⟩
  obtain ⟨b4, h4⟩ : ∃ b, b = inB t 0 ((h : Int) - 1) := ⟨_, rfl⟩
  have HG : Hid (askd n m h fr to k t = if b1 && b2 && b3 && b4 then (if fr = to then 6 else 0) else 2) := by rw [h1, h2, h3, h4]; rfl
  have C1 : Hid (∀ w, Calls Try.prog 79 #[.int .i64 fr, .int .i64 0, .int .i64 ((n : Int) - 1)] w (Ret (.bool b1) w)) := fun w => by rw [h1]; exact within_any _ _ _ _
  have C2 : Hid (∀ w, Calls Try.prog 79 #[.int .i64 to, .int .i64 0, .int .i64 ((n : Int) - 1)] w (Ret (.bool b2) w)) := fun w => by rw [h2]; exact within_any _ _ _ _
  have C3 : Hid (∀ w, Calls Try.prog 79 #[.int .i64 k, .int .i64 0, .int .i64 ((m : Int) - 1)] w (Ret (.bool b3) w)) := fun w => by rw [h3]; exact within_any _ _ _ _
  have C4 : Hid (∀ w, Calls Try.prog 79 #[.int .i64 t, .int .i64 0, .int .i64 ((h : Int) - 1)] w (Ret (.bool b4) w)) := fun w => by rw [h4]; exact within_any _ _ _ _
  clear h1 h2 h3 h4
  go_enter Try.func46, Try.ntmps46
  go_wp2_with fail
  refine named2 (p := fun W => Calls _ _ _ W _) ?_; intro W hW B1 B2; have c1 := B1.cell; have t1 := B1.lt; have c2 := B2.cell; have t2 := B2.lt
  cases b1 with
  | false =>
    refine (C1.out _).mono ?_
    rintro e w1 ⟨rfl, hb⟩; replace hW := over hW hb; clear hb
    go_wp2_with fail
    go_ret
    exact ⟨ret_int (by rw [HG.out]; rfl), hW⟩
  | true =>
    refine (C1.out _).mono ?_
    rintro e w1 ⟨rfl, hb⟩; replace hW := over hW hb; (try clear c1 t1 c2 t2); replace B1 := B1.later hb; replace B2 := B2.later hb; have c1 := B1.cell; have t1 := B1.lt; have c2 := B2.cell; have t2 := B2.lt; clear hb
    go_wp2_with fail
    cases b2 with
    | false =>
      refine (C2.out _).mono ?_
      rintro e w1 ⟨rfl, hb⟩; replace hW := over hW hb; clear hb
      go_wp2_with fail
      go_ret
      exact ⟨ret_int (by rw [HG.out]; rfl), hW⟩
    | true =>
      refine (C2.out _).mono ?_
      rintro e w1 ⟨rfl, hb⟩; replace hW := over hW hb; (try clear c1 t1 c2 t2); replace B1 := B1.later hb; replace B2 := B2.later hb; have c1 := B1.cell; have t1 := B1.lt; have c2 := B2.cell; have t2 := B2.lt; clear hb
      go_wp2_with fail
      cases b3 with
      | false =>
        refine (C3.out _).mono ?_
        rintro e w1 ⟨rfl, hb⟩; replace hW := over hW hb; clear hb
        go_wp2_with fail
        go_ret
        exact ⟨ret_int (by rw [HG.out]; rfl), hW⟩
      | true =>
        refine (C3.out _).mono ?_
        rintro e w1 ⟨rfl, hb⟩; replace hW := over hW hb; (try clear c1 t1 c2 t2); replace B1 := B1.later hb; replace B2 := B2.later hb; have c1 := B1.cell; have t1 := B1.lt; have c2 := B2.cell; have t2 := B2.lt; clear hb
        go_wp2_with fail
        cases b4 with
        | false =>
          refine (C4.out _).mono ?_
          rintro e w1 ⟨rfl, hb⟩; replace hW := over hW hb; clear hb
          go_wp2_with fail
          go_ret
          exact ⟨ret_int (by rw [HG.out]; rfl), hW⟩
        | true =>
          refine (C4.out _).mono ?_
          rintro e w1 ⟨rfl, hb⟩; replace hW := over hW hb; (try clear c1 t1 c2 t2); replace B1 := B1.later hb; replace B2 := B2.later hb; have c1 := B1.cell; have t1 := B1.lt; have c2 := B2.cell; have t2 := B2.lt; clear hb
          by_cases hft : fr = to
          · subst hft
            go_wp2_with fail
            go_ret
            exact ⟨ret_int (by rw [HG.out]; simp), hW⟩
          · have hne : (fr == to) = false := by simpa using hft
            go_wp2_with fail
            go_ret
            exact ⟨ret_int (by rw [HG.out]; simp [hft]), hW⟩
end Go.Proofs.Ytmfnkmmbihmjnaa
