import Derived.Test.YtingfmdbihbamaaGreatGen0
import Derived.Test.YtingfmdbihbamaaGreatPl0
section
/- What every walk of layer 1 uses: the form of a contract; two places compared. -/
open Go.RowKit
namespace Go.Proofs.YtingfmdbihbamaaGreat
open Go.Hill

/-! ### Two places, compared -/
theorem run_equalIn_two {P : Program} (w : World) (d : Nat) (t e : TypeId) (i : TypeInfo) (a b c f : Int) (ht : P.underlying t = some (.array 2 e)) (he : P.underlying e = some (.int .i64)) (hi : P.info? e = some i) (hs : i.size = 1) :
    (Op.equalIn (d + 2) t (.agg #[.int .i64 a, .int .i64 b]) (.agg #[.int .i64 c, .int .i64 f])).run P w = .ok (a == c && b == f) w := by
  have h1 := fun (x y : Int) => run_equalIn_int (P := P) w d e .i64 .i64 x y he
  unfold Op.equalIn
  simp only [Sem.run_bind, run_underlying ht, Result.andThen_ok]
  simp [sizeOf, typeInfo, hi, hs, part, Std.Legacy.Range.forIn_eq_forIn_range', Std.Legacy.Range.size, List.range', isAgg, run_underlying he, h1]
  by_cases h2 : a = c <;> by_cases h3 : b = f <;> simp [h2, h3]
@[go_sem] theorem place_equal (w : World) (a b c f : Int) : (Op.equalIn 10000 168 (.agg #[.int .i64 a, .int .i64 b]) (.agg #[.int .i64 c, .int .i64 f])).run Tryz.prog w = .ok (a == c && b == f) w := by
  have h : (Tryz.prog.info? 3).map (·.size) = some 1 := by kernel_rfl
  cases hi : Tryz.prog.info? 3 with
  | none => rw [hi] at h; cases h
  | some i => exact run_equalIn_two w 9998 168 3 i a b c f (by kernel_rfl) (by kernel_rfl) hi (by rw [hi] at h; simpa using h)
@[go_sem] theorem place_guard : Tryz.prog.eqGuardType Tryz.prog.depth 168 = false := by kernel_rfl
end Go.Proofs.YtingfmdbihbamaaGreat
end

section
/- Layer 1, the walks: places, sides, what blocks. -/
open Go.RowKit
namespace Go.Proofs.YtingfmdbihbamaaGreat
open Go.Hill

theorem within_any (n a b : Int) (w : World) : Calls Tryz.prog 85 #[.int .i64 n, .int .i64 a, .int .i64 b] w (Ret (.bool (inB n a b)) w) := by
  by_cases h : a ≤ n
  · go_enter Tryz.func85, Tryz.ntmps85
    go_wp2
    go_ret
    exact ⟨ret_bool (by simp [inB]; omega), Below.refl _ _⟩
  · have hd : decide (a ≤ n) = false := by simpa using h
    go_enter Tryz.func85, Tryz.ntmps85
    go_wp2
    go_ret
    exact ⟨ret_bool (by simp [inB]; omega), Below.refl _ _⟩

theorem in_any (n a b : Int) (w : World) : Calls Tryz.prog 16 #[.int .i64 n, .int .i64 a, .int .i64 b] w (Ret (.bool (inB n a b)) w) := by
  by_cases h : a ≤ n
  · have hd : decide (a ≤ n) = true := by simpa using h
    go_enter Tryz.func16, Tryz.ntmps16
    go_wp2
    go_ret
    exact ⟨ret_bool (by simp [inB]; omega), Below.refl _ _⟩
  · have hd : decide (a ≤ n) = false := by simpa using h
    go_enter Tryz.func16, Tryz.ntmps16
    go_wp2
    go_ret
    exact ⟨ret_bool (by simp [inB]; omega), Below.refl _ _⟩

theorem place_any (s : Stn) (w : World) : Calls Tryz.prog 92 #[.agg #[.int .i64 s.X, .int .i64 s.Y, .int .i64 s.Z, .int .i64 s.M]] w (Ret (.agg #[.int .i64 s.X, .int .i64 s.Y]) w) := by
  go_enter Tryz.func92, Tryz.ntmps92
  go_wp2
  exact bodyPost_ret (v := .agg #[.int .i64 s.X, .int .i64 s.Y]) (by simp [results, Tryz.results92, go_sem]) rfl ⟨rfl, (by repeat (first | exact Below.refl _ _ | refine al ?_ _ | refine Below.drew ?_ | refine sc ?_ (by simp) _))⟩

theorem ends_any (s : Wl) (w : World) : Calls Tryz.prog 112 #[.agg #[.int .i64 s.X1, .int .i64 s.Y1, .int .i64 s.X2, .int .i64 s.Y2, .int .i64 s.B, .int .i64 s.T]] w
    (Ret (.tuple #[.agg #[.int .i64 s.X1, .int .i64 s.Y1], .agg #[.int .i64 s.X2, .int .i64 s.Y2]]) w) := by
  go_enter Tryz.func112, Tryz.ntmps112
  go_wp2
  go_region
  all_goals go_wp2
  all_goals exact bodyPost_ret (v := .tuple #[.agg #[.int .i64 s.X1, .int .i64 s.Y1], .agg #[.int .i64 s.X2, .int .i64 s.Y2]]) (by simp [results, Tryz.results112, go_sem]) rfl ⟨rfl, (by repeat (first | exact Below.refl _ _ | refine al ?_ _ | refine Below.drew ?_ | refine sc ?_ (by simp) _))⟩

theorem side_any (px py qx qy x y : Int) (w : World) (h1 : In1 px) (h2 : In1 py) (h3 : In1 qx) (h4 : In1 qy) (h5 : In1 x) (h6 : In1 y) :
    Calls Tryz.prog 127 #[.agg #[.int .i64 px, .int .i64 py], .agg #[.int .i64 qx, .int .i64 qy], .agg #[.int .i64 x, .int .i64 y]] w (Ret (.int .i64 (side px py qx qy x y)) w) := by
  obtain ⟨⟨b1, b2⟩, b3, b4⟩ := side_mul h1 h2 h3 h4 h5 h6
  unfold In1 at *
  go_enter Tryz.func127, Tryz.ntmps127
  go_wp2
  go_ret
  exact ⟨rfl, (by repeat (first | exact Below.refl _ _ | refine al ?_ _ | refine Below.drew ?_ | refine sc ?_ (by simp) _))⟩

theorem abs_any (n : Int) (w : World) (h1 : -1000000 ≤ n) (h2 : n ≤ 1000000) : Calls Tryz.prog 128 #[.int .i64 n] w (Ret (.int .i64 (absI n)) w) := by
  go_enter Tryz.func128, Tryz.ntmps128
  go_wp2
  all_goals
    go_ret
    exact ⟨ret_int (by unfold absI; omega), (by repeat (first | exact Below.refl _ _ | refine al ?_ _ | refine Below.drew ?_ | refine sc ?_ (by simp) _))⟩

theorem base_any (s : Wl) (w : World) : Calls Tryz.prog 129 #[.agg #[.int .i64 s.X1, .int .i64 s.Y1, .int .i64 s.X2, .int .i64 s.Y2, .int .i64 s.B, .int .i64 s.T]] w (Ret (.int .i64 s.B) w) := by
  go_enter Tryz.func129, Tryz.ntmps129
  go_wp2
  go_ret
  exact ⟨rfl, (by repeat (first | exact Below.refl _ _ | refine al ?_ _ | refine Below.drew ?_ | refine sc ?_ (by simp) _))⟩
theorem top_any (s : Wl) (w : World) : Calls Tryz.prog 130 #[.agg #[.int .i64 s.X1, .int .i64 s.Y1, .int .i64 s.X2, .int .i64 s.Y2, .int .i64 s.B, .int .i64 s.T]] w (Ret (.int .i64 s.T) w) := by
  go_enter Tryz.func130, Tryz.ntmps130
  go_wp2
  go_ret
  exact ⟨rfl, (by repeat (first | exact Below.refl _ _ | refine al ?_ _ | refine Below.drew ?_ | refine sc ?_ (by simp) _))⟩

set_option maxHeartbeats 400000 in
theorem above_base (s : Wl) (a b : Stn) (far other : Int) (w : World) (ha : a.In) (hb : b.In) (hs : s.In) (h1 : 0 ≤ far) (h2 : far ≤ 20000) (h3 : 0 ≤ other) (h4 : other ≤ 20000) :
    Calls Tryz.prog 131 #[.agg #[.func (.func 129) #[] #[]], .agg #[.int .i64 s.X1, .int .i64 s.Y1, .int .i64 s.X2, .int .i64 s.Y2, .int .i64 s.B, .int .i64 s.T],
      .agg #[.int .i64 a.X, .int .i64 a.Y, .int .i64 a.Z, .int .i64 a.M], .agg #[.int .i64 b.X, .int .i64 b.Y, .int .i64 b.Z, .int .i64 b.M], .int .i64 far, .int .i64 other] w (Ret (.int .i64 (Hill.over s.B a.Z b.Z far other)) w) := by
  obtain ⟨m1, m2, m3⟩ := over_mul (h := s.B) ha hb (by unfold Wl.In at hs; omega) h1 h2 h3 h4
  clear ha hb hs
  have w1 : IntKind.i64.wrap (a.Z * other + b.Z * far) = a.Z * other + b.Z * far := IntWalk.i64_in _ (by omega)
  have w2 : IntKind.i64.wrap (far + other) = far + other := IntWalk.i64_in _ (by omega)
  have w3 : IntKind.i64.wrap (a.Z * other) = a.Z * other := IntWalk.i64_in _ (by omega)
  have w4 : IntKind.i64.wrap (b.Z * far) = b.Z * far := IntWalk.i64_in _ (by omega)
  have w5 : IntKind.i64.wrap (s.B * (far + other)) = s.B * (far + other) := IntWalk.i64_in _ (by omega)
  have w6 : IntKind.i64.wrap (a.Z * other + b.Z * far - s.B * (far + other)) = a.Z * other + b.Z * far - s.B * (far + other) := IntWalk.i64_in _ (by omega)
  go_enter Tryz.func131, Tryz.ntmps131
  go_wp2
  refine Fat.wp_region_tail 19 (by kernel_rfl) (by kernel_rfl) ?_
  simp only [List.take_succ_cons, List.drop_succ_cons, List.take_nil, List.drop_nil]
  repeat (go_big_quiet_step (exact Calls.regrown_of (base_any s _)))
  refine wpQuiet_nil ?_
  intro w1 hb1
  go_wp2
  go_ret
  exact ⟨rfl, over (by repeat (first | exact Below.refl _ _ | refine al ?_ _ | refine Below.drew ?_ | refine sc ?_ (by simp) _)) hb1⟩
set_option maxHeartbeats 400000 in
theorem above_top (s : Wl) (a b : Stn) (far other : Int) (w : World) (ha : a.In) (hb : b.In) (hs : s.In) (h1 : 0 ≤ far) (h2 : far ≤ 20000) (h3 : 0 ≤ other) (h4 : other ≤ 20000) :
    Calls Tryz.prog 131 #[.agg #[.func (.func 130) #[] #[]], .agg #[.int .i64 s.X1, .int .i64 s.Y1, .int .i64 s.X2, .int .i64 s.Y2, .int .i64 s.B, .int .i64 s.T],
      .agg #[.int .i64 a.X, .int .i64 a.Y, .int .i64 a.Z, .int .i64 a.M], .agg #[.int .i64 b.X, .int .i64 b.Y, .int .i64 b.Z, .int .i64 b.M], .int .i64 far, .int .i64 other] w (Ret (.int .i64 (Hill.over s.T a.Z b.Z far other)) w) := by
  obtain ⟨m1, m2, m3⟩ := over_mul (h := s.T) ha hb (by unfold Wl.In at hs; omega) h1 h2 h3 h4
  clear ha hb hs
  have w1 : IntKind.i64.wrap (a.Z * other + b.Z * far) = a.Z * other + b.Z * far := IntWalk.i64_in _ (by omega)
  have w2 : IntKind.i64.wrap (far + other) = far + other := IntWalk.i64_in _ (by omega)
  have w3 : IntKind.i64.wrap (a.Z * other) = a.Z * other := IntWalk.i64_in _ (by omega)
  have w4 : IntKind.i64.wrap (b.Z * far) = b.Z * far := IntWalk.i64_in _ (by omega)
  have w5 : IntKind.i64.wrap (s.T * (far + other)) = s.T * (far + other) := IntWalk.i64_in _ (by omega)
  have w6 : IntKind.i64.wrap (a.Z * other + b.Z * far - s.T * (far + other)) = a.Z * other + b.Z * far - s.T * (far + other) := IntWalk.i64_in _ (by omega)
  go_enter Tryz.func131, Tryz.ntmps131
  go_wp2
  refine Fat.wp_region_tail 19 (by kernel_rfl) (by kernel_rfl) ?_
  simp only [List.take_succ_cons, List.drop_succ_cons, List.take_nil, List.drop_nil]
  repeat (go_big_quiet_step (exact Calls.regrown_of (top_any s _)))
  refine wpQuiet_nil ?_
  intro w1 hb1
  go_wp2
  go_ret
  exact ⟨rfl, over (by repeat (first | exact Below.refl _ _ | refine al ?_ _ | refine Below.drew ?_ | refine sc ?_ (by simp) _)) hb1⟩
end Go.Proofs.YtingfmdbihbamaaGreat
end

section
/- Layer 1, the walks: whether a wall blocks (the program's). -/
open Go.RowKit
namespace Go.Proofs.YtingfmdbihbamaaGreat
open Go.Hill
set_option maxRecDepth 100000 in
set_option maxHeartbeats 400000 in
theorem blocks_any (s : Wl) (a b : Stn) (w : World) (ha : a.In) (hb : b.In) (hs : s.In) :
    Calls Tryz.prog 125 #[.agg #[.int .i64 s.X1, .int .i64 s.Y1, .int .i64 s.X2, .int .i64 s.Y2, .int .i64 s.B, .int .i64 s.T], .agg #[.int .i64 a.X, .int .i64 a.Y, .int .i64 a.Z, .int .i64 a.M], .agg #[.int .i64 b.X, .int .i64 b.Y, .int .i64 b.Z, .int .i64 b.M]] w (Ret (.bool (blk s a b)) w) := by
  go_enter Tryz.func125, Tryz.ntmps125
  go_wp2_with fail
  refine named3 (p := fun W => Calls _ _ _ W _) ?_
  intro W hW B3 B4 B5
  refine (ends_any s _).mono ?_
  rintro e w1 ⟨rfl, hb1⟩
  replace hW := over hW hb1
  (try clear c3 t3 c4 t4 c5 t5); replace B3 := B3.later hb1; replace B4 := B4.later hb1; replace B5 := B5.later hb1; have c3 := B3.cell; have t3 := B3.lt; have c4 := B4.cell; have t4 := B4.lt; have c5 := B5.cell; have t5 := B5.lt
  clear hb1
  go_wp2_with fail
  refine named2 (p := Code.wp _ _ _ _) ?_
  intro w2 hb2 B7 B8
  replace hW := over hW hb2
  have hl := hb2.size
  (try clear c3 t3 c4 t4 c5 t5); replace B3 := B3.later hb2; replace B4 := B4.later hb2; replace B5 := B5.later hb2; have c3 := B3.cell; have t3 := B3.lt; have c4 := B4.cell; have t4 := B4.lt; have c5 := B5.cell; have t5 := B5.lt
  have c7 := B7.cell; have t7 := B7.lt; have c8 := B8.cell; have t8 := B8.lt
  clear hb2
  refine Fat.wp_region 8 [1, 3, 4, 5, 6, 7] [(6, 4), (7, 5)] (fun i => if i = 1 then isSpec (.agg #[.int .i64 a.X, .int .i64 a.Y]) else if i = 3 then isSpec (.agg #[.int .i64 b.X, .int .i64 b.Y])
      else if i = 6 then setSpec 168 #[.int .i64 a.X, .int .i64 a.Y] else if i = 7 then setSpec 168 #[.int .i64 b.X, .int .i64 b.Y] else newSpec 168 2)
    (fun i => by (repeat' split) <;> first | exact isSpec_lasting _ | exact setSpec_lasting _ _ | exact newSpec_lasting _ _)
    (fun i => by (repeat' split) <;> first | exact isSpec_local _ | exact setSpec_local _ _ | exact newSpec_local _ _) (by kernel_rfl) (by kernel_rfl) ?_
  simp only [List.take_succ_cons, List.take_nil, Fat.pick, List.contains_cons, List.contains_nil, Nat.reduceAdd, Nat.reduceBEq]
  repeat (first | simp only [Bool.or_false] | simp only [Bool.or_true] | simp only [Bool.true_or] | simp only [Bool.false_eq_true] | simp only [if_true] | simp only [if_false])
  repeat (go_big_quiet_step (fail))
  refine wpQuiet_nil ?_
  refine ⟨?_, ?_, ?_⟩
  · intro i o hi hown ho vals lo hi' W hW hdep
    simp only [List.contains_cons, List.contains_nil, Bool.or_false] at hi
    (try simp only [Bool.or_eq_true] at hi)
    simp only [beq_iff_eq] at hi
    rcases hi with rfl | rfl | rfl | rfl | rfl | rfl
    all_goals first
      | exact absurd hown (by decide)
      | (simp only [List.getElem?_cons_succ, List.getElem?_cons_zero, Option.some.injEq] at ho; subst ho; refine .inl ⟨rfl, ?_⟩; simp only [Fat.putN, Fat.dstOf, Act.put, List.getElem?_toArray, List.getElem?_cons_succ, List.getElem?_cons_zero, Option.bind_some, List.setIfInBounds_toArray, List.set_cons_succ, List.set_cons_zero])
    · go_simp
      exact (place_any a W).mono fun e w'' ⟨he, h⟩ => ⟨_, he, h, rfl⟩
    · go_simp
      exact (place_any b W).mono fun e w'' ⟨he, h⟩ => ⟨_, he, h, rfl⟩
    · go_simp
      exact newSpec_new _ _ _
    · go_simp
      exact newSpec_new _ _ _
  · intro i o hi hown ho vals lo hi' W hW hdep
    simp only [List.contains_cons, List.contains_nil, Bool.or_false] at hi
    (try simp only [Bool.or_eq_true] at hi)
    simp only [beq_iff_eq] at hi
    rcases hi with rfl | rfl | rfl | rfl | rfl | rfl
    all_goals first
      | exact absurd (by decide) hown
      | (simp only [List.getElem?_cons_succ, List.getElem?_cons_zero, Option.some.injEq] at ho; subst ho; refine ⟨rfl, ?_⟩; simp only [Fat.putN, Fat.dstOf, Act.put, List.getElem?_toArray, List.getElem?_cons_succ, List.getElem?_cons_zero, Option.bind_some, List.setIfInBounds_toArray, List.set_cons_succ, List.set_cons_zero]; (try simp only [Option.bind_none]))
    · obtain ⟨_, _, _, hn⟩ := hdep 4 rfl (by kernel_rfl)
      obtain ⟨_, _, _, (hv : vals 1 = _)⟩ := hdep 1 rfl (by kernel_rfl)
      exact gives_fill (x := .tmp 9) (y := .tmp 23) rfl hn #[.int .i64 a.X, .int .i64 a.Y] rfl hv rfl (by kernel_rfl) rfl
    · obtain ⟨_, _, _, hn⟩ := hdep 5 rfl (by kernel_rfl)
      obtain ⟨_, _, _, (hv : vals 3 = _)⟩ := hdep 3 rfl (by kernel_rfl)
      exact gives_fill (x := .tmp 10) (y := .tmp 25) rfl hn #[.int .i64 b.X, .int .i64 b.Y] rfl hv rfl (by kernel_rfl) rfl
  · intro vals lo hi' w5 hb3 hphi hdis htied
    obtain ⟨_, _, _, (p1 : vals 1 = _)⟩ := hphi 1 rfl
    obtain ⟨_, _, _, (p3 : vals 3 = _)⟩ := hphi 3 rfl
    obtain ⟨_, _, _, (p4 : vals 4 = _), _⟩ := hphi 4 rfl
    obtain ⟨_, _, _, (p5 : vals 5 = _), _⟩ := hphi 5 rfl
    obtain ⟨_, _, _, _, (B9 : Box w5 (lo 6) _ _)⟩ := hphi 6 rfl
    obtain ⟨_, _, _, _, (B10 : Box w5 (lo 7) _ _)⟩ := hphi 7 rfl
    rw [(htied 6 rfl (by decide)).1] at B9
    rw [(htied 7 rfl (by decide)).1] at B10
    simp only [Fat.putN, Fat.dstOf, Act.put, List.getElem?_toArray, List.getElem?_cons_succ, List.getElem?_cons_zero, Option.bind_some, List.setIfInBounds_toArray, List.set_cons_succ, List.set_cons_zero, List.drop_succ_cons, List.drop_nil]
    (try simp only [Option.bind_none])
    rw [p1, p3, p4, p5]
    clear p1 p3 p4 p5 hphi hdis htied vals
    replace B9 : Box w5 (lo 4) _ _ := B9
    replace B10 : Box w5 (lo 5) _ _ := B10
    generalize lo 4 = b9 at *
    generalize lo 5 = b10 at *
    replace hW := over hW hb3
    (try clear c3 t3 c4 t4 c5 t5 c7 t7 c8 t8); replace B3 := B3.later hb3; replace B4 := B4.later hb3; replace B5 := B5.later hb3; replace B7 := B7.later hb3; replace B8 := B8.later hb3; have c3 := B3.cell; have t3 := B3.lt; have c4 := B4.cell; have t4 := B4.lt; have c5 := B5.cell; have t5 := B5.lt; have c7 := B7.cell; have t7 := B7.lt; have c8 := B8.cell; have t8 := B8.lt
    have c9 := B9.cell; have t9 := B9.lt; have c10 := B10.cell; have t10 := B10.lt
    clear hb3
    clear hl
    go_wp2_with fail
    obtain ⟨x1, x2, x3, x4, x5, x6, x7, x8⟩ : In1 s.X1 ∧ In1 s.Y1 ∧ In1 s.X2 ∧ In1 s.Y2 ∧ In1 a.X ∧ In1 a.Y ∧ In1 b.X ∧ In1 b.Y := by unfold Wl.In at hs; unfold Stn.In at ha hb; unfold In1; omega
    refine Fat.wp_region_tail 10 (by kernel_rfl) (by kernel_rfl) ?_
    simp only [List.take_succ_cons, List.drop_succ_cons, List.take_nil, List.drop_nil]
    repeat (go_big_quiet_step (exact Calls.regrown_of (side_any _ _ _ _ _ _ _ (by assumption) (by assumption) (by assumption) (by assumption) (by assumption) (by assumption))))
    refine wpQuiet_nil ?_
    intro w6 hb6
    replace hW := over hW hb6
    (try clear c3 t3 c4 t4 c5 t5 c7 t7 c8 t8 c9 t9 c10 t10); replace B3 := B3.later hb6; replace B4 := B4.later hb6; replace B5 := B5.later hb6; replace B7 := B7.later hb6; replace B8 := B8.later hb6; replace B9 := B9.later hb6; replace B10 := B10.later hb6; have c3 := B3.cell; have t3 := B3.lt; have c4 := B4.cell; have t4 := B4.lt; have c5 := B5.cell; have t5 := B5.lt; have c7 := B7.cell; have t7 := B7.lt; have c8 := B8.cell; have t8 := B8.lt; have c9 := B9.cell; have t9 := B9.lt; have c10 := B10.cell; have t10 := B10.lt
    clear hb6
    have g1 := side_bd x1 x2 x3 x4 x5 x6
    have g2 := side_bd x1 x2 x3 x4 x7 x8
    have HB : Hid (blk s a b = blkOf s.B s.T a.Z b.Z (side s.X1 s.Y1 s.X2 s.Y2 a.X a.Y) (side s.X1 s.Y1 s.X2 s.Y2 b.X b.Y) (side a.X a.Y b.X b.Y s.X1 s.Y1) (side a.X a.Y b.X b.Y s.X2 s.Y2)) := rfl
    generalize side s.X1 s.Y1 s.X2 s.Y2 a.X a.Y = far at *
    generalize side s.X1 s.Y1 s.X2 s.Y2 b.X b.Y = other at *
    go_wp2_with fail
    iterate 3 (go_ret; exact ⟨ret_bool (by rw [HB.out]; simp_all [blkOf]), hW⟩)
    refine Fat.wp_region_tail 10 (by kernel_rfl) (by kernel_rfl) ?_
    simp only [List.take_succ_cons, List.drop_succ_cons, List.take_nil, List.drop_nil]
    repeat (go_big_quiet_step (exact Calls.regrown_of (side_any _ _ _ _ _ _ _ (by assumption) (by assumption) (by assumption) (by assumption) (by assumption) (by assumption))))
    refine wpQuiet_nil ?_
    intro w7 hb7
    replace hW := over hW hb7
    (try clear c3 t3 c4 t4 c5 t5 c7 t7 c8 t8 c9 t9 c10 t10); replace B3 := B3.later hb7; replace B4 := B4.later hb7; replace B5 := B5.later hb7; replace B7 := B7.later hb7; replace B8 := B8.later hb7; replace B9 := B9.later hb7; replace B10 := B10.later hb7; have c3 := B3.cell; have t3 := B3.lt; have c4 := B4.cell; have t4 := B4.lt; have c5 := B5.cell; have t5 := B5.lt; have c7 := B7.cell; have t7 := B7.lt; have c8 := B8.cell; have t8 := B8.lt; have c9 := B9.cell; have t9 := B9.lt; have c10 := B10.cell; have t10 := B10.lt
    clear hb7
    generalize side a.X a.Y b.X b.Y s.X1 s.Y1 = ss at *
    generalize side a.X a.Y b.X b.Y s.X2 s.Y2 = tt at *
    clear x1 x2 x3 x4 x5 x6 x7 x8
    go_wp2_with fail
    all_goals first
      | (go_ret; exact ⟨ret_bool (by rw [HB.out]; simp_all [blkOf]), hW⟩)
      | skip
    all_goals
      have HT : Hid (blkOf s.B s.T a.Z b.Z far other ss tt = (decide (0 ≤ Hill.over s.B a.Z b.Z (absI far) (absI other)) && decide (Hill.over s.T a.Z b.Z (absI far) (absI other) ≤ 0))) := by
        simp_all [blkOf, Hid]
      have HQ : Hid (blk s a b = (decide (0 ≤ Hill.over s.B a.Z b.Z (absI far) (absI other)) && decide (Hill.over s.T a.Z b.Z (absI far) (absI other) ≤ 0))) := HB.out.trans HT.out
      clear HB HT
      have q1 : 0 ≤ absI far ∧ absI far ≤ 20000 := by unfold absI; omega
      have q2 : 0 ≤ absI other ∧ absI other ≤ 20000 := by unfold absI; omega
      refine (abs_any _ _ (by omega) (by omega)).mono ?_
      rintro e w8 ⟨rfl, hb8⟩
      replace hW := over hW hb8
      replace B3 := B3.later hb8; replace B4 := B4.later hb8; replace B5 := B5.later hb8
      clear hb8
      go_wp2_with fail
      refine (abs_any _ _ (by omega) (by omega)).mono ?_
      rintro e w9 ⟨rfl, hb9⟩
      replace hW := over hW hb9
      (try clear c3 t3 c4 t4 c5 t5)
      (try clear c3 t3 c4 t4 c5 t5); replace B3 := B3.later hb9; replace B4 := B4.later hb9; replace B5 := B5.later hb9; have c3 := B3.cell; have t3 := B3.lt; have c4 := B4.cell; have t4 := B4.lt; have c5 := B5.cell; have t5 := B5.lt
      clear hb9
      go_wp2_with fail
      refine named2 (p := fun W => Calls _ _ _ W _) ?_
      intro w10 hb10 B15 B16
      replace hW := over hW hb10
      replace B3 := B3.later hb10; replace B4 := B4.later hb10; replace B5 := B5.later hb10
      clear hb10
      refine (above_base s a b _ _ _ ha hb hs q1.1 q1.2 q2.1 q2.2).mono ?_
      rintro e w11 ⟨rfl, hb11⟩
      replace hW := over hW hb11
      (try clear c3 t3 c4 t4 c5 t5)
      (try clear c3 t3 c4 t4 c5 t5 c15 t15 c16 t16); replace B3 := B3.later hb11; replace B4 := B4.later hb11; replace B5 := B5.later hb11; replace B15 := B15.later hb11; replace B16 := B16.later hb11; have c3 := B3.cell; have t3 := B3.lt; have c4 := B4.cell; have t4 := B4.lt; have c5 := B5.cell; have t5 := B5.lt; have c15 := B15.cell; have t15 := B15.lt; have c16 := B16.cell; have t16 := B16.lt
      clear hb11
      generalize Hill.over s.B a.Z b.Z (absI far) (absI other) = ob at *
      go_wp2_with (go_at_call 131; refine (above_top s a b _ _ _ ha hb hs q1.1 q1.2 q2.1 q2.2).mono ?_; rintro e w12 ⟨rfl, hb12⟩; replace hW := over hW hb12)
      all_goals
        go_ret
        exact ⟨ret_bool (by rw [HQ.out]; first | (simp; omega) | (simp_all; done)), hW⟩
end Go.Proofs.YtingfmdbihbamaaGreat
end

section
/- Layer 1, the walks: what is valid (the program's), sides and what blocks (the reference's). -/
open Go.RowKit
namespace Go.Proofs.YtingfmdbihbamaaGreat
open Go.Hill


theorem on_any (x y : Int) (w : World) : Calls Tryz.prog 93 #[.agg #[.int .i64 x, .int .i64 y]] w (Ret (.bool (inB x 0 100 && inB y 0 100)) w) := by
  go_enter Tryz.func93, Tryz.ntmps93
  go_wp2_with fail
  refine named1 (p := fun W => Calls _ _ _ W _) ?_
  intro W hW B1
  have c1 := B1.cell; have t1 := B1.lt
  go_wp2_with (go_at_call 85; refine (within_any _ _ _ _).mono ?_; rintro e w' ⟨rfl, hb⟩; replace hW := over hW hb; (try clear c1 t1); replace B1 := B1.later hb; have c1 := B1.cell; have t1 := B1.lt; clear hb)
  all_goals
    go_ret
    exact ⟨ret_bool (by simp_all), hW⟩

theorem stn_valid (s : Stn) (w : World) : Calls Tryz.prog 62 #[.agg #[.int .i64 s.X, .int .i64 s.Y, .int .i64 s.Z, .int .i64 s.M]] w (Ret (.bool s.ok) w) := by
  have HK : Hid (s.ok = (inB s.X 0 100 && inB s.Y 0 100 && inB s.Z 0 1000 && inB s.M 1 2)) := rfl
  go_enter Tryz.func62, Tryz.ntmps62
  go_wp2_with fail
  refine named1 (p := fun W => Calls _ _ _ W _) ?_
  intro W hW B1
  have c1 := B1.cell; have t1 := B1.lt
  go_wp2_with (first
    | (go_at_call 92; refine (place_any s _).mono ?_; rintro e w' ⟨rfl, hb⟩; replace hW := over hW hb; (try clear c1 t1); replace B1 := B1.later hb; have c1 := B1.cell; have t1 := B1.lt; clear hb)
    | (go_at_call 93; refine (on_any _ _ _).mono ?_; rintro e w' ⟨rfl, hb⟩; replace hW := over hW hb; (try clear c1 t1); replace B1 := B1.later hb; have c1 := B1.cell; have t1 := B1.lt; clear hb)
    | (go_at_call 85; refine (within_any _ _ _ _).mono ?_; rintro e w' ⟨rfl, hb⟩; replace hW := over hW hb; (try clear c1 t1); replace B1 := B1.later hb; have c1 := B1.cell; have t1 := B1.lt; clear hb))
  all_goals
    go_ret
    exact ⟨ret_bool (by rw [HK.out]; simp_all), hW⟩

set_option maxRecDepth 100000 in
set_option maxHeartbeats 400000 in
theorem wl_valid (s : Wl) (w : World) : Calls Tryz.prog 84 #[.agg #[.int .i64 s.X1, .int .i64 s.Y1, .int .i64 s.X2, .int .i64 s.Y2, .int .i64 s.B, .int .i64 s.T]] w (Ret (.bool s.ok) w) := by
  have HK : Hid (s.ok = (inB s.X1 0 100 && inB s.Y1 0 100 && inB s.X2 0 100 && inB s.Y2 0 100 && !(s.X1 == s.X2 && s.Y1 == s.Y2) && inB s.B 0 s.T && decide (s.T ≤ 1000))) := rfl
  go_enter Tryz.func84, Tryz.ntmps84
  go_wp2_with fail
  refine named1 (p := fun W => Calls _ _ _ W _) ?_
  intro W hW B1
  refine (ends_any s _).mono ?_
  rintro e w1 ⟨rfl, hb1⟩
  replace hW := over hW hb1
  (try clear c1 t1); replace B1 := B1.later hb1; have c1 := B1.cell; have t1 := B1.lt
  clear hb1
  go_wp2_with fail
  refine named2 (p := fun W => Calls _ _ _ W _) ?_
  intro w2 hb2 B3 B4
  replace hW := over hW hb2
  (try clear c1 t1); replace B1 := B1.later hb2; have c1 := B1.cell; have t1 := B1.lt
  have c3 := B3.cell; have t3 := B3.lt; have c4 := B4.cell; have t4 := B4.lt
  clear hb2
  go_wp2_with (first
    | (go_at_call 93; refine (on_any _ _ _).mono ?_; rintro e w' ⟨rfl, hb⟩; replace hW := over hW hb; (try clear c1 t1 c3 t3 c4 t4); replace B1 := B1.later hb; replace B3 := B3.later hb; replace B4 := B4.later hb; have c1 := B1.cell; have t1 := B1.lt; have c3 := B3.cell; have t3 := B3.lt; have c4 := B4.cell; have t4 := B4.lt; clear hb)
    | (go_at_call 85; refine (within_any _ _ _ _).mono ?_; rintro e w' ⟨rfl, hb⟩; replace hW := over hW hb; (try clear c1 t1 c3 t3 c4 t4); replace B1 := B1.later hb; replace B3 := B3.later hb; replace B4 := B4.later hb; have c1 := B1.cell; have t1 := B1.lt; have c3 := B3.cell; have t3 := B3.lt; have c4 := B4.cell; have t4 := B4.lt; clear hb))
  all_goals
    go_ret
    exact ⟨ret_bool (by rw [HK.out]; simp_all), hW⟩




theorem ridge_any (s : Wl) (w : World) : Calls Tryz.prog 65 #[.agg #[.int .i64 s.X1, .int .i64 s.Y1, .int .i64 s.X2, .int .i64 s.Y2, .int .i64 s.B, .int .i64 s.T]] w (Ret (.bool s.rg) w) := by
  have HK : Hid (s.rg = (s.ok && s.B == 0)) := rfl
  go_enter Tryz.func65, Tryz.ntmps65
  go_wp2_with fail
  refine named1 (p := fun W => Calls _ _ _ W _) ?_
  intro W hW B1
  have c1 := B1.cell; have t1 := B1.lt
  go_wp2_with (go_at_call 84; refine (wl_valid s _).mono ?_; rintro e w' ⟨rfl, hb⟩; replace hW := over hW hb; (try clear c1 t1); replace B1 := B1.later hb; have c1 := B1.cell; have t1 := B1.lt; clear hb)
  all_goals
    go_ret
    exact ⟨ret_bool (by rw [HK.out]; simp_all), hW⟩

set_option maxRecDepth 100000 in
theorem iswall_any (s : Wl) (w : World) : Calls Tryz.prog 17 #[.agg #[.int .i64 s.X1, .int .i64 s.Y1, .int .i64 s.X2, .int .i64 s.Y2, .int .i64 s.B, .int .i64 s.T]] w (Ret (.bool s.ok) w) := by
  have HK : Hid (s.ok = (inB s.X1 0 100 && inB s.Y1 0 100 && inB s.X2 0 100 && inB s.Y2 0 100 && !(s.X1 == s.X2 && s.Y1 == s.Y2) && inB s.B 0 s.T && decide (s.T ≤ 1000))) := rfl
  go_enter Tryz.func17, Tryz.ntmps17
  go_wp2_with fail
  refine named1 (p := fun W => Calls _ _ _ W _) ?_
  intro W hW B1
  have c1 := B1.cell; have t1 := B1.lt
  go_wp2_with (go_at_call 16; refine (in_any _ _ _ _).mono ?_; rintro e w' ⟨rfl, hb⟩; replace hW := over hW hb; (try clear c1 t1); replace B1 := B1.later hb; have c1 := B1.cell; have t1 := B1.lt; clear hb)
  all_goals
    go_ret
    exact ⟨ret_bool (by rw [HK.out]; simp_all [bne]), hW⟩
end Go.Proofs.YtingfmdbihbamaaGreat
end

section
/- Layer 1: rows of structs in memory, and lands. -/
open Go.RowKit
namespace Go.Proofs.YtingfmdbihbamaaGreat
open Go.Hill

/-- A case: its slice. -/
structure CV where
  a : Option Addr
  c : Nat
  cs : List Cd
def CasesAt (W : World) (a : Option Addr) (css : List (List Cd)) : Prop :=
  ∃ l : List CV, l.map (·.cs) = css ∧ RowAt W a 1 (l.map fun x => [.slice x.a x.cs.length x.c]) ∧ ∀ x ∈ l, RowAt W x.a 8 (x.cs.map Cd.vs)
theorem CasesAt.later {W W' : World} {a : Option Addr} {css : List (List Cd)} (h : CasesAt W a css) (hb : Below W.heap.size W W') : CasesAt W' a css := by
  obtain ⟨l, h1, h2, h3⟩ := h
  exact ⟨l, h1, h2.later hb, fun x hx => (h3 x hx).later hb⟩

/-- The places of a land's four slices, and their capacities. -/
structure LV where
  a1 : Option Addr
  c1 : Nat
  a2 : Option Addr
  c2 : Nat
  a3 : Option Addr
  c3 : Nat
  a4 : Option Addr
  c4 : Nat
structure LandAt (W : World) (q : LV) (L : Land) : Prop where
  st : RowAt W q.a1 4 (L.st.map Stn.vs)
  rd : RowAt W q.a2 6 (L.rd.map Wl.vs)
  cs : CasesAt W q.a3 L.cs
  sn : RowAt W q.a4 3 (L.sn.map Sn.vs)
  k1 : L.st.length ≤ q.c1
  k2 : L.rd.length ≤ q.c2
  k3 : L.cs.length ≤ q.c3
  k4 : L.sn.length ≤ q.c4
theorem LandAt.later {W W' : World} {q : LV} {L : Land} (h : LandAt W q L) (hb : Below W.heap.size W W') : LandAt W' q L :=
  ⟨h.st.later hb, h.rd.later hb, h.cs.later hb, h.sn.later hb, h.k1, h.k2, h.k3, h.k4⟩

section
variable {W : World} {b o k : Nat}
theorem cells_wl {l : List Wl} {x : Wl} (h : Cells W b o 6 (l.map Wl.vs)) (hx : l[k]? = some x) :
    W.cell? ⟨b, o + k * 6, none⟩ = some (.int .i64 x.X1) ∧ W.cell? ⟨b, o + k * 6 + 1, none⟩ = some (.int .i64 x.Y1) ∧ W.cell? ⟨b, o + k * 6 + 2, none⟩ = some (.int .i64 x.X2) ∧
    W.cell? ⟨b, o + k * 6 + 3, none⟩ = some (.int .i64 x.Y2) ∧ W.cell? ⟨b, o + k * 6 + 4, none⟩ = some (.int .i64 x.B) ∧ W.cell? ⟨b, o + k * 6 + 5, none⟩ = some (.int .i64 x.T) := by
  have := h k x.vs (by simp [hx])
  exact ⟨this 0 _ rfl, this 1 _ rfl, this 2 _ rfl, this 3 _ rfl, this 4 _ rfl, this 5 _ rfl⟩
theorem cells_cd {l : List Cd} {x : Cd} (h : Cells W b o 8 (l.map Cd.vs)) (hx : l[k]? = some x) :
    W.cell? ⟨b, o + k * 8, none⟩ = some (.int .i64 x.wl.X1) ∧ W.cell? ⟨b, o + k * 8 + 1, none⟩ = some (.int .i64 x.wl.Y1) ∧ W.cell? ⟨b, o + k * 8 + 2, none⟩ = some (.int .i64 x.wl.X2) ∧
    W.cell? ⟨b, o + k * 8 + 3, none⟩ = some (.int .i64 x.wl.Y2) ∧ W.cell? ⟨b, o + k * 8 + 4, none⟩ = some (.int .i64 x.wl.B) ∧ W.cell? ⟨b, o + k * 8 + 5, none⟩ = some (.int .i64 x.wl.T) ∧
    W.cell? ⟨b, o + k * 8 + 6, none⟩ = some (.int .i64 x.fr) ∧ W.cell? ⟨b, o + k * 8 + 7, none⟩ = some (.int .i64 x.to) := by
  have := h k x.vs (by simp [hx])
  exact ⟨this 0 _ rfl, this 1 _ rfl, this 2 _ rfl, this 3 _ rfl, this 4 _ rfl, this 5 _ rfl, this 6 _ rfl, this 7 _ rfl⟩
theorem cells_st {l : List Stn} {x : Stn} (h : Cells W b o 4 (l.map Stn.vs)) (hx : l[k]? = some x) :
    W.cell? ⟨b, o + k * 4, none⟩ = some (.int .i64 x.X) ∧ W.cell? ⟨b, o + k * 4 + 1, none⟩ = some (.int .i64 x.Y) ∧ W.cell? ⟨b, o + k * 4 + 2, none⟩ = some (.int .i64 x.Z) ∧
    W.cell? ⟨b, o + k * 4 + 3, none⟩ = some (.int .i64 x.M) := by
  have := h k x.vs (by simp [hx])
  exact ⟨this 0 _ rfl, this 1 _ rfl, this 2 _ rfl, this 3 _ rfl⟩
theorem cells_sn {l : List Sn} {x : Sn} (h : Cells W b o 3 (l.map Sn.vs)) (hx : l[k]? = some x) :
    W.cell? ⟨b, o + k * 3, none⟩ = some (.int .i64 x.E) ∧ W.cell? ⟨b, o + k * 3 + 1, none⟩ = some (.int .i64 x.N) ∧ W.cell? ⟨b, o + k * 3 + 2, none⟩ = some (.int .i64 x.U) := by
  have := h k x.vs (by simp [hx])
  exact ⟨this 0 _ rfl, this 1 _ rfl, this 2 _ rfl⟩
end

end Go.Proofs.YtingfmdbihbamaaGreat
end
