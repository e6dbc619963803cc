/- Layer 1, the walks: the sun behind a station (the reference's), how many mirrors (the program's). -/
import Derived.Test.YtmfnkmmbihmjnaaW7
import Derived.Test.YtmfnkmmbihmjnaaPlain3
open Go.RowKit
namespace Go.Proofs.Ytmfnkmmbihmjnaa
open Go.Hill

/-- A station, a station and a sun go into three new variables. -/
def tri (i1 i2 i3 i4 i5 : Nat) (T1 T2 : TypeId) (a b : Stn) (s : Sn) (i : Nat) : Fat.Spec :=
  if i = i1 then setSpec T1 #[.int .i64 a.X, .int .i64 a.Y, .int .i64 a.Z, .int .i64 a.M] else if i = i2 then setSpec T1 #[.int .i64 b.X, .int .i64 b.Y, .int .i64 b.Z, .int .i64 b.M] else if i = i3 then setSpec T2 #[.int .i64 s.E, .int .i64 s.N, .int .i64 s.U]
  else if i = i4 then newSpec T1 4 else if i = i5 then newSpec T1 4 else newSpec T2 3
theorem tri_lasting {i1 i2 i3 i4 i5 : Nat} {T1 T2 : TypeId} {a b : Stn} {s : Sn} (i : Nat) : Fat.Lasting (tri i1 i2 i3 i4 i5 T1 T2 a b s i) := by
  unfold tri; (repeat' split) <;> first | exact setSpec_lasting _ _ | exact newSpec_lasting _ _
theorem tri_local {i1 i2 i3 i4 i5 : Nat} {T1 T2 : TypeId} {a b : Stn} {s : Sn} (i : Nat) : Fat.Local (tri i1 i2 i3 i4 i5 T1 T2 a b s i) := by
  unfold tri; (repeat' split) <;> first | exact setSpec_local _ _ | exact newSpec_local _ _

set_option maxRecDepth 100000 in
set_option maxHeartbeats 1000000 in
theorem rbehind_any (q : LV) (n2 n3 : Nat) (st : List Stn) (sn : List Sn) (i j t : Nat) (a b : Stn) (s : Sn) (w : World) (h1 : RowAt w q.a1 4 (st.map Stn.vs)) (h4 : RowAt w q.a4 3 (sn.map Sn.vs))
    (hi : st[i]? = some a) (hj : st[j]? = some b) (ht : sn[t]? = some s) (ha : a.In) (hb : b.In) (hs : s.In) :
    Calls Try.prog 27 #[.agg #[.slice q.a1 st.length q.c1, .slice q.a2 n2 q.c2, .slice q.a3 n3 q.c3, .slice q.a4 sn.length q.c4], .int .i64 i, .int .i64 j, .int .i64 t] w (Ret (.bool (behind s a b)) w) := by
  have k1 : i < st.length := (List.getElem?_eq_some_iff.1 hi).1
  have k2 : j < st.length := (List.getElem?_eq_some_iff.1 hj).1
  have k3 : t < sn.length := (List.getElem?_eq_some_iff.1 ht).1
  obtain ⟨p1, o1, ea1, hC1⟩ := h1.at k1
  obtain ⟨p4, o4, ea4, hC4⟩ := h4.at k3
  have r1 : (0 : Int) ≤ (i : Int) := by omega
  have r2 : (i : Int) < (st.length : Int) := by omega
  have r3 : (0 : Int) ≤ (j : Int) := by omega
  have r4 : (j : Int) < (st.length : Int) := by omega
  have r5 : (0 : Int) ≤ (t : Int) := by omega
  have r6 : (t : Int) < (sn.length : Int) := by omega
  obtain ⟨m1, m2⟩ := dot_mul hs ha hb
  have HE : Hid (behind s a b = decide (s.E * (b.X - a.X) + s.N * (b.Y - a.Y) < 0)) := rfl
  rw [ea1, ea4]
  have HC1 := Lib.hid hC1
  have HC4 := Lib.hid hC4
  have HI := Lib.hid hi
  have HJ := Lib.hid hj
  have HT := Lib.hid ht
  clear ea1 ea4 hC1 hC4 h1 h4 hi hj ht
  unfold Stn.In at ha hb
  unfold Sn.In at hs
  go_enter Try.func27, Try.ntmps27
  go_wp2_with fail
  refine named1 (p := Code.wp _ _ _ _) ?_
  intro W hW B4
  have c4 := B4.cell; have t4 := B4.lt
  obtain ⟨e0, e1, e2, e3⟩ := cells_st (HC1.out.later hW) HI.out
  obtain ⟨f0, f1, f2, f3⟩ := cells_st (HC1.out.later hW) HJ.out
  obtain ⟨g0, g1, g2⟩ := cells_sn (HC4.out.later hW) HT.out
  have z1 : p1 < W.heap.size := block_lt_of_cell e0
  have z4 : p4 < W.heap.size := block_lt_of_cell g0
  refine Fat.wp_region 21 [15, 16, 17, 18, 19, 20] [(18, 15), (19, 16), (20, 17)] (tri 18 19 20 15 16 64 50 a b s) tri_lasting tri_local (by kernel_rfl) (by kernel_rfl) ?_
  simp only [List.take_succ_cons, List.take_nil, Fat.pick, List.contains_cons, List.contains_nil, Nat.reduceAdd, Nat.reduceBEq]
  repeat (first | simp only [Bool.or_false] | simp only [Bool.or_true] | simp only [Bool.true_or] | simp only [Bool.false_eq_true] | simp only [if_true] | simp only [if_false])
  repeat (go_big_quiet_step (fail))
  refine wpQuiet_nil ?_
  refine ⟨?_, ?_, ?_⟩
  · intro i o hi hown ho vals lo hi' W hW hdep
    simp only [List.contains_cons, List.contains_nil, Bool.or_false] at hi
    (try simp only [Bool.or_eq_true] at hi)
    simp only [beq_iff_eq] at hi
    rcases hi with rfl | rfl | rfl | rfl | rfl | rfl
    all_goals first
      | exact absurd hown (by decide)
      | (simp only [List.getElem?_cons_succ, List.getElem?_cons_zero, Option.some.injEq] at ho; subst ho; refine .inl ⟨rfl, ?_⟩; simp only [Fat.putN, Fat.dstOf, Act.put, List.getElem?_toArray, List.getElem?_cons_succ, List.getElem?_cons_zero, Option.bind_some, List.setIfInBounds_toArray, List.set_cons_succ, List.set_cons_zero])
    · go_simp
      exact newSpec_new _ _ _
    · go_simp
      exact newSpec_new _ _ _
    · go_simp
      exact newSpec_new _ _ _
  · intro i o hi hown ho vals lo hi' W hW hdep
    simp only [List.contains_cons, List.contains_nil, Bool.or_false] at hi
    (try simp only [Bool.or_eq_true] at hi)
    simp only [beq_iff_eq] at hi
    rcases hi with rfl | rfl | rfl | rfl | rfl | rfl
    all_goals first
      | exact absurd (by decide) hown
      | (simp only [List.getElem?_cons_succ, List.getElem?_cons_zero, Option.some.injEq] at ho; subst ho; refine ⟨rfl, ?_⟩; simp only [Fat.putN, Fat.dstOf, Act.put, List.getElem?_toArray, List.getElem?_cons_succ, List.getElem?_cons_zero, Option.bind_some, List.setIfInBounds_toArray, List.set_cons_succ, List.set_cons_zero]; (try simp only [Option.bind_none]))
    · obtain ⟨_, _, _, hn⟩ := hdep 15 rfl (by kernel_rfl)
      exact gives_fill (x := .tmp 9) (y := .tmp 16) rfl hn #[.int .i64 a.X, .int .i64 a.Y, .int .i64 a.Z, .int .i64 a.M] rfl rfl rfl (by kernel_rfl) rfl
    · obtain ⟨_, _, _, hn⟩ := hdep 16 rfl (by kernel_rfl)
      exact gives_fill (x := .tmp 10) (y := .tmp 21) rfl hn #[.int .i64 b.X, .int .i64 b.Y, .int .i64 b.Z, .int .i64 b.M] rfl rfl rfl (by kernel_rfl) rfl
    · obtain ⟨_, _, _, hn⟩ := hdep 17 rfl (by kernel_rfl)
      exact gives_fill (x := .tmp 11) (y := .tmp 26) rfl hn #[.int .i64 s.E, .int .i64 s.N, .int .i64 s.U] rfl rfl rfl (by kernel_rfl) rfl
  · intro vals lo hi' w5 hb3 hphi hdis htied
    obtain ⟨_, _, _, (p15 : vals 15 = _), _⟩ := hphi 15 rfl
    obtain ⟨_, _, _, (p16 : vals 16 = _), _⟩ := hphi 16 rfl
    obtain ⟨_, _, _, (p17 : vals 17 = _), _⟩ := hphi 17 rfl
    obtain ⟨_, _, _, _, (B9 : Box w5 (lo 18) _ _)⟩ := hphi 18 rfl
    obtain ⟨_, _, _, _, (B10 : Box w5 (lo 19) _ _)⟩ := hphi 19 rfl
    obtain ⟨_, _, _, _, (B11 : Box w5 (lo 20) _ _)⟩ := hphi 20 rfl
    rw [(htied 18 rfl (by decide)).1] at B9
    rw [(htied 19 rfl (by decide)).1] at B10
    rw [(htied 20 rfl (by decide)).1] at B11
    simp only [Fat.putN, Fat.dstOf, Act.put, List.getElem?_toArray, List.getElem?_cons_succ, List.getElem?_cons_zero, Option.bind_some, List.setIfInBounds_toArray, List.set_cons_succ, List.set_cons_zero, List.drop_succ_cons, List.drop_nil]
    (try simp only [Option.bind_none])
    rw [p15, p16, p17]
    clear p15 p16 p17 hphi hdis htied vals
    replace B9 : Box w5 (lo 15) _ _ := B9
    replace B10 : Box w5 (lo 16) _ _ := B10
    replace B11 : Box w5 (lo 17) _ _ := B11
    generalize lo 15 = b9 at *
    generalize lo 16 = b10 at *
    generalize lo 17 = b11 at *
    replace hW := over hW hb3
    clear hb3 e0 e1 e2 e3 f0 f1 f2 f3 g0 g1 g2 z1 z4 B4 c4 t4
    have c9 := B9.cell; have t9 := B9.lt; have c10 := B10.cell; have t10 := B10.lt; have c11 := B11.cell; have t11 := B11.lt
    go_wp2_with fail
    go_ret
    exact ⟨ret_bool (by rw [HE.out]), hW⟩
set_option maxRecDepth 100000 in
set_option maxHeartbeats 1000000 in
theorem mirrors_any (q : LV) (n2 n3 : Nat) (bw : Nat) (mv : Value) (st : List Stn) (sn : List Sn) (i j t : Nat) (a b : Stn) (s : Sn) (w : World) (h1 : RowAt w q.a1 4 (st.map Stn.vs)) (h4 : RowAt w q.a4 3 (sn.map Sn.vs))
    (hi : st[i]? = some a) (hj : st[j]? = some b) (ht : sn[t]? = some s) (ha : a.In) (hb : b.In) (hs : s.In)
    (B1 : Box w bw #[.slice q.a1 st.length q.c1, .slice q.a2 n2 q.c2, .slice q.a3 n3 q.c3, .slice q.a4 sn.length q.c4, mv] 127) :
    Calls Try.prog 50 #[.pointer (some ⟨bw, 0, none⟩), .agg #[.int .i64 i, .int .i64 j], .int .i64 t] w (Ret (.int .i64 (needM s a b)) w) := by
  have k1 : i < st.length := (List.getElem?_eq_some_iff.1 hi).1
  have k2 : j < st.length := (List.getElem?_eq_some_iff.1 hj).1
  have k3 : t < sn.length := (List.getElem?_eq_some_iff.1 ht).1
  obtain ⟨p1, o1, ea1, hC1⟩ := h1.at k1
  obtain ⟨p4, o4, ea4, hC4⟩ := h4.at k3
  have r1 : (0 : Int) ≤ (i : Int) := by omega
  have r2 : (i : Int) < (st.length : Int) := by omega
  have r3 : (0 : Int) ≤ (j : Int) := by omega
  have r4 : (j : Int) < (st.length : Int) := by omega
  have r5 : (0 : Int) ≤ (t : Int) := by omega
  have r6 : (t : Int) < (sn.length : Int) := by omega
  obtain ⟨m1, m2⟩ := dot_mul hs ha hb
  have HE : Hid (needM s a b = if s.E * (b.X - a.X) + s.N * (b.Y - a.Y) < 0 then 2 else 1) := by unfold Hid needM behind dot; by_cases h : s.E * (b.X - a.X) + s.N * (b.Y - a.Y) < 0 <;> simp [h]
  rw [ea1, ea4] at B1
  have HC1 := Lib.hid hC1
  have HC4 := Lib.hid hC4
  have HI := Lib.hid hi
  have HJ := Lib.hid hj
  have HT := Lib.hid ht
  clear ea1 ea4 hC1 hC4 h1 h4 hi hj ht
  unfold Stn.In at ha hb
  unfold Sn.In at hs
  go_enter Try.func50, Try.ntmps50
  go_wp2_with fail
  refine named1 (p := Code.wp _ _ _ _) ?_
  intro W hW B4
  (try clear c1 t1); replace B1 := B1.later hW; have c1 := B1.cell; have t1 := B1.lt
  have c4 := B4.cell; have t4 := B4.lt
  obtain ⟨e0, e1, e2, e3⟩ := cells_st (HC1.out.later hW) HI.out
  obtain ⟨f0, f1, f2, f3⟩ := cells_st (HC1.out.later hW) HJ.out
  obtain ⟨g0, g1, g2⟩ := cells_sn (HC4.out.later hW) HT.out
  have z1 : p1 < W.heap.size := block_lt_of_cell e0
  have z4 : p4 < W.heap.size := block_lt_of_cell g0
  refine Fat.wp_region 32 [26, 27, 28, 29, 30, 31] [(29, 26), (30, 27), (31, 28)] (tri 29 30 31 26 27 81 99 a b s) tri_lasting tri_local (by kernel_rfl) (by kernel_rfl) ?_
  simp only [List.take_succ_cons, List.take_nil, Fat.pick, List.contains_cons, List.contains_nil, Nat.reduceAdd, Nat.reduceBEq]
  repeat (first | simp only [Bool.or_false] | simp only [Bool.or_true] | simp only [Bool.true_or] | simp only [Bool.false_eq_true] | simp only [if_true] | simp only [if_false])
  repeat (go_big_quiet_step (fail))
  refine wpQuiet_nil ?_
  refine ⟨?_, ?_, ?_⟩
  · intro i o hi hown ho vals lo hi' W hW hdep
    simp only [List.contains_cons, List.contains_nil, Bool.or_false] at hi
    (try simp only [Bool.or_eq_true] at hi)
    simp only [beq_iff_eq] at hi
    rcases hi with rfl | rfl | rfl | rfl | rfl | rfl
    all_goals first
      | exact absurd hown (by decide)
      | (simp only [List.getElem?_cons_succ, List.getElem?_cons_zero, Option.some.injEq] at ho; subst ho; refine .inl ⟨rfl, ?_⟩; simp only [Fat.putN, Fat.dstOf, Act.put, List.getElem?_toArray, List.getElem?_cons_succ, List.getElem?_cons_zero, Option.bind_some, List.setIfInBounds_toArray, List.set_cons_succ, List.set_cons_zero])
    · go_simp
      exact newSpec_new _ _ _
    · go_simp
      exact newSpec_new _ _ _
    · go_simp
      exact newSpec_new _ _ _
  · intro i o hi hown ho vals lo hi' W hW hdep
    simp only [List.contains_cons, List.contains_nil, Bool.or_false] at hi
    (try simp only [Bool.or_eq_true] at hi)
    simp only [beq_iff_eq] at hi
    rcases hi with rfl | rfl | rfl | rfl | rfl | rfl
    all_goals first
      | exact absurd (by decide) hown
      | (simp only [List.getElem?_cons_succ, List.getElem?_cons_zero, Option.some.injEq] at ho; subst ho; refine ⟨rfl, ?_⟩; simp only [Fat.putN, Fat.dstOf, Act.put, List.getElem?_toArray, List.getElem?_cons_succ, List.getElem?_cons_zero, Option.bind_some, List.setIfInBounds_toArray, List.set_cons_succ, List.set_cons_zero]; (try simp only [Option.bind_none]))
    · obtain ⟨_, _, _, hn⟩ := hdep 26 rfl (by kernel_rfl)
      exact gives_fill (x := .tmp 7) (y := .tmp 18) rfl hn #[.int .i64 a.X, .int .i64 a.Y, .int .i64 a.Z, .int .i64 a.M] rfl rfl rfl (by kernel_rfl) rfl
    · obtain ⟨_, _, _, hn⟩ := hdep 27 rfl (by kernel_rfl)
      exact gives_fill (x := .tmp 8) (y := .tmp 27) rfl hn #[.int .i64 b.X, .int .i64 b.Y, .int .i64 b.Z, .int .i64 b.M] rfl rfl rfl (by kernel_rfl) rfl
    · obtain ⟨_, _, _, hn⟩ := hdep 28 rfl (by kernel_rfl)
      exact gives_fill (x := .tmp 9) (y := .tmp 35) rfl hn #[.int .i64 s.E, .int .i64 s.N, .int .i64 s.U] rfl rfl rfl (by kernel_rfl) rfl
  · intro vals lo hi' w5 hb3 hphi hdis htied
    obtain ⟨_, _, _, (q26 : vals 26 = _), _⟩ := hphi 26 rfl
    obtain ⟨_, _, _, (q27 : vals 27 = _), _⟩ := hphi 27 rfl
    obtain ⟨_, _, _, (q28 : vals 28 = _), _⟩ := hphi 28 rfl
    obtain ⟨_, _, _, _, (B9 : Box w5 (lo 29) _ _)⟩ := hphi 29 rfl
    obtain ⟨_, _, _, _, (B10 : Box w5 (lo 30) _ _)⟩ := hphi 30 rfl
    obtain ⟨_, _, _, _, (B11 : Box w5 (lo 31) _ _)⟩ := hphi 31 rfl
    rw [(htied 29 rfl (by decide)).1] at B9
    rw [(htied 30 rfl (by decide)).1] at B10
    rw [(htied 31 rfl (by decide)).1] at B11
    simp only [Fat.putN, Fat.dstOf, Act.put, List.getElem?_toArray, List.getElem?_cons_succ, List.getElem?_cons_zero, Option.bind_some, List.setIfInBounds_toArray, List.set_cons_succ, List.set_cons_zero, List.drop_succ_cons, List.drop_nil]
    (try simp only [Option.bind_none])
    rw [q26, q27, q28]
    clear q26 q27 q28 hphi hdis htied vals
    replace B9 : Box w5 (lo 26) _ _ := B9
    replace B10 : Box w5 (lo 27) _ _ := B10
    replace B11 : Box w5 (lo 28) _ _ := B11
    generalize lo 26 = b9 at *
    generalize lo 27 = b10 at *
    generalize lo 28 = b11 at *
    replace hW := over hW hb3
    clear hb3 e0 e1 e2 e3 f0 f1 f2 f3 g0 g1 g2 z1 z4 B4 c4 t4 B1 c1 t1
    have c9 := B9.cell; have t9 := B9.lt; have c10 := B10.cell; have t10 := B10.lt; have c11 := B11.cell; have t11 := B11.lt
    go_wp2_with fail
    all_goals
      go_ret
      exact ⟨ret_int (by rw [HE.out]; split <;> omega), hW⟩
end Go.Proofs.Ytmfnkmmbihmjnaa
