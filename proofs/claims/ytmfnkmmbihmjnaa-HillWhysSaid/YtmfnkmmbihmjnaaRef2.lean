/- The reference, the walks: why; whether a station can flash. -/
import Derived.Test.YtmfnkmmbihmjnaaRef1
open Go.RowKit
namespace Go.Proofs.Ytmfnkmmbihmjnaa
open Go.Hill

set_option maxRecDepth 100000 in
set_option maxHeartbeats 4000000 in
theorem rWhy_any (q : LV) (L : Land) (i j k t : Nat) (w : World) (hL : LandAt w q L) (hc : L.chk = 0) (hi : i < L.st.length) (hj : j < L.st.length) (hk : k < L.cs.length) (ht : t < L.sn.length) (r : Int × Int) (hr : L.why i j k t = r) :
    Calls Try.prog 40 #[landV q L, .int .i64 i, .int .i64 j, .int .i64 k, .int .i64 t] w (Ret (.tuple #[.int .u8 r.1, .int .i64 r.2]) w) := by
  have HL := Lib.hid hL
  have hm := small_of hc
  have hF := fits hc
  obtain ⟨a, ha⟩ := some_of hi
  obtain ⟨b, hb⟩ := some_of hj
  obtain ⟨s, hs⟩ := some_of ht
  have HR := Lib.hid hr
  have HI := Lib.hid ha
  have HT := Lib.hid hs
  have l1 := hm.l1
  have l4 := hm.l4
  obtain ⟨p1, o1, ea1, hC1⟩ := hL.st.at hi
  obtain ⟨p4, o4, ea4, hC4⟩ := hL.sn.at ht
  have HC1 := Lib.hid hC1
  have HC4 := Lib.hid hC4
  have r1 : (0 : Int) ≤ (i : Int) := by omega
  have r2 : (i : Int) < (L.st.length : Int) := by omega
  have r5 : (0 : Int) ≤ (t : Int) := by omega
  have r6 : (t : Int) < (L.sn.length : Int) := by omega
  have hmir := hF.mir a (List.mem_of_getElem? ha)
  obtain ⟨bv, hbv⟩ : ∃ bv, bv = behind s a b := ⟨_, rfl⟩
  have HBeh : Hid (∀ W, Below w.heap.size w W → Calls Try.prog 27 #[landV q L, .int .i64 i, .int .i64 j, .int .i64 t] W (Ret (.bool bv) W)) := fun W hW => by
    rw [hbv]; exact rbehind_any q _ _ L.st L.sn i j t a b s W (hL.later hW).st (hL.later hW).sn ha hb hs (hF.st a (List.mem_of_getElem? ha)) (hF.st b (List.mem_of_getElem? hb)) (hF.sn s (List.mem_of_getElem? hs))
  have HWalls : Hid (∀ W, Below w.heap.size w W → Calls Try.prog 41 #[landV q L, .int .i64 i, .int .i64 j, .int .i64 k, .int .i64 t] W (RetTwo (L.rbs i j) (L.cbs i j k t) W)) := fun W hW => rWalls_any q L i j k t W (hL.later hW) hc hi hj hk
  have HN : Hid (L.need i j t = if bv then 2 else 1) := by unfold Hid Land.need needM; rw [hs, ha, hb, hbv]
  have HM : Hid (L.mir i = a.M) := by unfold Hid Land.mir; rw [ha]
  have HUp : Hid (L.up t = decide (0 < s.U)) := by unfold Hid Land.up; rw [hs]
  have HEA := Lib.hid ea1
  have HEA4 := Lib.hid ea4
  clear hL hm hF ha hb hs hC1 hC4 hc ea1 ea4 hr hbv
  go_enter Try.func40, Try.ntmps40
  have hW0 : Below w.heap.size w (w.alloc (.cells #[.slice q.a1 L.st.length q.c1, .slice q.a2 L.rd.length q.c2, .slice q.a3 L.cs.length q.c3, .slice q.a4 L.sn.length q.c4] 27)) := (by repeat (first | exact Below.refl _ _ | refine al ?_ _ | refine Below.drew ?_ | refine sc ?_ (by simp) _))
  obtain ⟨_, _, g2⟩ := cells_sn (HC4.out.later hW0) HT.out
  obtain ⟨_, _, _, f3⟩ := cells_st (HC1.out.later hW0) HI.out
  unfold landV at HBeh HWalls ⊢
  rw [HEA.out, HEA4.out] at g2 f3 HBeh HWalls ⊢
  clear hW0
  by_cases hU : s.U ≤ 0
  · have HR0 : Hid (r = (1, 0)) := HR.out.symm.trans (why_night (by rw [HUp.out]; simpa using hU))
    clear f3
    go_wp2_with fail
    go_ret2
    obtain rfl := HR0.out
    exact ⟨rfl, (by repeat (first | exact Below.refl _ _ | refine al ?_ _ | refine Below.drew ?_ | refine sc ?_ (by simp) _))⟩
  have HUT : Hid (L.up t = true) := by rw [Hid, HUp.out]; simpa using hU
  go_wp2_with fail
  refine named1 (p := fun W => Calls _ _ _ W _) ?_
  intro W hW B5
  clear g2 f3
  refine (HBeh.out W hW).mono ?_
  rintro e w1 ⟨rfl, hb1⟩
  replace hW := over hW hb1
  (try clear c5 t5); replace B5 := B5.later hb1; have c5 := B5.cell; have t5 := B5.lt
  obtain ⟨_, _, _, f3⟩ := cells_st (HC1.out.later hW) HI.out
  have z1 := block_lt_of_cell f3
  clear hb1 HBeh
  by_cases hMn : bv = true ∧ a.M = 1
  · obtain ⟨rfl, hM1⟩ := hMn
    have hMb : (a.M == 1) = true := by simpa using hM1
    have HR0 : Hid (r = (2, 0)) := HR.out.symm.trans (why_behind HUT.out (by rw [HN.out, HM.out, hM1]; decide))
    clear hM1
    go_wp2_with fail
    go_ret2
    obtain rfl := HR0.out
    exact ⟨rfl, hW⟩
  have HMn : Hid (L.need i j t ≤ L.mir i) := by
    rw [Hid, HN.out, HM.out]
    cases bv with
    | false => simp; omega
    | true => simp at hMn ⊢; omega
  have hcase : bv = false ∨ (bv = true ∧ (a.M == 1) = false) := by
    cases bv with
    | false => exact .inl rfl
    | true => exact .inr ⟨rfl, by simpa using hMn⟩
  have HWl2 := HWalls
  clear hMn hmir
  rcases hcase with rfl | ⟨rfl, hMb⟩
  all_goals
    go_wp2_with fail
    refine (HWl2.out _ hW).mono ?_
    rintro e w2 ⟨ra, rc, ra2, rc2, rfl, hb2, hr1, hr2⟩
    replace hW := over hW hb2
    have HR1 := Lib.hid hr1
    have HR2 := Lib.hid hr2
    clear hb2 hr1 hr2 B5 c5 t5 f3 z1 HWalls HWl2
    obtain ⟨n1, hn1⟩ : ∃ n, n = (L.rbs i j).length := ⟨_, rfl⟩
    obtain ⟨n2, hn2⟩ : ∃ n, n = (L.cbs i j k t).length := ⟨_, rfl⟩
    rw [← hn1, ← hn2]
    by_cases h1 : 0 < n1
    · obtain ⟨x, hx⟩ : ∃ x, (L.rbs i j)[0]? = some x := ⟨(L.rbs i j)[0], by simp⟩
      have HR0 : Hid (r = (3, x)) := HR.out.symm.trans (why_ridge HUT.out (Int.not_lt.2 HMn.out) hx)
      obtain ⟨pb, po, rfl, hC⟩ := RowAt.at (k := 0) HR1.out (by omega)
      have e0 : w2.cell? ⟨pb, po, none⟩ = some (.int .i64 x) := by simpa using cells_one (k := 0) hC hx
      have y0 := block_lt_of_cell e0
      clear hx hC hn1 hn2
      go_wp2_with fail
      refine Fat.wp_region_tail 5 (by kernel_rfl) (by kernel_rfl) ?_
      simp only [List.take_succ_cons, List.drop_succ_cons, List.take_nil, List.drop_nil]
      repeat (go_big_quiet_step (fail))
      refine wpQuiet_nil ?_
      intro w3 hb3
      replace hW := over hW hb3
      clear hb3 e0 y0
      go_wp2_with fail
      go_ret2
      obtain rfl := HR0.out
      exact ⟨rfl, hW⟩
    · have HNil := Lib.hid (List.length_eq_zero_iff.1 (show (L.rbs i j).length = 0 by omega))
      obtain rfl : n1 = 0 := by omega
      clear hn1
      by_cases h2 : 0 < n2
      · obtain ⟨x, hx⟩ : ∃ x, (L.cbs i j k t)[0]? = some x := ⟨(L.cbs i j k t)[0], by simp⟩
        have HR0 : Hid (r = (4, x)) := HR.out.symm.trans (why_cloud HUT.out (Int.not_lt.2 HMn.out) HNil.out hx)
        obtain ⟨pb, po, rfl, hC⟩ := RowAt.at (k := 0) HR2.out (by omega)
        have e0 : w2.cell? ⟨pb, po, none⟩ = some (.int .i64 x) := by simpa using cells_one (k := 0) hC hx
        have y0 := block_lt_of_cell e0
        clear hx hC hn2
        go_wp2_with fail
        refine Fat.wp_region_tail 5 (by kernel_rfl) (by kernel_rfl) ?_
        simp only [List.take_succ_cons, List.drop_succ_cons, List.take_nil, List.drop_nil]
        repeat (go_big_quiet_step (fail))
        refine wpQuiet_nil ?_
        intro w3 hb3
        replace hW := over hW hb3
        clear hb3 e0 y0
        go_wp2_with fail
        go_ret2
        obtain rfl := HR0.out
        exact ⟨rfl, hW⟩
      · have HNil2 := Lib.hid (List.length_eq_zero_iff.1 (show (L.cbs i j k t).length = 0 by omega))
        have HR0 : Hid (r = (0, 0)) := HR.out.symm.trans (why_free HUT.out (Int.not_lt.2 HMn.out) HNil.out HNil2.out)
        obtain rfl : n2 = 0 := by omega
        clear hn2
        go_wp2_with fail
        go_ret2
        obtain rfl := HR0.out
        exact ⟨rfl, hW⟩

theorem rCan_any (q : LV) (L : Land) (i j k t : Nat) (w : World) (hL : LandAt w q L) (hc : L.chk = 0) (hi : i < L.st.length) (hj : j < L.st.length) (hk : k < L.cs.length) (ht : t < L.sn.length) :
    Calls Try.prog 24 #[landV q L, .int .i64 i, .int .i64 j, .int .i64 k, .int .i64 t] w (Ret (.bool (L.can i j k t)) w) := by
  obtain ⟨r, hr⟩ : ∃ r, L.why i j k t = r := ⟨_, rfl⟩
  have HWhy : Hid (∀ W, Below w.heap.size w W → Calls Try.prog 40 #[landV q L, .int .i64 i, .int .i64 j, .int .i64 k, .int .i64 t] W (Ret (.tuple #[.int .u8 r.1, .int .i64 r.2]) W)) := fun W hW => rWhy_any q L i j k t W (hL.later hW) hc hi hj hk ht r hr
  have hbd := why_bd L i j k t
  rw [hr] at hbd
  obtain ⟨v, hv⟩ : ∃ v, v = L.can i j k t := ⟨_, rfl⟩
  rw [← hv]
  have HV : Hid (v = (i != j && r.1 == 0)) := by rw [hv, Land.can, hr]; rfl
  clear hr hv hL hc
  obtain ⟨r1, r2⟩ := r
  simp only at hbd
  by_cases hij : i = j
  · have hb : ((i : Int) == (j : Int)) = true := by simp [hij]
    go_enter Try.func24, Try.ntmps24
    go_wp2_with fail
    go_ret
    exact ⟨ret_bool (by rw [HV.out, hij]; simp), (by repeat (first | exact Below.refl _ _ | refine al ?_ _ | refine Below.drew ?_ | refine sc ?_ (by simp) _))⟩
  · have hb : ((i : Int) == (j : Int)) = false := by simp; omega
    go_enter Try.func24, Try.ntmps24
    go_wp2_with fail
    refine named1 (p := fun W => Calls _ _ _ W _) ?_
    intro W hW B5
    refine (HWhy.out W hW).mono ?_
    rintro e w1 ⟨rfl, hb1⟩
    replace hW := over hW hb1
    clear hb1 B5
    by_cases h0 : r1 = 0
    · subst h0
      go_wp2_with fail
      go_ret
      exact ⟨ret_bool (by rw [HV.out]; simp; omega), hW⟩
    · have hb0 : (r1 == 0) = false := by simpa using h0
      go_wp2_with fail
      go_ret
      exact ⟨ret_bool (by rw [HV.out]; simp [h0]), hW⟩
end Go.Proofs.Ytmfnkmmbihmjnaa
