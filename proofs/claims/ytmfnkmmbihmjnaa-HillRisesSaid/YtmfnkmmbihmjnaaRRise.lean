/- The rise, the walks: the reference's. -/
import Derived.Test.YtmfnkmmbihmjnaaRef2
import Derived.Test.YtmfnkmmbihmjnaaRise1
open Go.RowKit
namespace Go.Proofs.Ytmfnkmmbihmjnaa
open Go.Hill

set_option maxRecDepth 100000 in
set_option maxHeartbeats 4000000 in
theorem rRise_any (q : LV) (L : Land) (i j : Nat) (w : World) (hL : LandAt w q L) (hc : L.chk = 0) (hi : i < L.st.length) (hj : j < L.st.length) :
    Calls Try.prog 29 #[landV q L, .int .i64 i, .int .i64 j] w (Ret (.int .i64 (L.rise i j)) w) := by
  have HL := Lib.hid hL
  have hm := small_of hc
  have hF := fits hc
  obtain ⟨a, ha⟩ := some_of hi
  obtain ⟨b, hb⟩ := some_of hj
  have HI := Lib.hid ha
  have HJ := Lib.hid hb
  have hia := hF.st a (List.mem_of_getElem? ha)
  have hib := hF.st b (List.mem_of_getElem? hb)
  have HRd : Hid (∀ s ∈ L.rd, s.In) := fun s hs => (hF.rd s hs).1
  have l1 := hm.l1
  have l2 := hm.l2
  have HR : Hid (L.rise i j = riseOf L.rd a b) := by unfold Hid Land.rise; rw [ha, hb]
  obtain ⟨p1, o1, ea1, hC1⟩ := hL.st.at hi
  have HC1 := Lib.hid hC1
  have r1 : (0 : Int) ≤ (i : Int) := by omega
  have r2 : (i : Int) < (L.st.length : Int) := by omega
  have r3 : (0 : Int) ≤ (j : Int) := by omega
  have r4 : (j : Int) < (L.st.length : Int) := by omega
  have HEA := Lib.hid ea1
  clear hL hm hF ha hb hC1 hc ea1
  go_enter Try.func29, Try.ntmps29
  go_wp2_with fail
  refine named1 (p := Code.wp _ _ _ _) ?_
  intro W hW B5
  rw [HEA.out] at B5
  have c5 := B5.cell; have t5 := B5.lt
  obtain ⟨e0, e1, e2, e3⟩ := cells_st (HC1.out.later hW) HI.out
  obtain ⟨f0, f1, f2, f3⟩ := cells_st (HC1.out.later hW) HJ.out
  have z1 := block_lt_of_cell e0
  refine Fat.wp_region 14 [10, 11, 12, 13] [(12, 10), (13, 11)] (twoSt 64 a b) twoSt_lasting twoSt_local (by kernel_rfl) (by kernel_rfl) ?_
  simp only [List.take_succ_cons, List.take_nil, Fat.pick, List.contains_cons, List.contains_nil, Nat.reduceAdd, Nat.reduceBEq]
  repeat (first | simp only [Bool.or_false] | simp only [Bool.or_true] | simp only [Bool.true_or] | simp only [Bool.false_eq_true] | simp only [if_true] | simp only [if_false])
  repeat (go_big_quiet_step (fail))
  refine wpQuiet_nil ?_
  refine ⟨?_, ?_, ?_⟩
  · intro i o hi hown ho vals lo hi' W hW hdep
    simp only [List.contains_cons, List.contains_nil, Bool.or_false] at hi
    (try simp only [Bool.or_eq_true] at hi)
    simp only [beq_iff_eq] at hi
    rcases hi with rfl | rfl | rfl | rfl
    all_goals first
      | exact absurd hown (by decide)
      | (simp only [List.getElem?_cons_succ, List.getElem?_cons_zero, Option.some.injEq] at ho; subst ho; refine .inl ⟨rfl, ?_⟩; simp only [Fat.putN, Fat.dstOf, Act.put, List.getElem?_toArray, List.getElem?_cons_succ, List.getElem?_cons_zero, Option.bind_some, List.setIfInBounds_toArray, List.set_cons_succ, List.set_cons_zero])
    · go_simp
      exact newSpec_new _ _ _
    · go_simp
      exact newSpec_new _ _ _
  · intro i o hi hown ho vals lo hi' W hW hdep
    simp only [List.contains_cons, List.contains_nil, Bool.or_false] at hi
    (try simp only [Bool.or_eq_true] at hi)
    simp only [beq_iff_eq] at hi
    rcases hi with rfl | rfl | rfl | rfl
    all_goals first
      | exact absurd (by decide) hown
      | (simp only [List.getElem?_cons_succ, List.getElem?_cons_zero, Option.some.injEq] at ho; subst ho; refine ⟨rfl, ?_⟩; simp only [Fat.putN, Fat.dstOf, Act.put, List.getElem?_toArray, List.getElem?_cons_succ, List.getElem?_cons_zero, Option.bind_some, List.setIfInBounds_toArray, List.set_cons_succ, List.set_cons_zero]; (try simp only [Option.bind_none]))
    · obtain ⟨_, _, _, hn⟩ := hdep 10 rfl (by kernel_rfl)
      exact gives_fill (x := .tmp 7) (y := .tmp 17) rfl hn #[.int .i64 a.X, .int .i64 a.Y, .int .i64 a.Z, .int .i64 a.M] rfl rfl rfl (by kernel_rfl) rfl
    · obtain ⟨_, _, _, hn⟩ := hdep 11 rfl (by kernel_rfl)
      exact gives_fill (x := .tmp 8) (y := .tmp 22) rfl hn #[.int .i64 b.X, .int .i64 b.Y, .int .i64 b.Z, .int .i64 b.M] rfl rfl rfl (by kernel_rfl) rfl
  · intro vals lo hi' w5 hb5 hphi hdis htied
    obtain ⟨ua, ub, uc, (q10 : vals 10 = _), ud⟩ := hphi 10 rfl; clear ua ub uc ud
    obtain ⟨ua, ub, uc, (q11 : vals 11 = _), ud⟩ := hphi 11 rfl; clear ua ub uc ud
    obtain ⟨ua, ub, uc, ud, (BA : Box w5 (lo 12) _ _)⟩ := hphi 12 rfl; clear ua ub uc ud
    obtain ⟨ua, ub, uc, ud, (BB : Box w5 (lo 13) _ _)⟩ := hphi 13 rfl; clear ua ub uc ud
    rw [(htied 12 rfl (by decide)).1] at BA
    rw [(htied 13 rfl (by decide)).1] at BB
    simp only [Fat.putN, Fat.dstOf, Act.put, List.getElem?_toArray, List.getElem?_cons_succ, List.getElem?_cons_zero, Option.bind_some, List.setIfInBounds_toArray, List.set_cons_succ, List.set_cons_zero, List.drop_succ_cons, List.drop_nil]
    (try simp only [Option.bind_none])
    rw [q10, q11]
    clear q10 q11 hphi hdis htied vals
    replace BA : Box w5 (lo 10) _ _ := BA
    replace BB : Box w5 (lo 11) _ _ := BB
    generalize lo 10 = ba at *
    generalize lo 11 = bb at *
    replace hW := over hW hb5
    (try clear c5 t5); replace B5 := B5.later hb5; have c5 := B5.cell; have t5 := B5.lt
    clear hb5 e0 e1 e2 e3 f0 f1 f2 f3 z1
    have hA := hia
    unfold Stn.In at hA
    clear c5 t5
    go_wp2_with fail
    go_loopw [9] (fun i' wr => ∃ n : Nat, a.Z + n ≤ 1001 ∧ i' = .int .i64 n ∧ Below w5.heap.size w5 wr ∧ ∀ m : Nat, m < n → freeAt L.rd a b m = false) (fun i' _ => (1001 - a.Z - intOf i').toNat)
    case atStart => exact ⟨0, by omega, rfl, Below.refl _ _, fun m hm => absurd hm (Nat.not_lt_zero _)⟩
    case round =>
      obtain ⟨n, hn, rfl, hb, hno⟩ := hrel
      have HNo := Lib.hid hno
      clear hno
      have D5 := B5.later hb
      have DA := BA.later hb
      have DB := BB.later hb
      have cA := DA.cell
      have tA := DA.lt
      by_cases hlt : a.Z + n ≤ 1000
      · have hup : (a.upBy n).In := by unfold Stn.In Stn.upBy at *; simp only; omega
        obtain ⟨wo, rfl⟩ : ∃ wo : World, wo = wr := ⟨_, rfl⟩
        go_wp2_with fail
        refine named1 (p := Code.wp _ _ _ _) ?_
        intro W2 hb2 B10
        have hb' := over hb hb2
        replace D5 := D5.later hb2
        replace DB := DB.later hb2
        clear cA tA DA hb2
        go_loopw [11, 12] (fun f i' wi => ∃ (m : Nat) (fv : Bool), m ≤ L.rd.length ∧ f = .bool fv ∧ i' = .int .i64 m ∧ Below W2.heap.size W2 wi ∧ fv = (L.rd.take m).all fun x => !blk x (a.upBy n) b) (fun _ i' _ => L.rd.length - (intOf i').toNat)
        case atStart => exact ⟨0, true, Nat.zero_le _, rfl, rfl, Below.refl _ _, rfl⟩
        case round =>
          obtain ⟨m, fv, hm, rfl, rfl, hbi, hfv⟩ := hrel
          have HFv := Lib.hid hfv
          clear hfv
          have E5 := D5.later hbi
          have EB := DB.later hbi
          have E10 := B10.later hbi
          have c5 := E5.cell
          have t5 := E5.lt
          by_cases hlm : m < L.rd.length
          · obtain ⟨p2, o2, ea2, hC2⟩ := RowAt.at HL.out.rd hlm
            obtain ⟨x, hx⟩ : ∃ x, L.rd[m]? = some x := ⟨L.rd[m], by simp⟩
            obtain ⟨e0, e1, e2, e3, e4, e5⟩ := cells_wl (((hC2.later hW).later hb').later hbi) hx
            have z2 := block_lt_of_cell e0
            rw [ea2] at c5
            have hxi := HRd.out x (List.mem_of_getElem? hx)
            obtain ⟨v, hv⟩ : ∃ v, v = blk x (a.upBy n) b := ⟨_, rfl⟩
            have HCall : Hid (∀ w', Calls Try.prog 58 #[.agg #[.int .i64 x.X1, .int .i64 x.Y1, .int .i64 x.X2, .int .i64 x.Y2, .int .i64 x.B, .int .i64 x.T], .agg #[.int .i64 a.X, .int .i64 a.Y, .int .i64 (a.Z + n), .int .i64 a.M], .agg #[.int .i64 b.X, .int .i64 b.Y, .int .i64 b.Z, .int .i64 b.M]] w' (Ret (.bool v) w')) := fun w' => by rw [hv]; exact rblocks_any x (a.upBy n) b w' hup hib hxi
            have HStep : Hid (((L.rd.take (m + 1)).all fun x => !blk x (a.upBy n) b) = (fv && !v)) := by
              rw [Hid, List.take_add_one, hx, hv, HFv.out]; simp
            have s1 : (0 : Int) ≤ (m : Int) := by omega
            have s2 : (m : Int) < (L.rd.length : Int) := by omega
            have c8 := EB.cell
            have t8 := EB.lt
            have c10 := E10.cell
            have t10 := E10.lt
            clear hx hC2 hv hxi ea2
            cases fv with
            | false =>
              go_wp2_with fail
              refine Fat.wp_region_tail 13 (by kernel_rfl) (by kernel_rfl) ?_
              simp only [List.take_succ_cons, List.drop_succ_cons, List.take_nil, List.drop_nil]
              repeat (go_big_quiet_step (exact Calls.regrown_of (HCall.out _)))
              refine wpQuiet_nil ?_
              intro w6 hb6
              have hbi' := over hbi hb6
              clear hbi hb6 e0 e1 e2 e3 e4 e5 z2 c5 t5 c8 t8 c10 t10 E5 EB E10 HCall
              go_wp2_with fail
              go_roundw
              case rel => exact ⟨m + 1, false, by omega, rfl, by go_num, hbi', by rw [HStep.out]; rfl⟩
              case measure => simp [intOf]; omega
            | true =>
              go_wp2_with fail
              refine Fat.wp_region_tail 13 (by kernel_rfl) (by kernel_rfl) ?_
              simp only [List.take_succ_cons, List.drop_succ_cons, List.take_nil, List.drop_nil]
              repeat (go_big_quiet_step (exact Calls.regrown_of (HCall.out _)))
              refine wpQuiet_nil ?_
              intro w6 hb6
              have hbi' := over hbi hb6
              clear hbi hb6 e0 e1 e2 e3 e4 e5 z2 c5 t5 c8 t8 c10 t10 E5 EB E10 HCall
              go_wp2_with fail
              go_roundw
              case rel => exact ⟨m + 1, !v, by omega, rfl, by go_num, hbi', by rw [HStep.out]; rfl⟩
              case measure => simp [intOf]; omega
          · have HFree : Hid (fv = freeAt L.rd a b n) := by
              have := HFv.out
              rw [List.take_of_length_le (by omega)] at this
              exact this
            clear HFv E10 EB
            cases fv with
            | true =>
              go_wp2_with fail
              go_ret
              exact ⟨ret_int (by rw [HR.out, riseOf_some hlt HFree.out.symm HNo.out]), over (over hW hb') hbi⟩
            | false =>
              go_wp2_with fail
              go_roundw
              case rel =>
                refine ⟨n + 1, by omega, by go_num, over hb' hbi, fun m' hm' => ?_⟩
                rcases Nat.lt_succ_iff_lt_or_eq.1 hm' with h | h
                · exact HNo.out m' h
                · subst h; exact HFree.out.symm
              case measure => simp [intOf]; omega
      · go_wp2_with fail
        go_ret
        exact ⟨ret_int (by rw [HR.out, riseOf_none fun m hm => HNo.out m (by omega)]), over hW hb⟩
end Go.Proofs.Ytmfnkmmbihmjnaa
