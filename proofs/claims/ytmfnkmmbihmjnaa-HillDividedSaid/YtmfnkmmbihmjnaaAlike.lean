/- Two lands compared: the walk. -/
import Derived.Test.YtmfnkmmbihmjnaaMoved1
import Derived.Test.YtmfnkmmbihmjnaaRise1
import Derived.Deep.DeepCutAuto
import Derived.Deep.CutBlock
open Go.RowKit
namespace Go.Proofs.Ytmfnkmmbihmjnaa
open Go.Hill

set_option maxRecDepth 100000 in
set_option maxHeartbeats 4000000 in
theorem alike_any (q r : LV) (L M : Land) (i j : Nat) (w : World) (hL : LandAt w q L) (hM : LandAt w r M) (R : Ready L) (R' : Ready M) (A : Alike L M i j) (hi : i < L.st.length) (hj : j < L.st.length) (hne : i ≠ j) :
    Calls Try.prog 44 #[landV q L, landV r M, .int .i64 i, .int .i64 j] w (Ret (.bool true) w) := by
  have HL := Lib.hid hL
  have HM := Lib.hid hM
  have HS := Lib.hid (small_of R.chk)
  have HS' := Lib.hid (small_of R'.chk)
  have hi' : i < M.st.length := by rw [A.st]; exact hi
  have hj' : j < M.st.length := by rw [A.st]; exact hj
  have HAl : Hid (∀ (q : LV) (W : World), LandAt W q L → Calls Try.prog 36 #[landV q L, .int .i64 i, .int .i64 j] W (RetL (L.alw i j, 0) W)) := fun q W h => by
    have h2 := Always_any q L i j W h HS.out; rwa [alwE_ok R hi hj hne] at h2
  have HAm : Hid (∀ (q : LV) (W : World), LandAt W q M → Calls Try.prog 36 #[landV q M, .int .i64 i, .int .i64 j] W (RetL (L.alw i j, 0) W)) := fun q W h => by
    have h2 := Always_any q M i j W h HS'.out; rwa [alwE_ok R' hi' hj' hne, A.alw] at h2
  obtain ⟨⟨rv, re⟩, hri⟩ : ∃ x, Land.riseE L i j = x := ⟨_, rfl⟩
  have HRl : Hid (∀ (q : LV) (W : World), LandAt W q L → Calls Try.prog 28 #[landV q L, .int .i64 i, .int .i64 j] W (Ret (.tuple #[.int .i64 rv, .int .i64 re]) W)) := fun q W h => by
    have h2 := Rise_any q L i j W h HS.out; rwa [hri] at h2
  have HRm : Hid (∀ (q : LV) (W : World), LandAt W q M → Calls Try.prog 28 #[landV q M, .int .i64 i, .int .i64 j] W (Ret (.tuple #[.int .i64 rv, .int .i64 re]) W)) := fun q W h => by
    have h2 := Rise_any q M i j W h HS'.out; rwa [riseE_ok R' hi' hj' hne, A.rise, ← riseE_ok R hi hj hne, hri] at h2
  have HWl : Hid (∀ (k t : Nat) (q : LV) (W : World), k < L.cs.length → t < L.sn.length → LandAt W q L → Calls Try.prog 39 #[landV q L, .int .i64 i, .int .i64 j, .int .i64 k, .int .i64 t] W (RetWalls (L.rbs i j, L.cbs i j k t, 0) W)) := fun k t q W hk ht h => by
    have h2 := Walls_any q L i j k t W h HS.out; rwa [wallsE_at R hi hj hk ht hne] at h2
  have HWm : Hid (∀ (k t : Nat) (q : LV) (W : World), k < L.cs.length → t < L.sn.length → LandAt W q M → Calls Try.prog 39 #[landV q M, .int .i64 i, .int .i64 j, .int .i64 k, .int .i64 t] W (RetWalls (L.rbs i j, L.cbs i j k t, 0) W)) := fun k t q W hk ht h => by
    have h2 := Walls_any q M i j k t W h HS'.out; rwa [wallsE_at R' hi' hj' (by rw [A.cs]; exact hk) (by rw [A.sn]; exact ht) hne, A.rbs, A.cbs] at h2
  have HYl : Hid (∀ (k t : Nat) (q : LV) (W : World), k < L.cs.length → t < L.sn.length → LandAt W q L → Calls Try.prog 35 #[landV q L, .int .i64 i, .int .i64 j, .int .i64 k, .int .i64 t] W (Ret (.tuple #[.int .u8 (L.why i j k t).1, .int .i64 (L.why i j k t).2, .int .i64 0]) W)) := fun k t q W hk ht h => by
    have h2 := Why_any q L i j k t W h HS.out; rwa [whyE_ok R hi hj hk ht hne] at h2
  have HYm : Hid (∀ (k t : Nat) (q : LV) (W : World), k < L.cs.length → t < L.sn.length → LandAt W q M → Calls Try.prog 35 #[landV q M, .int .i64 i, .int .i64 j, .int .i64 k, .int .i64 t] W (Ret (.tuple #[.int .u8 (L.why i j k t).1, .int .i64 (L.why i j k t).2, .int .i64 0]) W)) := fun k t q W hk ht h => by
    have h2 := Why_any q M i j k t W h HS'.out; rwa [whyE_ok R' hi' hj' (by rw [A.cs]; exact hk) (by rw [A.sn]; exact ht) hne, A.why] at h2
  have HR1 : Hid ((L.rbs i j).length ≤ 1000) := Nat.le_trans (sel_len _ _) HS.out.l2
  have HR2 : Hid (∀ k t, (L.cbs i j k t).length ≤ 1000) := fun k t => Nat.le_trans (sel_len _ _) (kase_len HS.out k)
  have hal : (L.alw i j).length ≤ 1000 := Nat.le_trans (sel_len _ _) HS.out.l4
  have m4 := R.cs4
  have s12 := R.sn12
  clear hL hM R R' A hi' hj' hri hi hj hne
  generalize L.alw i j = al at *
  generalize L.rbs i j = pl at *
  go_enter Try.func44, Try.ntmps44
  go_wp2_with fail
  refine named2 (p := fun W => Calls _ _ _ W _) ?_
  intro W hW B4 B5
  have c4 := B4.cell; have t4 := B4.lt; have c5 := B5.cell; have t5 := B5.lt
  refine (land_any q L W (HL.out.later hW) HS.out).mono ?_
  rintro e w1 ⟨q1, rfl, hb1, hl1⟩
  have HL1 := Lib.hid hl1
  replace hW := over hW hb1; (try clear c4 t4 c5 t5); replace B4 := B4.later hb1; replace B5 := B5.later hb1; have c4 := B4.cell; have t4 := B4.lt; have c5 := B5.cell; have t5 := B5.lt; clear hb1 hl1
  go_wp2_with fail
  refine (HAl.out q1 w1 HL1.out).mono ?_
  rintro e w2 ⟨aa, ac, rfl, hb2, hi2⟩
  have HA := Lib.hid (show IntsAt w2 aa al from hi2)
  replace hW := over hW hb2; (try clear c4 t4 c5 t5); replace B4 := B4.later hb2; replace B5 := B5.later hb2; have c4 := B4.cell; have t4 := B4.lt; have c5 := B5.cell; have t5 := B5.lt; clear hb2 hi2 HL1 HAl
  go_wp2_with fail
  refine (land_any r M w2 (HM.out.later hW) HS'.out).mono ?_
  rintro e w3 ⟨q2, rfl, hb3, hl3⟩
  have HL3 := Lib.hid hl3
  replace hW := over hW hb3; (try clear c4 t4 c5 t5); replace B4 := B4.later hb3; replace B5 := B5.later hb3; have c4 := B4.cell; have t4 := B4.lt; have c5 := B5.cell; have t5 := B5.lt; replace HA := Lib.hid (HA.out.later hb3); clear hb3 hl3
  go_wp2_with fail
  refine (HAm.out q2 w3 HL3.out).mono ?_
  rintro e w4 ⟨ba, bc, rfl, hb4, hi4⟩
  have HB := Lib.hid (show IntsAt w4 ba al from hi4)
  replace hW := over hW hb4; (try clear c4 t4 c5 t5); replace B4 := B4.later hb4; replace B5 := B5.later hb4; have c4 := B4.cell; have t4 := B4.lt; have c5 := B5.cell; have t5 := B5.lt; replace HA := Lib.hid (HA.out.later hb4); clear hb4 hi4 HL3 HAm
  go_wp2_with fail
  refine (land_any q L w4 (HL.out.later hW) HS.out).mono ?_
  rintro e w5 ⟨q3, rfl, hb5, hl5⟩
  have HL5 := Lib.hid hl5
  replace hW := over hW hb5; (try clear c4 t4 c5 t5); replace B4 := B4.later hb5; replace B5 := B5.later hb5; have c4 := B4.cell; have t4 := B4.lt; have c5 := B5.cell; have t5 := B5.lt; replace HA := Lib.hid (HA.out.later hb5); replace HB := Lib.hid (HB.out.later hb5); clear hb5 hl5
  go_wp2_with fail
  refine (HRl.out q3 w5 HL5.out).mono ?_
  rintro e w6 ⟨rfl, hb6⟩
  replace hW := over hW hb6; (try clear c4 t4 c5 t5); replace B4 := B4.later hb6; replace B5 := B5.later hb6; have c4 := B4.cell; have t4 := B4.lt; have c5 := B5.cell; have t5 := B5.lt; replace HA := Lib.hid (HA.out.later hb6); replace HB := Lib.hid (HB.out.later hb6); clear hb6 HRl HL5
  go_wp2_with fail
  refine (land_any r M w6 (HM.out.later hW) HS'.out).mono ?_
  rintro e w7 ⟨q4, rfl, hb7, hl7⟩
  have HL7 := Lib.hid hl7
  replace hW := over hW hb7; (try clear c4 t4 c5 t5); replace B4 := B4.later hb7; replace B5 := B5.later hb7; have c4 := B4.cell; have t4 := B4.lt; have c5 := B5.cell; have t5 := B5.lt; replace HA := Lib.hid (HA.out.later hb7); replace HB := Lib.hid (HB.out.later hb7); clear hb7 hl7
  go_wp2_with fail
  refine (HRm.out q4 w7 HL7.out).mono ?_
  rintro e w8 ⟨rfl, hb8⟩
  replace hW := over hW hb8; (try clear c4 t4 c5 t5); replace B4 := B4.later hb8; replace B5 := B5.later hb8; have c4 := B4.cell; have t4 := B4.lt; have c5 := B5.cell; have t5 := B5.lt; replace HA := Lib.hid (HA.out.later hb8); replace HB := Lib.hid (HB.out.later hb8); clear hb8 HRm HL7
  have HY := Lib.hid (ints_yes al aa ba ac bc w8 HA.out HB.out hal)
  clear HA HB hal
  go_wp2_with fail
  refine HY.out.mono ?_
  rintro e w9 ⟨rfl, hb9⟩
  replace hW := over hW hb9; (try clear c4 t4 c5 t5); replace B4 := B4.later hb9; replace B5 := B5.later hb9; have c4 := B4.cell; have t4 := B4.lt; have c5 := B5.cell; have t5 := B5.lt; clear hb9 HY
  go_wp2_with fail
  have HW := Lib.hid hW
  clear hW
  go_loopw [17] (fun k' wr => ∃ k : Nat, k ≤ L.cs.length ∧ k' = .int .i64 k ∧ Below w9.heap.size w9 wr) (fun k' _ => L.cs.length - (intOf k').toNat)
  case atStart => exact ⟨0, Nat.zero_le _, rfl, Below.refl _ _⟩
  case round =>
    obtain ⟨k, hk, rfl, hb⟩ := hrel
    have hW := over HW.out hb
    (try clear c4 t4 c5 t5); replace B4 := B4.later hb; replace B5 := B5.later hb; have c4 := B4.cell; have t4 := B4.lt; have c5 := B5.cell; have t5 := B5.lt
    obtain ⟨wo, rfl⟩ : ∃ wo : World, wo = wr := ⟨_, rfl⟩
    by_cases hlt : k < L.cs.length
    · go_wp2_with fail
      go_loopw [18] (fun t' wt => ∃ t : Nat, t ≤ L.sn.length ∧ t' = .int .i64 t ∧ Below wo.heap.size wo wt) (fun t' _ => L.sn.length - (intOf t').toNat)
      case atStart => exact ⟨0, Nat.zero_le _, rfl, Below.refl _ _⟩
      case round =>
        obtain ⟨t, ht, rfl, hbt⟩ := hrel
        replace hW := over hW hbt
        (try clear c4 t4 c5 t5); replace B4 := B4.later hbt; replace B5 := B5.later hbt; have c4 := B4.cell; have t4 := B4.lt; have c5 := B5.cell; have t5 := B5.lt
        have HBt := Lib.hid hbt
        clear hbt
        by_cases hltt : t < L.sn.length
        · go_wp2_with fail
          refine (land_any q L wr (HL.out.later hW) HS.out).mono ?_
          rintro e v1 ⟨p1, rfl, hc1, hl1⟩
          have HL1 := Lib.hid hl1
          have HBn := Lib.hid (over HBt.out hc1)
          replace hW := over hW hc1; (try clear c4 t4 c5 t5); replace B4 := B4.later hc1; replace B5 := B5.later hc1; have c4 := B4.cell; have t4 := B4.lt; have c5 := B5.cell; have t5 := B5.lt; clear hc1 hl1
          go_wp2_with fail
          refine (HWl.out k t p1 v1 hlt hltt HL1.out).mono ?_
          rintro e v2 ⟨pa, pc, qa, qc, rfl, hc2, hi2, hj2⟩
          have HP := Lib.hid (show IntsAt v2 pa pl from hi2)
          have HQ := Lib.hid (show IntsAt v2 qa (L.cbs i j k t) from hj2)
          replace HBn := Lib.hid (over HBn.out hc2)
          replace hW := over hW hc2; (try clear c4 t4 c5 t5); replace B4 := B4.later hc2; replace B5 := B5.later hc2; have c4 := B4.cell; have t4 := B4.lt; have c5 := B5.cell; have t5 := B5.lt; clear hc2 hi2 hj2 HL1
          go_wp2_with fail
          refine (land_any r M v2 (HM.out.later hW) HS'.out).mono ?_
          rintro e v3 ⟨p2, rfl, hc3, hl3⟩
          have HL3 := Lib.hid hl3
          replace HBn := Lib.hid (over HBn.out hc3)
          replace hW := over hW hc3; (try clear c4 t4 c5 t5); replace B4 := B4.later hc3; replace B5 := B5.later hc3; have c4 := B4.cell; have t4 := B4.lt; have c5 := B5.cell; have t5 := B5.lt; replace HP := Lib.hid (HP.out.later hc3); replace HQ := Lib.hid (HQ.out.later hc3); clear hc3 hl3
          go_wp2_with fail
          refine (HWm.out k t p2 v3 hlt hltt HL3.out).mono ?_
          rintro e v4 ⟨ua, uc, va, vc, rfl, hc4, hi4, hj4⟩
          have HU := Lib.hid (show IntsAt v4 ua pl from hi4)
          have HV := Lib.hid (show IntsAt v4 va (L.cbs i j k t) from hj4)
          replace HBn := Lib.hid (over HBn.out hc4)
          replace hW := over hW hc4; (try clear c4 t4 c5 t5); replace B4 := B4.later hc4; replace B5 := B5.later hc4; have c4 := B4.cell; have t4 := B4.lt; have c5 := B5.cell; have t5 := B5.lt; replace HP := Lib.hid (HP.out.later hc4); replace HQ := Lib.hid (HQ.out.later hc4); clear hc4 hi4 hj4 HL3
          go_wp2_with fail
          refine (land_any q L v4 (HL.out.later hW) HS.out).mono ?_
          rintro e v5 ⟨p3, rfl, hc5, hl5⟩
          have HL5 := Lib.hid hl5
          replace HBn := Lib.hid (over HBn.out hc5)
          replace hW := over hW hc5; (try clear c4 t4 c5 t5); replace B4 := B4.later hc5; replace B5 := B5.later hc5; have c4 := B4.cell; have t4 := B4.lt; have c5 := B5.cell; have t5 := B5.lt; replace HP := Lib.hid (HP.out.later hc5); replace HQ := Lib.hid (HQ.out.later hc5); replace HU := Lib.hid (HU.out.later hc5); replace HV := Lib.hid (HV.out.later hc5); clear hc5 hl5
          go_wp2_with fail
          obtain ⟨⟨yr, yw⟩, hy⟩ : ∃ x, L.why i j k t = x := ⟨_, rfl⟩
          have hy1 := fun p v h => HYl.out k t p v hlt hltt h
          have hy2 := fun p v h => HYm.out k t p v hlt hltt h
          rw [hy] at hy1 hy2
          have HY1 := Lib.hid hy1
          have HY2 := Lib.hid hy2
          clear hy hy1 hy2
          refine (HY1.out p3 v5 HL5.out).mono ?_
          rintro e v6 ⟨rfl, hc6⟩
          replace HBn := Lib.hid (over HBn.out hc6)
          replace hW := over hW hc6; (try clear c4 t4 c5 t5); replace B4 := B4.later hc6; replace B5 := B5.later hc6; have c4 := B4.cell; have t4 := B4.lt; have c5 := B5.cell; have t5 := B5.lt; replace HP := Lib.hid (HP.out.later hc6); replace HQ := Lib.hid (HQ.out.later hc6); replace HU := Lib.hid (HU.out.later hc6); replace HV := Lib.hid (HV.out.later hc6); clear hc6 HL5 HY1
          go_wp2_with fail
          refine (land_any r M v6 (HM.out.later hW) HS'.out).mono ?_
          rintro e v7 ⟨p4, rfl, hc7, hl7⟩
          have HL7 := Lib.hid hl7
          replace HBn := Lib.hid (over HBn.out hc7)
          replace hW := over hW hc7; (try clear c4 t4 c5 t5); replace B4 := B4.later hc7; replace B5 := B5.later hc7; have c4 := B4.cell; have t4 := B4.lt; have c5 := B5.cell; have t5 := B5.lt; replace HP := Lib.hid (HP.out.later hc7); replace HQ := Lib.hid (HQ.out.later hc7); replace HU := Lib.hid (HU.out.later hc7); replace HV := Lib.hid (HV.out.later hc7); clear hc7 hl7
          go_wp2_with fail
          refine (HY2.out p4 v7 HL7.out).mono ?_
          rintro e v8 ⟨rfl, hc8⟩
          replace HBn := Lib.hid (over HBn.out hc8)
          replace hW := over hW hc8; (try clear c4 t4 c5 t5); replace B4 := B4.later hc8; replace B5 := B5.later hc8; have c4 := B4.cell; have t4 := B4.lt; have c5 := B5.cell; have t5 := B5.lt; replace HP := Lib.hid (HP.out.later hc8); replace HQ := Lib.hid (HQ.out.later hc8); replace HU := Lib.hid (HU.out.later hc8); replace HV := Lib.hid (HV.out.later hc8); clear hc8 HL7 HY2
          have HI1 := Lib.hid (ints_yes pl pa ua pc uc v8 HP.out HU.out HR1.out)
          have hql := HR2.out k t
          generalize L.cbs i j k t = ql at *
          go_wp2_with fail
          refine HI1.out.mono ?_
          rintro e v9 ⟨rfl, hc9⟩
          replace HBn := Lib.hid (over HBn.out hc9)
          replace hW := over hW hc9; (try clear c4 t4 c5 t5); replace B4 := B4.later hc9; replace B5 := B5.later hc9; have c4 := B4.cell; have t4 := B4.lt; have c5 := B5.cell; have t5 := B5.lt; replace HQ := Lib.hid (HQ.out.later hc9); replace HV := Lib.hid (HV.out.later hc9); clear hc9 HI1 HP HU
          have HI2 := Lib.hid (ints_yes ql qa va qc vc v9 HQ.out HV.out hql)
          clear HQ HV
          go_wp2_with fail
          refine HI2.out.mono ?_
          rintro e v10 ⟨rfl, hc10⟩
          replace HBn := Lib.hid (over HBn.out hc10)
          replace hW := over hW hc10; (try clear c4 t4 c5 t5); replace B4 := B4.later hc10; replace B5 := B5.later hc10; have c4 := B4.cell; have t4 := B4.lt; have c5 := B5.cell; have t5 := B5.lt; clear hc10 HI2
          go_wp2_with fail
          go_roundw
          case rel => exact ⟨t + 1, by omega, by go_num, HBn.out⟩
          case measure => simp [intOf]; omega
        · obtain rfl : t = L.sn.length := by omega
          go_wp2_with fail
          go_roundw
          case rel => exact ⟨k + 1, by omega, by go_num, over hb HBt.out⟩
          case measure => simp [intOf]; omega
    · obtain rfl : k = L.cs.length := by omega
      go_wp2_with fail
      go_ret
      exact ⟨rfl, hW⟩
end Go.Proofs.Ytmfnkmmbihmjnaa
