/- The statement on both ways: its walk. -/
import Derived.Test.YtmfnkmmbihmjnaaLaw0
import Derived.Test.YtmfnkmmbihmjnaaFacts1
import Derived.Test.YtmfnkmmbihmjnaaWalls2
open Go.RowKit
namespace Go.Proofs.Ytmfnkmmbihmjnaa
open Go.Hill

theorem rb_swap (L : Land) (i j : Nat) : L.rb i j = L.rb j i := by
  funext r
  unfold Land.rb
  cases L.rd[r]? with
  | none => rfl
  | some w =>
    cases L.st[i]? with
    | none => cases L.st[j]? <;> rfl
    | some a => cases L.st[j]? with
      | none => rfl
      | some b => exact blk_swap w a b
theorem rbs_swap (L : Land) (i j : Nat) : L.rbs i j = L.rbs j i := by unfold Land.rbs; rw [rb_swap]
theorem cb_swap (L : Land) (i j k t : Nat) : L.cb i j k t = L.cb j i k t := by
  funext r
  unfold Land.cb
  cases (L.kase k)[r]? with
  | none => rfl
  | some w =>
    cases L.st[i]? with
    | none => cases L.st[j]? <;> rfl
    | some a => cases L.st[j]? with
      | none => rfl
      | some b => simp only [blk_swap w.wl a b]
theorem cbs_swap (L : Land) (i j k t : Nat) : L.cbs i j k t = L.cbs j i k t := by unfold Land.cbs; rw [cb_swap]
theorem wallsE_at {L : Land} {i j k t : Nat} (R : Ready L) (hi : i < L.st.length) (hj : j < L.st.length) (hk : k < L.cs.length) (ht : t < L.sn.length) (hne : i ≠ j) : Land.wallsE L i j k t = (L.rbs i j, L.cbs i j k t, 0) := by
  unfold Land.wallsE Land.ask2
  rw [if_pos R.chk, if_pos (askd_ok hi hj (by omega) (by omega) hne)]
  simp only [Int.toNat_natCast]
theorem mir_two {L : Land} {i j t : Nat} (R : Ready L) (hi : i < L.st.length) (hj : j < L.st.length) (ht : t < L.sn.length) (hne : i ≠ j) :
    ∃ m n g : Int, Land.mirE L i j t = (m, g) ∧ Land.mirE L j i t = (n, g) ∧ ((L.up t = false ∧ g = 7) ∨ (L.up t = true ∧ g = 0 ∧ m = L.need i j t ∧ 1 ≤ m ∧ m ≤ 2 ∧ 1 ≤ n ∧ n ≤ 2 ∧ m + n ≤ 3)) := by
  rw [mirE_ok R hi hj ht hne, mirE_ok R hj hi ht (Ne.symm hne)]
  cases hu : L.up t with
  | false => exact ⟨0, 0, 7, rfl, rfl, .inl ⟨rfl, rfl⟩⟩
  | true =>
    obtain ⟨s, hs⟩ := some_of ht
    obtain ⟨a, ha⟩ := some_of hi
    obtain ⟨b, hb⟩ := some_of hj
    have h1 : L.need i j t = needM s a b := by unfold Land.need; rw [hs, ha, hb]
    have h2 : L.need j i t = needM s b a := by unfold Land.need; rw [hs, ha, hb]
    have h3 := needM_two s a b
    have h4 := (needM_two s b a).1
    refine ⟨L.need i j t, L.need j i t, 0, rfl, rfl, .inr ⟨rfl, rfl, rfl, ?_⟩⟩
    rw [h1, h2]
    omega


set_option maxRecDepth 100000 in
set_option maxHeartbeats 4000000 in
theorem HillWays_any (q : LV) (L : Land) (c kk hr : Nat) (w : World) (hL : LandAt w q L) (hs : Sane L) (hcc : c < 256) (hkk : kk < 256) (hh : hr < 256) :
    Calls Try.prog 11 #[landV q L, .int .u8 c, .int .u8 kk, .int .u8 hr] w (Ret (.bool true) w) := by
  obtain ⟨tv, htv⟩ : ∃ tv, tv = readyB L := ⟨_, rfl⟩
  have HReady : Hid (∀ W, Below w.heap.size w W → Calls Try.prog 30 #[landV q L] W (Ret (.bool tv) W)) := fun W hW => by rw [htv]; exact ready_any q L W (hL.later hW) hs
  have HL := Lib.hid hL
  have HTv := Lib.hid htv
  clear hL hs htv
  go_enter Try.func11, Try.ntmps11
  go_wp2_with fail
  refine named1 (p := fun W => Calls _ _ _ W _) ?_
  intro W hW B5
  refine (HReady.out W hW).mono ?_
  rintro e w1 ⟨rfl, hb1⟩
  replace hW := over hW hb1
  (try clear c5 t5); replace B5 := B5.later hb1; have c5 := B5.cell; have t5 := B5.lt
  clear hb1 HReady
  cases tv with
  | false =>
    go_wp2_with fail
    refine (awake_any _).mono ?_
    rintro e w2 ⟨rfl, hb2⟩
    replace hW := over hW hb2
    clear hb2
    go_wp2_with fail
    go_ret
    exact ⟨rfl, hW⟩
  | true =>
    have R := ready_of HTv.out.symm
    have HR := Lib.hid R
    have HS := Lib.hid (small_of R.chk)
    obtain ⟨p1, p2, p3⟩ := pair_spec (c := c) R.st1
    have l1 := R.st1
    have l6 := R.st6
    have m4 := R.cs4
    have m1 := R.cs1
    have s1 := R.sn1
    have s12 := R.sn12
    clear R
    go_wp2_with fail
    refine (pair_any q L.st.length _ _ _ c _ l1 (by omega) hcc).mono ?_
    rintro e w2 ⟨rfl, hb2⟩
    replace hW := over hW hb2
    (try clear c5 t5); replace B5 := B5.later hb2; have c5 := B5.cell; have t5 := B5.lt
    clear hb2
    generalize pairA L.st.length c = i at *
    generalize pairB L.st.length c = j at *
    have HIJ := Lib.hid p3
    clear p3
    have hm1 : ((hr % L.sn.length : Nat) : Int) = (hr : Int) % (L.sn.length : Int) := by simp
    have hm3 := Nat.mod_lt hr (show 0 < L.sn.length by omega)
    have hz1 : IntKind.i64.wrap (hr : Int) = (hr : Int) := IntWalk.i64_in _ (by omega)
    have hm5 : (0 : Int) ≤ (hr : Int) % (L.sn.length : Int) ∧ (hr : Int) % (L.sn.length : Int) < 12 := by omega
    have hk1 : ((kk % L.cs.length : Nat) : Int) = (kk : Int) % (L.cs.length : Int) := by simp
    have hk3 := Nat.mod_lt kk (show 0 < L.cs.length by omega)
    have hz2 : IntKind.i64.wrap (kk : Int) = (kk : Int) := IntWalk.i64_in _ (by omega)
    have hk5 : (0 : Int) ≤ (kk : Int) % (L.cs.length : Int) ∧ (kk : Int) % (L.cs.length : Int) < 12 := by omega
    go_wp2_with fail
    refine Fat.wp_region_tail 14 (by kernel_rfl) (by kernel_rfl) ?_
    simp only [List.take_succ_cons, List.drop_succ_cons, List.take_nil, List.drop_nil]
    repeat (go_big_quiet_step (fail))
    refine wpQuiet_nil ?_
    intro w3 hb3
    replace hW := over hW hb3
    (try clear c5 t5); replace B5 := B5.later hb3; have c5 := B5.cell; have t5 := B5.lt
    rw [← hm1, ← hk1]
    clear hb3 hm1 hz1 hm5 hk1 hz2 hk5
    generalize hr % L.sn.length = t at *
    generalize kk % L.cs.length = k at *
    go_wp2_with fail
    refine (land_any q L w3 (HL.out.later hW) HS.out).mono ?_
    rintro e w4 ⟨q1, rfl, hbx, hlx⟩
    replace hW := over hW hbx
    (try clear c5 t5); replace B5 := B5.later hbx; have c5 := B5.cell; have t5 := B5.lt
    have HL4 := Lib.hid hlx
    clear hbx hlx
    go_wp2_with fail
    obtain ⟨mv, nv, gv, hma, hmb, hmm⟩ := mir_two HR.out p1 p2 hm3 HIJ.out
    have HMa := Lib.hid hma
    have HMb := Lib.hid hmb
    have HMm := Lib.hid hmm
    have hwa := Walls_any q1 L i j k t w4 HL4.out HS.out
    rw [wallsE_at HR.out p1 p2 hk3 hm3 HIJ.out] at hwa
    have HSw1 : Hid (L.rbs j i = L.rbs i j) := rbs_swap L j i
    have HSw2 : Hid (L.cbs j i k t = L.cbs i j k t) := cbs_swap L j i k t
    have hw2 := fun (q : LV) (w : World) (hl : LandAt w q L) => Walls_any q L j i k t w hl HS.out
    rw [wallsE_at HR.out p2 p1 hk3 hm3 (Ne.symm HIJ.out), HSw1.out, HSw2.out] at hw2
    have hll1 : (L.rbs i j).length ≤ 1000 := Nat.le_trans (sel_len _ _) HS.out.l2
    have hll2 : (L.cbs i j k t).length ≤ 1000 := by
      refine Nat.le_trans (sel_len _ _) ?_
      unfold Land.kase
      cases h : L.cs[k]? with
      | none => simp
      | some x => exact HS.out.l5 x (List.mem_of_getElem? h)
    obtain ⟨⟨wr, ww⟩, hwy⟩ : ∃ r, L.why i j k t = r := ⟨_, rfl⟩
    have hwhy := fun (q : LV) (w : World) (hl : LandAt w q L) => Why_any q L i j k t w hl HS.out
    rw [whyE_ok HR.out p1 p2 hk3 hm3 HIJ.out, hwy] at hwhy
    have HWhy := Lib.hid hwhy
    have HW2 := Lib.hid hw2
    have HRb : Hid (∀ x, (L.rbs i j)[0]? = some x → L.up t = true → ¬ L.mir i < L.need i j t → wr = 3 ∧ ww = x) := fun x h1 h2 h3 => by
      have h := why_ridge (k := k) h2 h3 h1
      rw [hwy] at h; simpa using h
    have HCb : Hid (∀ x, L.rbs i j = [] → (L.cbs i j k t)[0]? = some x → L.up t = true → ¬ L.mir i < L.need i j t → wr = 4 ∧ ww = x) := fun x h0 h1 h2 h3 => by
      have h := why_cloud (k := k) h2 h3 h0 h1
      rw [hwy] at h; simpa using h
    have HFr : Hid (L.rbs i j = [] → L.cbs i j k t = [] → L.up t = true → ¬ L.mir i < L.need i j t → wr = 0 ∧ ww = 0) := fun h0 h1 h2 h3 => by
      have h := why_free (k := k) h2 h3 h0 h1
      rw [hwy] at h; simpa using h
    have HBe : Hid (L.up t = true → L.mir i < L.need i j t → wr = 2 ∧ ww = 0) := fun h2 h3 => by
      have h := why_behind (k := k) h2 h3
      rw [hwy] at h; simpa using h
    have HNi : Hid (L.up t = false → wr = 1 ∧ ww = 0) := fun h2 => by
      have h := why_night (i := i) (j := j) (k := k) h2
      rw [hwy] at h; simpa using h
    clear hwy hw2 hwhy hma hmb hmm HSw1 HSw2
    generalize L.rbs i j = pl at *
    generalize L.cbs i j k t = ql at *
    have HWa := Lib.hid hwa
    clear hwa
    refine HWa.out.mono ?_
    rintro e w5 ⟨pa, pc, qa, qc, rfl, hb5, hp5, hq5⟩
    replace hW := over hW hb5
    (try clear c5 t5); replace B5 := B5.later hb5; have c5 := B5.cell; have t5 := B5.lt
    have HP5 := Lib.hid (show IntsAt w5 pa pl from hp5)
    have HQ5 := Lib.hid (show IntsAt w5 qa ql from hq5)
    clear hb5 hp5 hq5 HL4 HWa
    go_wp2_with fail
    refine (land_any q L w5 (HL.out.later hW) HS.out).mono ?_
    rintro e w6 ⟨q2, rfl, hb6, hl6⟩
    replace hW := over hW hb6
    (try clear c5 t5); replace B5 := B5.later hb6; have c5 := B5.cell; have t5 := B5.lt
    have HL6 := Lib.hid hl6
    have HP6 := Lib.hid (HP5.out.later hb6)
    have HQ6 := Lib.hid (HQ5.out.later hb6)
    clear hb6 hl6 HP5 HQ5
    go_wp2_with fail
    refine (HW2.out q2 w6 HL6.out).mono ?_
    rintro e w7 ⟨ua, uc, va, vc, rfl, hb7, hu7, hv7⟩
    replace hW := over hW hb7
    (try clear c5 t5); replace B5 := B5.later hb7; have c5 := B5.cell; have t5 := B5.lt
    have HP7 := Lib.hid (HP6.out.later hb7)
    have HQ7 := Lib.hid (HQ6.out.later hb7)
    have HU7 := Lib.hid (show IntsAt w7 ua pl from hu7)
    have HV7 := Lib.hid (show IntsAt w7 va ql from hv7)
    clear hb7 hu7 hv7 HL6 HP6 HQ6 HW2
    go_wp2_with fail
    refine (land_any q L w7 (HL.out.later hW) HS.out).mono ?_
    rintro e w8 ⟨q3, rfl, hb8, hl8⟩
    replace hW := over hW hb8
    (try clear c5 t5); replace B5 := B5.later hb8; have c5 := B5.cell; have t5 := B5.lt
    have HL8 := Lib.hid hl8
    have HI8 := Lib.hid (show IntsAt w8 pa pl ∧ IntsAt w8 qa ql ∧ IntsAt w8 ua pl ∧ IntsAt w8 va ql from ⟨HP7.out.later hb8, HQ7.out.later hb8, HU7.out.later hb8, HV7.out.later hb8⟩)
    clear hb8 hl8 HP7 HQ7 HU7 HV7
    have HStep : Hid (∀ {A B : World}, IntsAt A pa pl ∧ IntsAt A qa ql ∧ IntsAt A ua pl ∧ IntsAt A va ql → Below A.heap.size A B → IntsAt B pa pl ∧ IntsAt B qa ql ∧ IntsAt B ua pl ∧ IntsAt B va ql) := fun h hb => ⟨h.1.later hb, h.2.1.later hb, h.2.2.1.later hb, h.2.2.2.later hb⟩
    go_wp2_with fail
    refine (Mirrors_any q3 L i j t w8 HL8.out HS.out).mono ?_
    rw [HMa.out]
    rintro e w9 ⟨rfl, hb9⟩
    replace hW := over hW hb9
    (try clear c5 t5); replace B5 := B5.later hb9; have c5 := B5.cell; have t5 := B5.lt
    have HI9 := Lib.hid (HStep.out HI8.out hb9)
    clear hb9 HI8 HL8
    go_wp2_with fail
    refine (land_any q L w9 (HL.out.later hW) HS.out).mono ?_
    rintro e w10 ⟨q4, rfl, hb10, hl10⟩
    replace hW := over hW hb10
    (try clear c5 t5); replace B5 := B5.later hb10; have c5 := B5.cell; have t5 := B5.lt
    have HL10 := Lib.hid hl10
    have HI10 := Lib.hid (HStep.out HI9.out hb10)
    clear hb10 hl10 HI9
    go_wp2_with fail
    refine (Mirrors_any q4 L j i t w10 HL10.out HS.out).mono ?_
    rw [HMb.out]
    rintro e w11 ⟨rfl, hb11⟩
    replace hW := over hW hb11
    (try clear c5 t5); replace B5 := B5.later hb11; have c5 := B5.cell; have t5 := B5.lt
    have HI11 := Lib.hid (HStep.out HI10.out hb11)
    clear hb11 HI10 HL10
    go_wp2_with fail
    refine (land_any q L w11 (HL.out.later hW) HS.out).mono ?_
    rintro e w12 ⟨q5, rfl, hb12, hl12⟩
    replace hW := over hW hb12
    (try clear c5 t5); replace B5 := B5.later hb12; have c5 := B5.cell; have t5 := B5.lt
    have HL12 := Lib.hid hl12
    have HI12 := Lib.hid (HStep.out HI11.out hb12)
    clear hb12 hl12 HI11
    go_wp2_with fail
    refine (HWhy.out q5 w12 HL12.out).mono ?_
    rintro e w13 ⟨rfl, hb13⟩
    replace hW := over hW hb13
    (try clear c5 t5); replace B5 := B5.later hb13; have c5 := B5.cell; have t5 := B5.lt
    have HI13 := Lib.hid (HStep.out HI12.out hb13)
    clear hb13 HI12 HL12 HWhy
    have HY1 := Lib.hid (ints_yes pl pa ua pc uc w13 HI13.out.1 HI13.out.2.2.1 hll1)
    go_wp2_with fail
    refine HY1.out.mono ?_
    rintro e w14 ⟨rfl, hb14⟩
    replace hW := over hW hb14
    (try clear c5 t5); replace B5 := B5.later hb14; have c5 := B5.cell; have t5 := B5.lt
    have HI14 := Lib.hid (HStep.out HI13.out hb14)
    have HY2 := Lib.hid (ints_yes ql qa va qc vc w14 HI14.out.2.1 HI14.out.2.2.2 hll2)
    clear hb14 HI13 HY1
    go_wp2_with fail
    refine HY2.out.mono ?_
    rintro e w15 ⟨rfl, hb15⟩
    replace hW := over hW hb15
    (try clear c5 t5); replace B5 := B5.later hb15; have c5 := B5.cell; have t5 := B5.lt
    have HI15 := Lib.hid (HStep.out HI14.out hb15)
    clear hb15 HI14 HY2 HStep HMa HMb
    obtain ⟨s, hts⟩ := some_of hm3
    obtain ⟨a, has⟩ := some_of p1
    have HUp : Hid (L.up t = decide (0 < s.U)) := by unfold Hid Land.up; rw [hts]
    have HMi : Hid (L.mir i = a.M) := by unfold Hid Land.mir; rw [has]
    obtain ⟨b4, o4, ea4, hC4⟩ := HL.out.sn.at hm3
    obtain ⟨b1, o1, ea1, hC1⟩ := HL.out.st.at p1
    have r5 : (0 : Int) ≤ (t : Int) := by omega
    have r6 : (t : Int) < (L.sn.length : Int) := by omega
    have r7 : (0 : Int) ≤ (i : Int) := by omega
    have r8 : (i : Int) < (L.st.length : Int) := by omega
    obtain ⟨g0, g1, g2⟩ := cells_sn (hC4.later hW) hts
    obtain ⟨f0, f1, f2, f3⟩ := cells_st (hC1.later hW) has
    rw [ea4, ea1] at c5
    have z4 := block_lt_of_cell g2
    have z1 := block_lt_of_cell f3
    clear g0 g1 f0 f1 f2 hts has hC4 hC1 ea4 ea1 HR HTv
    by_cases hU : s.U ≤ 0
    · have hu : L.up t = false := by rw [HUp.out]; simpa using hU
      rcases HMm.out with ⟨_, rfl⟩ | ⟨h, _⟩
      · obtain ⟨rfl, rfl⟩ := HNi.out hu
        clear hu HMm HNi HRb HCb HFr HBe HUp
        go_wp2_with fail
        refine (awake_any _).mono ?_
        rintro e w16 ⟨rfl, hbx⟩
        replace hW := over hW hbx
        clear hbx
        go_wp2_with fail
        go_ret
        exact ⟨rfl, hW⟩
      · rw [hu] at h; cases h
    · have hu : L.up t = true := by rw [HUp.out]; simpa using hU
      rcases HMm.out with ⟨h, _⟩ | ⟨_, rfl, hmn, v1, v2, v3, v4, v5⟩
      · rw [hu] at h; cases h
      · rw [← hmn, HMi.out] at HBe HRb HCb HFr
        have HU := Lib.hid hu
        clear HMm HNi HUp hu hmn
        by_cases hbm : a.M < mv
        · obtain ⟨rfl, rfl⟩ := HBe.out HU.out hbm
          clear HRb HCb HFr HBe
          go_wp2_with fail
          refine (awake_any _).mono ?_
          rintro e w16 ⟨rfl, hbx⟩
          replace hW := over hW hbx
          clear hbx
          go_wp2_with fail
          go_ret
          exact ⟨rfl, hW⟩
        · have HNb := Lib.hid (show mv ≤ a.M by omega)
          cases pl with
          | cons x pl =>
            obtain ⟨rfl, rfl⟩ := HRb.out x rfl HU.out HNb.out
            obtain ⟨pb, po, rfl, hC⟩ := RowAt.at (k := 0) HI15.out.1 (by simp)
            have e0 : w15.cell? ⟨pb, po, none⟩ = some (.int .i64 ww) := by simpa using cells_one (k := 0) hC rfl
            have z5 := block_lt_of_cell e0
            clear HRb HCb HFr HBe hC HI15
            simp only [List.length_cons] at *
            go_wp2_with fail
            refine (awake_any _).mono ?_
            rintro e w16 ⟨rfl, hbx⟩
            replace hW := over hW hbx
            clear hbx
            go_wp2_with fail
            go_ret
            exact ⟨rfl, hW⟩
          | nil =>
            cases ql with
            | cons x ql =>
              obtain ⟨rfl, rfl⟩ := HCb.out x rfl rfl HU.out HNb.out
              obtain ⟨pb, po, rfl, hC⟩ := RowAt.at (k := 0) HI15.out.2.1 (by simp)
              have e0 : w15.cell? ⟨pb, po, none⟩ = some (.int .i64 ww) := by simpa using cells_one (k := 0) hC rfl
              have z5 := block_lt_of_cell e0
              clear HRb HCb HFr HBe hC HI15
              simp only [List.length_cons] at *
              go_wp2_with fail
              refine (awake_any _).mono ?_
              rintro e w16 ⟨rfl, hbx⟩
              replace hW := over hW hbx
              clear hbx
              go_wp2_with fail
              go_ret
              exact ⟨rfl, hW⟩
            | nil =>
              obtain ⟨rfl, rfl⟩ := HFr.out rfl rfl HU.out HNb.out
              clear HRb HCb HFr HBe HI15
              go_wp2_with fail
              refine (awake_any _).mono ?_
              rintro e w16 ⟨rfl, hbx⟩
              replace hW := over hW hbx
              clear hbx
              go_wp2_with fail
              go_ret
              exact ⟨rfl, hW⟩
end Go.Proofs.Ytmfnkmmbihmjnaa
