/- The statement on the hours of all cases: its walk. -/
import Derived.Test.YtmfnkmmbihmjnaaLaw0
open Go.RowKit
namespace Go.Proofs.Ytmfnkmmbihmjnaa
open Go.Hill

theorem withinB_iff {l m : List Int} : withinB l m = true ↔ ∀ x ∈ l, x ∈ m := by
  simp [withinB]
theorem alw_in_hrs {L : Land} {i j c : Nat} (hc : c < L.cs.length) : withinB (L.alw i j) (L.hrs i j c) = true := by
  rw [withinB_iff]
  intro x hx
  obtain ⟨t, h1, h2, rfl⟩ := sel_mem.1 hx
  simp only [beq_iff_eq] at h2
  exact sel_mem.2 ⟨t, h1, stick_all.1 h2 c hc, rfl⟩
theorem hrs_has {L : Land} {i j c t : Nat} (ht : t < L.sn.length) : (L.hrs i j c).contains (t : Int) = L.can i j c t := by
  unfold Land.hrs; rw [sel_contains]; simp [ht]
theorem alw_has {L : Land} {i j t : Nat} (ht : t < L.sn.length) : (L.alw i j).contains (t : Int) = (L.stick i j t == L.cs.length) := by
  unfold Land.alw; rw [sel_contains]; simp [ht]

set_option maxRecDepth 100000 in
set_option maxHeartbeats 4000000 in
theorem HillAlways_any (q : LV) (L : Land) (c hr : Nat) (w : World) (hL : LandAt w q L) (hs : Sane L) (hcc : c < 256) (hh : hr < 256) :
    Calls Try.prog 8 #[landV q L, .int .u8 c, .int .u8 hr] w (Ret (.bool true) w) := by
  obtain ⟨tv, htv⟩ : ∃ tv, tv = readyB L := ⟨_, rfl⟩
  have HReady : Hid (∀ W, Below w.heap.size w W → Calls Try.prog 30 #[landV q L] W (Ret (.bool tv) W)) := fun W hW => by rw [htv]; exact ready_any q L W (hL.later hW) hs
  have HL := Lib.hid hL
  have HTv := Lib.hid htv
  clear hL hs htv
  go_enter Try.func8, Try.ntmps8
  go_wp2_with fail
  refine named1 (p := fun W => Calls _ _ _ W _) ?_
  intro W hW B5
  refine (HReady.out W hW).mono ?_
  rintro e w1 ⟨rfl, hb1⟩
  replace hW := over hW hb1
  (try clear c5 t5); replace B5 := B5.later hb1; have c5 := B5.cell; have t5 := B5.lt
  clear hb1 HReady
  cases tv with
  | false =>
    go_wp2_with fail
    refine (awake_any _).mono ?_
    rintro e w2 ⟨rfl, hb2⟩
    replace hW := over hW hb2
    clear hb2
    go_wp2_with fail
    go_ret
    exact ⟨rfl, hW⟩
  | true =>
    have R := ready_of HTv.out.symm
    have HR := Lib.hid R
    have HS := Lib.hid (small_of R.chk)
    obtain ⟨p1, p2, p3⟩ := pair_spec (c := c) R.st1
    have l1 := R.st1
    have l6 := R.st6
    have m4 := R.cs4
    have m1 := R.cs1
    have s1 := R.sn1
    have s12 := R.sn12
    clear R
    go_wp2_with fail
    refine (pair_any q L.st.length _ _ _ c _ l1 (by omega) hcc).mono ?_
    rintro e w2 ⟨rfl, hb2⟩
    replace hW := over hW hb2
    (try clear c5 t5); replace B5 := B5.later hb2; have c5 := B5.cell; have t5 := B5.lt
    clear hb2
    generalize pairA L.st.length c = i at *
    generalize pairB L.st.length c = j at *
    have HIJ := Lib.hid p3
    clear p3
    have hm1 : ((hr % L.sn.length : Nat) : Int) = (hr : Int) % (L.sn.length : Int) := by simp
    have hm3 := Nat.mod_lt hr (show 0 < L.sn.length by omega)
    have hz1 : IntKind.i64.wrap (hr : Int) = (hr : Int) := IntWalk.i64_in _ (by omega)
    have hm5 : (0 : Int) ≤ (hr : Int) % (L.sn.length : Int) ∧ (hr : Int) % (L.sn.length : Int) < 12 := by omega
    go_wp2_with fail
    rw [← hm1]
    clear hm1 hz1 hm5
    generalize hr % L.sn.length = t at *
    refine (land_any q L w2 (HL.out.later hW) HS.out).mono ?_
    rintro e w3 ⟨q1, rfl, hbx, hlx⟩
    replace hW := over hW hbx
    (try clear c5 t5); replace B5 := B5.later hbx; have c5 := B5.cell; have t5 := B5.lt
    have HL3 := Lib.hid hlx
    clear hbx hlx
    go_wp2_with fail
    have halw := Always_any q1 L i j w3 HL3.out HS.out
    rw [alwE_ok HR.out p1 p2 HIJ.out] at halw
    have HAlw := Lib.hid halw
    clear halw HL3
    refine HAlw.out.mono ?_
    rintro e w4 ⟨aa, ac, rfl, hb4, hi4⟩
    replace hW := over hW hb4
    (try clear c5 t5); replace B5 := B5.later hb4; have c5 := B5.cell; have t5 := B5.lt
    have HI4 := Lib.hid (show IntsAt w4 aa (L.alw i j) from hi4)
    clear hb4 hi4 HAlw
    go_wp2_with fail
    refine (land_any q L w4 (HL.out.later hW) HS.out).mono ?_
    rintro e w5 ⟨q2, rfl, hbx, hlx⟩
    replace hW := over hW hbx
    (try clear c5 t5); replace B5 := B5.later hbx; have c5 := B5.cell; have t5 := B5.lt
    have HL5 := Lib.hid hlx
    have HI5 := Lib.hid (HI4.out.later hbx)
    clear hbx hlx HI4
    go_wp2_with fail
    have hstk := Stick_any q2 L i j t w5 HL5.out HS.out
    rw [stickE_ok HR.out p1 p2 hm3 HIJ.out] at hstk
    have hla : (L.alw i j).length ≤ 1000 := Nat.le_trans (sel_len _ _) (by omega)
    have hhas := alw_has (L := L) (i := i) (j := j) hm3
    have HIn : Hid (∀ c, c < L.cs.length → withinB (L.alw i j) (L.hrs i j c) = true) := fun c hc => alw_in_hrs hc
    have HHas := Lib.hid hhas
    have hsc := stick_cases L i j t
    generalize L.stick i j t = sv at *
    have HSc := Lib.hid hsc
    clear hsc hhas
    -- the two ways
    have HStk : Hid (∃ kv fv : Int, ((kv = 0 ∧ fv = 7 ∧ sv = L.cs.length) ∨ (kv = sv ∧ fv = 0 ∧ sv < L.cs.length)) ∧ Calls Try.prog 37 #[landV q2 L, .int .i64 i, .int .i64 j, .int .i64 t] w5 (Ret (.tuple #[.int .i64 kv, .int .i64 fv]) w5)) := by
      rcases HSc.out with ⟨h1, _⟩ | ⟨h1, _⟩
      · rw [if_neg (by omega)] at hstk
        exact ⟨sv, 0, .inr ⟨rfl, rfl, h1⟩, hstk⟩
      · rw [if_pos h1] at hstk
        exact ⟨0, 7, .inl ⟨rfl, rfl, h1⟩, hstk⟩
    clear hstk
    obtain ⟨kv, fv, hkf, hcall⟩ := HStk.out
    have HCall := Lib.hid hcall
    clear hcall HStk HL5
    refine HCall.out.mono ?_
    rintro e w6 ⟨rfl, hb6⟩
    replace hW := over hW hb6
    (try clear c5 t5); replace B5 := B5.later hb6; have c5 := B5.cell; have t5 := B5.lt
    have HI6 := Lib.hid (HI5.out.later hb6)
    clear hb6 HCall HI5
    rcases hkf with ⟨rfl, rfl, hsv⟩ | ⟨rfl, rfl, hsv⟩
    · have HCan : Hid (∀ c, c < L.cs.length → L.can i j c t = true) := by
        rcases HSc.out with ⟨h1, _⟩ | ⟨_, h2⟩
        · omega
        · exact h2
      have HYes : Hid ((L.alw i j).contains (t : Int) = true) := by rw [Hid, HHas.out]; simpa using hsv
      clear HSc HHas hsv
      go_wp2_with fail
      refine named1 (p := fun W => Calls _ _ _ W _) ?_
      intro w7 hb7 BT
      have hwt := within_any2 [(t : Int)] (L.alw i j) _ aa 1 ac w7 (ints_one BT) (HI6.out.later hb7) (by simp) hla
      rw [withinB_one, HYes.out] at hwt
      have HWt := Lib.hid hwt
      replace hW := over hW hb7
      (try clear c5 t5); replace B5 := B5.later hb7; have c5 := B5.cell; have t5 := B5.lt
      have HI7 := Lib.hid (HI6.out.later hb7)
      clear hb7 HI6 hwt BT
      refine HWt.out.mono ?_
      rintro e w8 ⟨rfl, hb8⟩
      replace hW := over hW hb8
      (try clear c5 t5); replace B5 := B5.later hb8; have c5 := B5.cell; have t5 := B5.lt
      have HI8 := Lib.hid (HI7.out.later hb8)
      clear hb8 HI7 HWt
      go_wp2_with fail
      obtain ⟨W8, rfl⟩ : ∃ W8 : World, W8 = w8 := ⟨_, rfl⟩
      go_loopw [14] (fun i' wr => ∃ n : Nat, n ≤ L.cs.length ∧ i' = .int .i64 n ∧ Below W8.heap.size W8 wr) (fun i' _ => L.cs.length - (intOf i').toNat)
      case atStart => exact ⟨0, Nat.zero_le _, rfl, Below.refl _ _⟩
      case round =>
        obtain ⟨n, hn, rfl, hb⟩ := hrel
        have hW9 := over hW hb
        clear c5 t5
        have D5 := B5.later hb
        have c5 := D5.cell
        have t5 := D5.lt
        have HI9 := Lib.hid (HI8.out.later hb)
        by_cases hlt : n < L.cs.length
        · go_wp2_with fail
          refine (land_any q L wr (HL.out.later hW9) HS.out).mono ?_
          rintro e w10 ⟨q3, rfl, hbx, hlx⟩
          have hh := Hours_any q3 L i j n w10 hlx HS.out
          rw [hrsE_ok HR.out p1 p2 hlt HIJ.out] at hh
          have HH := Lib.hid hh
          have HI10 := Lib.hid (HI9.out.later hbx)
          replace hb := over hb hbx
          clear hlx hbx HI9 hh c5 t5 D5
          go_wp2_with fail
          refine HH.out.mono ?_
          rintro e w11 ⟨ha, hcp, rfl, hbx, hi11⟩
          have hlh : (L.hrs i j n).length ≤ 1000 := Nat.le_trans (sel_len _ _) (by omega)
          have HI11 := Lib.hid (HI10.out.later hbx)
          have HH11 := Lib.hid (show IntsAt w11 ha (L.hrs i j n) from hi11)
          replace hb := over hb hbx
          clear hbx hi11 HI10 HH
          have hwt := within_any2 (L.alw i j) (L.hrs i j n) aa ha ac hcp w11 HI11.out HH11.out hla hlh
          rw [HIn.out n hlt] at hwt
          have HWt := Lib.hid hwt
          clear hwt
          go_wp2_with fail
          refine HWt.out.mono ?_
          rintro e w12 ⟨rfl, hbx⟩
          have HH12 := Lib.hid (HH11.out.later hbx)
          replace hb := over hb hbx
          clear hbx HI11 HH11 HWt
          go_wp2_with fail
          refine named1 (p := fun W => Calls _ _ _ W _) ?_
          intro w13 hbx BT
          have hwt := within_any2 [(t : Int)] (L.hrs i j n) _ ha 1 hcp w13 (ints_one BT) (HH12.out.later hbx) (by simp) hlh
          rw [withinB_one, hrs_has hm3, HCan.out n hlt] at hwt
          have HWt := Lib.hid hwt
          replace hb := over hb hbx
          clear hbx hwt BT HH12
          refine HWt.out.mono ?_
          rintro e w14 ⟨rfl, hbx⟩
          replace hb := over hb hbx
          clear hbx HWt
          go_wp2_with fail
          go_roundw
          case rel => exact ⟨n + 1, by omega, by go_num, hb⟩
          case measure => simp [intOf]; omega
        · go_wp2_with fail
          refine (awake_any _).mono ?_
          rintro e w10 ⟨rfl, hbx⟩
          replace hW := over hW9 hbx
          clear hbx
          go_wp2_with fail
          go_ret
          exact ⟨rfl, hW⟩
    · have HCan : Hid (L.can i j sv t = false ∧ ∀ c, c < sv → L.can i j c t = true) := by
        rcases HSc.out with ⟨_, h1, h2⟩ | ⟨h1, _⟩
        · exact ⟨h1, h2⟩
        · omega
      have HYes : Hid ((L.alw i j).contains (t : Int) = false) := by rw [Hid, HHas.out]; simp; omega
      clear HSc HHas
      go_wp2_with fail
      refine named1 (p := fun W => Calls _ _ _ W _) ?_
      intro w7 hb7 BT
      have hwt := within_any2 [(t : Int)] (L.alw i j) _ aa 1 ac w7 (ints_one BT) (HI6.out.later hb7) (by simp) hla
      rw [withinB_one, HYes.out] at hwt
      have HWt := Lib.hid hwt
      replace hW := over hW hb7
      (try clear c5 t5); replace B5 := B5.later hb7; have c5 := B5.cell; have t5 := B5.lt
      have HI7 := Lib.hid (HI6.out.later hb7)
      clear hb7 HI6 hwt BT
      refine HWt.out.mono ?_
      rintro e w8 ⟨rfl, hb8⟩
      replace hW := over hW hb8
      (try clear c5 t5); replace B5 := B5.later hb8; have c5 := B5.cell; have t5 := B5.lt
      have HI8 := Lib.hid (HI7.out.later hb8)
      clear hb8 HI7 HWt
      go_wp2_with fail
      obtain ⟨W8, rfl⟩ : ∃ W8 : World, W8 = w8 := ⟨_, rfl⟩
      go_loopw [14] (fun i' wr => ∃ n : Nat, n ≤ L.cs.length ∧ i' = .int .i64 n ∧ Below W8.heap.size W8 wr) (fun i' _ => L.cs.length - (intOf i').toNat)
      case atStart => exact ⟨0, Nat.zero_le _, rfl, Below.refl _ _⟩
      case round =>
        obtain ⟨n, hn, rfl, hb⟩ := hrel
        have hW9 := over hW hb
        clear c5 t5
        have D5 := B5.later hb
        have c5 := D5.cell
        have t5 := D5.lt
        have HI9 := Lib.hid (HI8.out.later hb)
        by_cases hlt : n < L.cs.length
        · go_wp2_with fail
          refine (land_any q L wr (HL.out.later hW9) HS.out).mono ?_
          rintro e w10 ⟨q3, rfl, hbx, hlx⟩
          have hh := Hours_any q3 L i j n w10 hlx HS.out
          rw [hrsE_ok HR.out p1 p2 hlt HIJ.out] at hh
          have HH := Lib.hid hh
          have HI10 := Lib.hid (HI9.out.later hbx)
          replace hb := over hb hbx
          clear hlx hbx HI9 hh c5 t5 D5
          go_wp2_with fail
          refine HH.out.mono ?_
          rintro e w11 ⟨ha, hcp, rfl, hbx, hi11⟩
          have hlh : (L.hrs i j n).length ≤ 1000 := Nat.le_trans (sel_len _ _) (by omega)
          have HI11 := Lib.hid (HI10.out.later hbx)
          have HH11 := Lib.hid (show IntsAt w11 ha (L.hrs i j n) from hi11)
          replace hb := over hb hbx
          clear hbx hi11 HI10 HH
          have hwt := within_any2 (L.alw i j) (L.hrs i j n) aa ha ac hcp w11 HI11.out HH11.out hla hlh
          rw [HIn.out n hlt] at hwt
          have HWt := Lib.hid hwt
          clear hwt
          go_wp2_with fail
          refine HWt.out.mono ?_
          rintro e w12 ⟨rfl, hbx⟩
          have HH12 := Lib.hid (HH11.out.later hbx)
          replace hb := over hb hbx
          clear hbx HI11 HH11 HWt
          go_wp2_with fail
          refine named1 (p := fun W => Calls _ _ _ W _) ?_
          intro w13 hbx BT
          have hwt := within_any2 [(t : Int)] (L.hrs i j n) _ ha 1 hcp w13 (ints_one BT) (HH12.out.later hbx) (by simp) hlh
          obtain ⟨v, hv⟩ : ∃ v, v = L.can i j n t := ⟨_, rfl⟩
          rw [withinB_one, hrs_has hm3, ← hv] at hwt
          have HV := Lib.hid hv
          have HWt := Lib.hid hwt
          replace hb := over hb hbx
          clear hbx hwt BT HH12 hv
          refine HWt.out.mono ?_
          rintro e w14 ⟨rfl, hbx⟩
          replace hb := over hb hbx
          clear hbx HWt
          by_cases hlk : n < sv
          · obtain rfl : v = true := HV.out.trans (HCan.out.2 n hlk)
            have hne : ((n : Int) == (sv : Int)) = false := by simp; omega
            go_wp2_with fail
            go_roundw
            case rel => exact ⟨n + 1, by omega, by go_num, hb⟩
            case measure => simp [intOf]; omega
          · by_cases hek : n = sv
            · subst hek
              obtain rfl : v = false := HV.out.trans HCan.out.1
              go_wp2_with fail
              go_roundw
              case rel => exact ⟨n + 1, by omega, by go_num, hb⟩
              case measure => simp [intOf]; omega
            · have hne : ((n : Int) == (sv : Int)) = false := by simp; omega
              have hnl : decide ((n : Int) < (sv : Int)) = false := by simp; omega
              clear hek
              go_wp2_with fail
              go_roundw
              case rel => exact ⟨n + 1, by omega, by go_num, hb⟩
              case measure => simp [intOf]; omega
        · go_wp2_with fail
          refine (awake_any _).mono ?_
          rintro e w10 ⟨rfl, hbx⟩
          replace hW := over hW9 hbx
          clear hbx
          go_wp2_with fail
          go_ret
          exact ⟨rfl, hW⟩
end Go.Proofs.Ytmfnkmmbihmjnaa
