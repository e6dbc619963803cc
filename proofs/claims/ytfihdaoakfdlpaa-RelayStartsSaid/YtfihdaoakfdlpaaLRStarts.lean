/- The statement on the latest start, outright: its walk. -/
import Derived.Test.YtfihdaoakfdlpaaLR2
open Go.RowKit
namespace Go.Proofs.Ytfihdaoakfdlpaa
open Go.Hill

set_option maxRecDepth 100000 in
set_option maxHeartbeats 8000000 in
theorem RelayStarts_any (q : LV) (L : Land) (a b c d : Nat) (w : World) (hL : LandAt w q L) (hs : Sane L) (ga : a < 256) (gb : b < 256) (gc : c < 256) (gd : d < 256) :
    Calls Try.prog 3 #[landV q L, .int .u8 a, .int .u8 b, .int .u8 c, .int .u8 d] w (Ret (.bool true) w) := by
  obtain ⟨tv, htv⟩ : ∃ tv, tv = ready3B L := ⟨_, rfl⟩
  have HReady : Hid (∀ W, Below w.heap.size w W → Calls Try.prog 7 #[landV q L] W (Ret (.bool tv) W)) := fun W hW => by rw [htv]; exact ready3_any q L W (hL.later hW) hs
  have HL := Lib.hid hL
  have HTv := Lib.hid htv
  clear hL hs htv
  go_enter Try.func3, Try.ntmps3
  go_wp2_with fail
  refine named1 (p := fun W => Calls _ _ _ W _) ?_
  intro W hW B5
  refine (HReady.out W hW).mono ?_
  rintro e w1 ⟨rfl, hb1⟩
  replace hW := over hW hb1
  (try clear c5 t5); replace B5 := B5.later hb1; have c5 := B5.cell; have t5 := B5.lt
  clear hb1 HReady
  cases tv with
  | false =>
    go_wp2_with fail
    refine (awake_any _).mono ?_
    rintro e w2 ⟨rfl, hb2⟩
    replace hW := over hW hb2
    clear hb2
    go_wp2_with fail
    go_ret
    exact ⟨rfl, hW⟩
  | true =>
    have htv := HTv.out.symm
    unfold ready3B at htv
    simp only [Bool.and_eq_true, beq_iff_eq] at htv
    have HS := Lib.hid (thin_small htv.1)
    have hc := htv.2
    obtain ⟨n6, n0, e12, e0, m4, m0⟩ := st_six hc
    have HN1 := Lib.hid (fun W => numbers_any q L a d 0 W hc ga gd (by omega))
    have HN2 := Lib.hid (fun W => numbers_any q L b c 0 W hc gb gc (by omega))
    have hf : a % L.st.length < L.st.length := Nat.mod_lt _ n0
    have ht : b % L.st.length < L.st.length := Nat.mod_lt _ n0
    have hs : d % (L.sn.length + 1) ≤ L.sn.length := Nat.le_of_lt_succ (Nat.mod_lt _ (by omega))
    have hu : c % (L.sn.length + 1) ≤ L.sn.length := Nat.le_of_lt_succ (Nat.mod_lt _ (by omega))
    generalize a % L.st.length = f at *
    generalize b % L.st.length = t at *
    generalize d % (L.sn.length + 1) = s at *
    generalize c % (L.sn.length + 1) = u at *
    rw [Nat.zero_mod] at HN1 HN2
    have h1 := sureE_ok hc hf ht hs
    have h2 := latE_ok hc hf ht hu
    have h3 := fun k hk => sureE_ok (s := k) hc hf ht hk
    have h4 := fun h => lat_none (f := f) (t := t) (u := u) m0 h s hs
    have h5 := fun h => lat_some (f := f) (t := t) (u := u) m0 hf ht hu h
    have H1 := Lib.hid h1
    have H2 := Lib.hid h2
    have H3 := Lib.hid h3
    have H4 := Lib.hid h4
    have H5 := Lib.hid h5
    clear htv HTv hc h1 h2 h3 h4 h5
    go_wp2_with fail
    refine (HN1.out _).mono ?_
    rintro e w2 ⟨rfl, hb2⟩
    replace hW := over hW hb2
    (try clear c5 t5); replace B5 := B5.later hb2; have c5 := B5.cell; have t5 := B5.lt
    clear hb2 HN1
    go_wp2_with fail
    refine (HN2.out _).mono ?_
    rintro e w3 ⟨rfl, hb3⟩
    replace hW := over hW hb3
    (try clear c5 t5); replace B5 := B5.later hb3; have c5 := B5.cell; have t5 := B5.lt
    clear hb3 HN2
    go_wp2_with fail
    refine (land_any q L w3 (HL.out.later hW) HS.out).mono ?_
    rintro e w4 ⟨q1, rfl, hbx, hlx⟩
    replace hW := over hW hbx
    (try clear c5 t5); replace B5 := B5.later hbx; have c5 := B5.cell; have t5 := B5.lt
    have HL4 := Lib.hid hlx
    clear hbx hlx
    go_wp2_with fail
    obtain ⟨⟨lv, le⟩, hla⟩ : ∃ r, Land.latE L f t u = r := ⟨_, rfl⟩
    have HLa := Lib.hid hla
    clear hla
    refine (Latest_any q1 L f t u w4 HL4.out HS.out).mono ?_
    rw [HLa.out]
    rintro e w5 ⟨rfl, hb5⟩
    replace hW := over hW hb5
    (try clear c5 t5); replace B5 := B5.later hb5; have c5 := B5.cell; have t5 := B5.lt
    clear hb5 HL4
    go_wp2_with fail
    refine (land_any q L w5 (HL.out.later hW) HS.out).mono ?_
    rintro e w6 ⟨q2, rfl, hbx, hlx⟩
    replace hW := over hW hbx
    (try clear c5 t5); replace B5 := B5.later hbx; have c5 := B5.cell; have t5 := B5.lt
    have HL6 := Lib.hid hlx
    clear hbx hlx
    go_wp2_with fail
    obtain ⟨⟨sv, sk, se⟩, hsu⟩ : ∃ r, Land.sureE L f t s = r := ⟨_, rfl⟩
    have HSu := Lib.hid hsu
    clear hsu
    refine (Sure_any q2 L f t s w6 HL6.out HS.out).mono ?_
    rw [HSu.out]
    rintro e w8 ⟨rfl, hb8⟩
    replace hW := over hW hb8
    (try clear c5 t5); replace B5 := B5.later hb8; have c5 := B5.cell; have t5 := B5.lt
    clear hb8 HL6
    by_cases hlat : L.lat f t u = -1
    · have h2 := H2.out
      rw [if_pos hlat, HLa.out] at h2
      simp only [Prod.mk.injEq] at h2
      obtain ⟨rfl, rfl⟩ := h2
      have hno := H4.out hlat
      by_cases hst : (L.sn.length : Int) < (L.sur f t s (-1)).1
      · have h1 := H1.out
        rw [if_pos hst, HSu.out] at h1
        simp only [Prod.mk.injEq] at h1
        obtain ⟨rfl, rfl, rfl⟩ := h1
        clear hst hno hlat
        go_wp2_with fail
        refine (awake_any _).mono ?_
        rintro e w9 ⟨rfl, hb9⟩
        replace hW := over hW hb9
        clear hb9
        go_wp2_with fail
        go_ret
        exact ⟨rfl, hW⟩
      · have h1 := H1.out
        rw [if_neg hst, HSu.out] at h1
        simp only [Prod.mk.injEq] at h1
        obtain ⟨rfl, rfl, rfl⟩ := h1
        generalize (L.sur f t s (-1)).1 = sv at *
        have r1 : decide (sv ≤ (u : Int)) = false := by simp; omega
        clear hst hno hlat
        go_wp2_with fail
        refine (awake_any _).mono ?_
        rintro e w9 ⟨rfl, hb9⟩
        replace hW := over hW hb9
        clear hb9
        go_wp2_with fail
        go_ret
        exact ⟨rfl, hW⟩
    · obtain ⟨k, hk1, hk2, hk3, hk4⟩ := H5.out hlat
      have hiff := hk4 s hs
      have h2 := H2.out
      rw [if_neg hlat, HLa.out, hk1] at h2
      simp only [Prod.mk.injEq] at h2
      obtain ⟨rfl, rfl⟩ := h2
      have h3 := H3.out k (by omega)
      rw [if_neg (by omega)] at h3
      have HG := Lib.hid h3
      generalize L.sur f t k (-1) = g at *
      obtain ⟨g1, g2⟩ := g
      have r2 : g1 ≤ (u : Int) := hk3
      have r3 : (k : Int) ≤ (L.sn.length : Int) := by omega
      clear h3 hk1 hk3 hk4 hlat
      by_cases hst : (L.sn.length : Int) < (L.sur f t s (-1)).1
      · have h1 := H1.out
        rw [if_pos hst, HSu.out] at h1
        simp only [Prod.mk.injEq] at h1
        obtain ⟨rfl, rfl, rfl⟩ := h1
        have r4 : decide (s ≤ k) = false := by
          have := mt hiff.2 (by omega)
          simp; omega
        clear hst hiff
        go_wp2_with fail
        refine (land_any q L w8 (HL.out.later hW) HS.out).mono ?_
        rintro e w9 ⟨q3, rfl, hbx, hlx⟩
        replace hW := over hW hbx
        (try clear c5 t5); replace B5 := B5.later hbx; have c5 := B5.cell; have t5 := B5.lt
        have HL9 := Lib.hid hlx
        clear hbx hlx
        go_wp2_with fail
        refine (Sure_any q3 L f t k w9 HL9.out HS.out).mono ?_
        rw [HG.out]
        rintro e w10 ⟨rfl, hb10⟩
        replace hW := over hW hb10
        (try clear c5 t5); replace B5 := B5.later hb10; have c5 := B5.cell; have t5 := B5.lt
        clear hb10 HL9
        go_wp2_with fail
        refine (rend_any q L w10).mono ?_
        rintro e w11 ⟨rfl, hb11⟩
        replace hW := over hW hb11
        clear hb11 c5 t5 B5
        go_wp2_with fail
        refine (awake_any _).mono ?_
        rintro e w12 ⟨rfl, hb12⟩
        replace hW := over hW hb12
        clear hb12
        go_wp2_with fail
        go_ret
        exact ⟨rfl, hW⟩
      · have h1 := H1.out
        rw [if_neg hst, HSu.out] at h1
        simp only [Prod.mk.injEq] at h1
        obtain ⟨rfl, rfl, rfl⟩ := h1
        generalize (L.sur f t s (-1)).1 = sv at *
        by_cases hin : sv ≤ (u : Int)
        · have r4 : decide (s ≤ k) = true := by have := hiff.1 hin; simp; omega
          clear hst hiff
          go_wp2_with fail
          refine (land_any q L w8 (HL.out.later hW) HS.out).mono ?_
          rintro e w9 ⟨q3, rfl, hbx, hlx⟩
          replace hW := over hW hbx
          (try clear c5 t5); replace B5 := B5.later hbx; have c5 := B5.cell; have t5 := B5.lt
          have HL9 := Lib.hid hlx
          clear hbx hlx
          go_wp2_with fail
          refine (Sure_any q3 L f t k w9 HL9.out HS.out).mono ?_
          rw [HG.out]
          rintro e w10 ⟨rfl, hb10⟩
          replace hW := over hW hb10
          (try clear c5 t5); replace B5 := B5.later hb10; have c5 := B5.cell; have t5 := B5.lt
          clear hb10 HL9
          go_wp2_with fail
          refine (rend_any q L w10).mono ?_
          rintro e w11 ⟨rfl, hb11⟩
          replace hW := over hW hb11
          clear hb11 c5 t5 B5
          go_wp2_with fail
          refine (awake_any _).mono ?_
          rintro e w12 ⟨rfl, hb12⟩
          replace hW := over hW hb12
          clear hb12
          go_wp2_with fail
          go_ret
          exact ⟨rfl, hW⟩
        · have r4 : ¬ ((s : Int) ≤ (k : Int)) := by
            have := mt hiff.2 hin
            omega
          clear hst hiff
          go_wp2_with fail
          refine (land_any q L w8 (HL.out.later hW) HS.out).mono ?_
          rintro e w9 ⟨q3, rfl, hbx, hlx⟩
          replace hW := over hW hbx
          (try clear c5 t5); replace B5 := B5.later hbx; have c5 := B5.cell; have t5 := B5.lt
          have HL9 := Lib.hid hlx
          clear hbx hlx
          go_wp2_with fail
          refine (Sure_any q3 L f t k w9 HL9.out HS.out).mono ?_
          rw [HG.out]
          rintro e w10 ⟨rfl, hb10⟩
          replace hW := over hW hb10
          (try clear c5 t5); replace B5 := B5.later hb10; have c5 := B5.cell; have t5 := B5.lt
          clear hb10 HL9
          go_wp2_with fail
          refine (rend_any q L w10).mono ?_
          rintro e w11 ⟨rfl, hb11⟩
          replace hW := over hW hb11
          clear hb11 c5 t5 B5
          go_wp2_with fail
          refine (awake_any _).mono ?_
          rintro e w12 ⟨rfl, hb12⟩
          replace hW := over hW hb12
          clear hb12
          go_wp2_with fail
          go_ret
          exact ⟨rfl, hW⟩
end Go.Proofs.Ytfihdaoakfdlpaa
