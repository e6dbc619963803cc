/- The statement on a dispatch that is at home: its walk. -/
import Derived.Test.YtfihdaoakfdlpaaGreatLR2
import Derived.Test.YtfihdaoakfdlpaaGreatR24
open Go.RowKit
namespace Go.Proofs.YtfihdaoakfdlpaaGreat
open Go.Hill

set_option maxRecDepth 100000 in
set_option maxHeartbeats 8000000 in
theorem RelayHome_any (q : LV) (L : Land) (a b : Nat) (w : World) (hL : LandAt w q L) (hs : Sane L) (ga : a < 256) (gb : b < 256) :
    Calls Tryz.prog 11 #[landV q L, .int .u8 a, .int .u8 b] w (Ret (.bool true) w) := by
  obtain ⟨tv, htv⟩ : ∃ tv, tv = ready3B L := ⟨_, rfl⟩
  have HReady : Hid (∀ W, Below w.heap.size w W → Calls Tryz.prog 27 #[landV q L] W (Ret (.bool tv) W)) := fun W hW => by rw [htv]; exact ready3_any q L W (hL.later hW) hs
  have HL := Lib.hid hL
  have HTv := Lib.hid htv
  clear hL hs htv
  go_enter Tryz.func11, Tryz.ntmps11
  go_wp2_with fail
  refine named1 (p := fun W => Calls _ _ _ W _) ?_
  intro W hW B5
  refine (HReady.out W hW).mono ?_
  rintro e w1 ⟨rfl, hb1⟩
  replace hW := over hW hb1
  (try clear c5 t5); replace B5 := B5.later hb1; have c5 := B5.cell; have t5 := B5.lt
  clear hb1 HReady
  cases tv with
  | false =>
    go_wp2_with fail
    refine (awake_any _).mono ?_
    rintro e w2 ⟨rfl, hb2⟩
    replace hW := over hW hb2
    clear hb2
    go_wp2_with fail
    go_ret
    exact ⟨rfl, hW⟩
  | true =>
    have htv := HTv.out.symm
    unfold ready3B at htv
    simp only [Bool.and_eq_true, beq_iff_eq] at htv
    have HS := Lib.hid (thin_small htv.1)
    have hc := htv.2
    obtain ⟨n6, n0, e12, e0, m4, m0⟩ := st_six hc
    have HN1 := Lib.hid (fun W => numbers_any q L a b 0 W hc ga gb (by omega))
    have hf : a % L.st.length < L.st.length := Nat.mod_lt _ n0
    have hs : b % (L.sn.length + 1) ≤ L.sn.length := Nat.le_of_lt_succ (Nat.mod_lt _ (by omega))
    generalize a % L.st.length = f at *
    generalize b % (L.sn.length + 1) = s at *
    rw [Nat.zero_mod] at HN1
    have H1 : Hid (Land.sureE L f f s = ((s : Int), 0, 0)) := by
      show _ = _
      rw [sureE_ok hc hf hf hs, sur_home m0]; exact if_neg (by simp only; omega)
    have H2 : Hid (Land.latE L f f s = ((s : Int), 0)) := by
      show _ = _
      rw [latE_ok hc hf hf hs, lat_home m0]; exact if_neg (by omega)
    have H3 : Hid (Land.vitE L f f s = ([], 0)) := by
      show _ = _
      rw [vitE_ok hc hf hf hs, vit_home hs, sur_home m0]; exact if_neg (by simp only; omega)
    have H4 : Hid (Land.routeE L f f s = ([], (s : Int), 0)) := by
      show _ = _
      unfold Land.routeE
      rw [if_pos (show L.askr f f s 0 = 0 from askr_ok (k := 0) hc hf hf hs m0)]
      simp only [Int.toNat_natCast]
      rw [route_home hs]
    have H5 : Hid (Land.prvR L f f s [] s = true) := prvR_home hc hf hs m0
    clear htv HTv hc
    go_wp2_with fail
    refine (HN1.out _).mono ?_
    rintro e w2 ⟨rfl, hb2⟩
    replace hW := over hW hb2
    (try clear c5 t5); replace B5 := B5.later hb2; have c5 := B5.cell; have t5 := B5.lt
    clear hb2 HN1
    go_wp2_with fail
    refine (land_any q L w2 (HL.out.later hW) HS.out).mono ?_
    rintro e w3 ⟨q1, rfl, hbx, hlx⟩
    replace hW := over hW hbx
    (try clear c5 t5); replace B5 := B5.later hbx; have c5 := B5.cell; have t5 := B5.lt
    have HL3 := Lib.hid hlx
    clear hbx hlx
    go_wp2_with fail
    refine (Sure_any q1 L f f s w3 HL3.out HS.out).mono ?_
    rw [H1.out]
    rintro e w4 ⟨rfl, hb4⟩
    replace hW := over hW hb4
    (try clear c5 t5); replace B5 := B5.later hb4; have c5 := B5.cell; have t5 := B5.lt
    clear hb4 HL3
    go_wp2_with fail
    refine (land_any q L w4 (HL.out.later hW) HS.out).mono ?_
    rintro e w5 ⟨q2, rfl, hbx, hlx⟩
    replace hW := over hW hbx
    (try clear c5 t5); replace B5 := B5.later hbx; have c5 := B5.cell; have t5 := B5.lt
    have HL5 := Lib.hid hlx
    clear hbx hlx
    go_wp2_with fail
    refine (Route_any q2 L f f s w5 HL5.out HS.out).mono ?_
    rw [H4.out]
    rintro e w6 ⟨ra, rc, rfl, hb6, hr6⟩
    replace hW := over hW hb6
    (try clear c5 t5); replace B5 := B5.later hb6; have c5 := B5.cell; have t5 := B5.lt
    clear hb6 HL5 hr6
    go_wp2_with fail
    refine (land_any q L w6 (HL.out.later hW) HS.out).mono ?_
    rintro e w7 ⟨q3, rfl, hbx, hlx⟩
    replace hW := over hW hbx
    (try clear c5 t5); replace B5 := B5.later hbx; have c5 := B5.cell; have t5 := B5.lt
    have HL7 := Lib.hid hlx
    clear hbx hlx
    go_wp2_with fail
    refine (Vital_any q3 L f f s w7 HL7.out HS.out).mono ?_
    rw [H3.out]
    rintro e w8 ⟨va, vc, rfl, hb8, hr8⟩
    replace hW := over hW hb8
    (try clear c5 t5); replace B5 := B5.later hb8; have c5 := B5.cell; have t5 := B5.lt
    clear hb8 HL7 hr8
    go_wp2_with fail
    refine (land_any q L w8 (HL.out.later hW) HS.out).mono ?_
    rintro e w9 ⟨q4, rfl, hbx, hlx⟩
    replace hW := over hW hbx
    (try clear c5 t5); replace B5 := B5.later hbx; have c5 := B5.cell; have t5 := B5.lt
    have HL9 := Lib.hid hlx
    clear hbx hlx
    go_wp2_with fail
    refine (Latest_any q4 L f f s w9 HL9.out HS.out).mono ?_
    rw [H2.out]
    rintro e w10 ⟨rfl, hb10⟩
    replace hW := over hW hb10
    (try clear c5 t5); replace B5 := B5.later hb10; have c5 := B5.cell; have t5 := B5.lt
    clear hb10 HL9
    go_wp2_with fail
    refine (land_any q L w10 (HL.out.later hW) HS.out).mono ?_
    rintro e w11 ⟨q5, rfl, hbx, hlx⟩
    replace hW := over hW hbx
    (try clear c5 t5); replace B5 := B5.later hbx; have c5 := B5.cell; have t5 := B5.lt
    have HL11 := Lib.hid hlx
    clear hbx hlx
    go_wp2_with fail
    refine (ProveRoute_any q5 L f f s [] none 0 s w11 HL11.out HS.out (.inl rfl) (by simp)).mono ?_
    rw [H5.out]
    rintro e w12 ⟨rfl, hb12⟩
    replace hW := over hW hb12
    clear hb12 HL11 c5 t5 B5
    go_wp2_with fail
    refine (awake_any _).mono ?_
    rintro e wz ⟨rfl, hbz⟩
    replace hW := over hW hbz
    clear hbz
    go_wp2_with fail
    go_ret
    exact ⟨rfl, hW⟩
end Go.Proofs.YtfihdaoakfdlpaaGreat
