/- The statement on the rise: its walk. -/
import Derived.Test.YtmfnkmmbihmjnaaAwake2
import Derived.Test.YtmfnkmmbihmjnaaRRise
import Derived.Test.YtmfnkmmbihmjnaaW11
import Derived.Test.YtmfnkmmbihmjnaaW15
open Go.RowKit
namespace Go.Proofs.Ytmfnkmmbihmjnaa
open Go.Hill

theorem ask_zero {L : Land} {fr ta k t : Int} (h : Land.ask L fr ta k t = 0) : L.chk = 0 ∧ askd L.st.length L.cs.length L.sn.length fr ta k t = 0 := by
  unfold Land.ask at h
  split at h
  · exact ⟨‹_›, h⟩
  · exact absurd h ‹_›
theorem riseE_no {L : Land} {fr ta : Int} (h : Land.ask L fr ta 0 0 ≠ 0) : Land.riseE L fr ta = (0, Land.ask L fr ta 0 0) := by
  unfold Land.ask at h ⊢
  unfold Land.riseE Land.ask2
  split at h
  · rename_i hc
    rw [if_pos hc, if_pos hc, if_neg h]
  · rename_i hc
    rw [if_neg hc, if_neg hc]

set_option maxRecDepth 100000 in
set_option maxHeartbeats 4000000 in
theorem HillRises_any (q : LV) (L : Land) (fr ta : Int) (w : World) (hL : LandAt w q L) (hs : Sane L) :
    Calls Try.prog 4 #[landV q L, .int .i64 fr, .int .i64 ta] w (Ret (.bool true) w) := by
  obtain ⟨tv, htv⟩ : ∃ tv, tv = thinB L := ⟨_, rfl⟩
  have HThin : Hid (∀ W, Below w.heap.size w W → Calls Try.prog 17 #[landV q L] W (Ret (.bool tv) W)) := fun W hW => by rw [htv]; exact thin_any q L W (hL.later hW) hs
  have HL := Lib.hid hL
  have HTv := Lib.hid htv
  clear hL hs htv
  go_enter Try.func4, Try.ntmps4
  go_wp2_with fail
  refine named1 (p := fun W => Calls _ _ _ W _) ?_
  intro W hW B5
  refine (HThin.out W hW).mono ?_
  rintro e w1 ⟨rfl, hb1⟩
  replace hW := over hW hb1
  (try clear c5 t5); replace B5 := B5.later hb1; have c5 := B5.cell; have t5 := B5.lt
  clear hb1 HThin
  cases tv with
  | false =>
    go_wp2_with fail
    refine (awake_any _).mono ?_
    rintro e w2 ⟨rfl, hb2⟩
    replace hW := over hW hb2
    go_wp2_with fail
    go_ret
    exact ⟨rfl, hW⟩
  | true =>
    have hs := thin_small HTv.out.symm
    have HS := Lib.hid hs
    clear hs
    go_wp2_with fail
    refine (land_any q L w1 (HL.out.later hW) HS.out).mono ?_
    rintro e w2 ⟨q1, rfl, hb2, hl2⟩
    replace hW := over hW hb2
    (try clear c5 t5); replace B5 := B5.later hb2; have c5 := B5.cell; have t5 := B5.lt
    have HL2 := Lib.hid hl2
    clear hb2 hl2
    go_wp2_with fail
    obtain ⟨⟨nv, ne⟩, hrise⟩ : ∃ r, Land.riseE L fr ta = r := ⟨_, rfl⟩
    have HRise := Lib.hid hrise
    clear hrise
    refine (Rise_any q1 L fr ta w2 HL2.out HS.out).mono ?_
    rw [HRise.out]
    rintro e w3 ⟨rfl, hb3⟩
    replace hW := over hW hb3
    (try clear c5 t5); replace B5 := B5.later hb3; have c5 := B5.cell; have t5 := B5.lt
    clear hb3 HL2
    go_wp2_with fail
    obtain ⟨ak, hak⟩ : ∃ ak, ak = Land.ask L fr ta 0 0 := ⟨_, rfl⟩
    have hask := lasked_any q L fr ta 0 0 w3 (HL.out.later hW) HS.out
    rw [← hak] at hask
    have HAsk := Lib.hid hask
    have HAk := Lib.hid hak
    clear hask hak
    refine HAsk.out.mono ?_
    rintro e w4 ⟨rfl, hb4⟩
    replace hW := over hW hb4
    (try clear c5 t5); replace B5 := B5.later hb4; have c5 := B5.cell; have t5 := B5.lt
    clear hb4 HAsk
    by_cases h0 : ak = 0
    case neg =>
      have h0b : (ak != 0) = true := by simpa using h0
      have hm : (nv, ne) = (0, ak) := by rw [← HRise.out, HAk.out]; exact riseE_no (by rw [← HAk.out]; exact h0)
      simp only [Prod.mk.injEq] at hm
      obtain ⟨rfl, rfl⟩ := hm
      clear h0 HRise HAk
      go_wp2_with fail
      refine (awake_any _).mono ?_
      rintro e w5 ⟨rfl, hb5⟩
      replace hW := over hW hb5
      clear hb5 c5 t5 B5
      go_wp2_with fail
      go_ret
      exact ⟨rfl, hW⟩
    subst h0
    obtain ⟨hc, h1⟩ := ask_zero HAk.out.symm
    have hm := HRise.out
    rw [Land.riseE, if_pos hc, if_pos (show Land.ask2 L fr ta 0 0 = 0 from h1)] at hm
    obtain ⟨i, j, c, d, rfl, rfl, hk0, hd0, hi, hj, hkk, hdd, _⟩ := askd_zero h1
    simp only [Int.toNat_natCast] at hm
    have hcall := rRise_any q L i j w4 (HL.out.later hW) hc hi hj
    generalize L.rise i j = rv at *
    have HCall := Lib.hid hcall
    have HM := Lib.hid hm
    clear hk0 hd0 hkk hdd h1 HRise HAk hm hcall hc
    go_wp2_with fail
    refine HCall.out.mono ?_
    rintro e w5 ⟨rfl, hb5⟩
    replace hW := over hW hb5
    clear hb5 c5 t5 B5 HCall
    by_cases hneg : rv < 0
    · have hm := HM.out
      rw [if_pos hneg] at hm
      simp only [Prod.mk.injEq] at hm
      obtain ⟨rfl, rfl⟩ := hm
      go_wp2_with fail
      refine (awake_any _).mono ?_
      rintro e w6 ⟨rfl, hb6⟩
      replace hW := over hW hb6
      clear hb6
      go_wp2_with fail
      go_ret
      exact ⟨rfl, hW⟩
    · have hm := HM.out
      rw [if_neg hneg] at hm
      simp only [Prod.mk.injEq] at hm
      obtain ⟨rfl, rfl⟩ := hm
      go_wp2_with fail
      refine (awake_any _).mono ?_
      rintro e w6 ⟨rfl, hb6⟩
      replace hW := over hW hb6
      clear hb6
      go_wp2_with fail
      go_ret
      exact ⟨rfl, hW⟩
end Go.Proofs.Ytmfnkmmbihmjnaa
