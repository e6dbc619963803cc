/- The statement on the reasons: its walk. -/
import Derived.Test.YtmfnkmmbihmjnaaLaw0
import Derived.Test.YtmfnkmmbihmjnaaRef2
import Derived.Test.YtmfnkmmbihmjnaaWalls2
open Go.RowKit
namespace Go.Proofs.Ytmfnkmmbihmjnaa
open Go.Hill

section
variable {L : Land} {fr ta k t : Int}
theorem whyE_no (h : Land.ask L fr ta k t ≠ 0) : Land.whyE L fr ta k t = (0, 0, Land.ask L fr ta k t) := by
  unfold Land.ask at h ⊢
  unfold Land.whyE Land.ask2
  split at h
  · rename_i hc; rw [if_pos hc, if_neg h, if_pos hc]
  · rename_i hc; rw [if_neg hc, if_neg hc]
theorem wallsE_no (h : Land.ask L fr ta k t ≠ 0) : Land.wallsE L fr ta k t = ([], [], Land.ask L fr ta k t) := by
  unfold Land.ask at h ⊢
  unfold Land.wallsE Land.ask2
  split at h
  · rename_i hc; rw [if_pos hc, if_neg h, if_pos hc]
  · rename_i hc; rw [if_neg hc, if_neg hc]
theorem ask_in (h : Land.ask L fr ta k t = 0) : L.chk = 0 ∧ ∃ i j c d : Nat, fr = i ∧ ta = j ∧ k = c ∧ t = d ∧ i < L.st.length ∧ j < L.st.length ∧ c < L.cs.length ∧ d < L.sn.length ∧ i ≠ j := by
  have hc : L.chk = 0 := by
    unfold Land.ask at h
    split at h
    · assumption
    · exact h
  unfold Land.ask at h
  rw [if_pos hc] at h
  exact ⟨hc, askd_zero h⟩
end
theorem wallsE_ok {L : Land} {i j c d : Nat} (hc : L.chk = 0) (hi : i < L.st.length) (hj : j < L.st.length) (hk : c < L.cs.length) (ht : d < L.sn.length) (hne : i ≠ j) : Land.wallsE L i j c d = (L.rbs i j, L.cbs i j c d, 0) := by
  unfold Land.wallsE Land.ask2
  rw [if_pos hc, if_pos (askd_ok hi hj (by omega) (by omega) hne)]
  simp only [Int.toNat_natCast]
theorem whyE_ok2 {L : Land} {i j c d : Nat} (hc : L.chk = 0) (hi : i < L.st.length) (hj : j < L.st.length) (hk : c < L.cs.length) (ht : d < L.sn.length) (hne : i ≠ j) : Land.whyE L i j c d = ((L.why i j c d).1, (L.why i j c d).2, 0) := by
  unfold Land.whyE Land.ask2
  rw [if_pos hc, if_pos (askd_ok hi hj (by omega) (by omega) hne)]
  simp only [Int.toNat_natCast]

set_option maxRecDepth 100000 in
set_option maxHeartbeats 4000000 in
theorem HillWhys_any (q : LV) (L : Land) (fr ta k t : Int) (w : World) (hL : LandAt w q L) (hs : Sane L) :
    Calls Try.prog 10 #[landV q L, .int .i64 fr, .int .i64 ta, .int .i64 k, .int .i64 t] w (Ret (.bool true) w) := by
  obtain ⟨tv, htv⟩ : ∃ tv, tv = thinB L := ⟨_, rfl⟩
  have HThin : Hid (∀ W, Below w.heap.size w W → Calls Try.prog 17 #[landV q L] W (Ret (.bool tv) W)) := fun W hW => by rw [htv]; exact thin_any q L W (hL.later hW) hs
  have HL := Lib.hid hL
  have HTv := Lib.hid htv
  clear hL hs htv
  go_enter Try.func10, Try.ntmps10
  go_wp2_with fail
  refine named1 (p := fun W => Calls _ _ _ W _) ?_
  intro W hW B5
  refine (HThin.out W hW).mono ?_
  rintro e w1 ⟨rfl, hb1⟩
  replace hW := over hW hb1
  (try clear c5 t5); replace B5 := B5.later hb1; have c5 := B5.cell; have t5 := B5.lt
  clear hb1 HThin
  cases tv with
  | false =>
    go_wp2_with fail
    refine (awake_any _).mono ?_
    rintro e w2 ⟨rfl, hb2⟩
    replace hW := over hW hb2
    go_wp2_with fail
    go_ret
    exact ⟨rfl, hW⟩
  | true =>
    have hs := thin_small HTv.out.symm
    have HS := Lib.hid hs
    clear hs
    go_wp2_with fail
    refine (land_any q L w1 (HL.out.later hW) HS.out).mono ?_
    rintro e w2 ⟨q1, rfl, hbx, hlx⟩
    replace hW := over hW hbx
    (try clear c5 t5); replace B5 := B5.later hbx; have c5 := B5.cell; have t5 := B5.lt
    have HL2 := Lib.hid hlx
    clear hbx hlx
    go_wp2_with fail
    obtain ⟨cv, hcv⟩ : ∃ c, c = L.chk := ⟨_, rfl⟩
    have HFault : Hid (∀ W, Below w.heap.size w W → Calls Try.prog 22 #[landV q L] W (Ret (.int .i64 cv) W)) := fun W hW => by rw [hcv]; exact lfault_any q L W (HL.out.later hW) HS.out
    have hchk := check_any q1 L w2 HL2.out HS.out.l1 HS.out.l2 HS.out.l3 HS.out.l4 HS.out.l5
    rw [← hcv] at hchk
    have HChk := Lib.hid hchk
    clear hchk hcv
    refine HChk.out.mono ?_
    rintro e w3 ⟨rfl, hb3⟩
    replace hW := over hW hb3
    (try clear c5 t5); replace B5 := B5.later hb3; have c5 := B5.cell; have t5 := B5.lt
    clear hb3 HChk HL2
    go_wp2_with fail
    refine (land_any q L w3 (HL.out.later hW) HS.out).mono ?_
    rintro e w4 ⟨q2, rfl, hbx, hlx⟩
    replace hW := over hW hbx
    (try clear c5 t5); replace B5 := B5.later hbx; have c5 := B5.cell; have t5 := B5.lt
    have HL4 := Lib.hid hlx
    clear hbx hlx
    go_wp2_with fail
    obtain ⟨⟨wr, ww, we⟩, hwhy⟩ : ∃ r, Land.whyE L fr ta k t = r := ⟨_, rfl⟩
    have HWhy := Lib.hid hwhy
    clear hwhy
    refine (Why_any q2 L fr ta k t w4 HL4.out HS.out).mono ?_
    rw [HWhy.out]
    rintro e w5 ⟨rfl, hb5⟩
    replace hW := over hW hb5
    (try clear c5 t5); replace B5 := B5.later hb5; have c5 := B5.cell; have t5 := B5.lt
    clear hb5 HL4
    go_wp2_with fail
    refine (land_any q L w5 (HL.out.later hW) HS.out).mono ?_
    rintro e w6 ⟨q3, rfl, hbx, hlx⟩
    replace hW := over hW hbx
    (try clear c5 t5); replace B5 := B5.later hbx; have c5 := B5.cell; have t5 := B5.lt
    have HL6 := Lib.hid hlx
    clear hbx hlx
    go_wp2_with fail
    obtain ⟨⟨pl, ql, pe⟩, hwls⟩ : ∃ r, Land.wallsE L fr ta k t = r := ⟨_, rfl⟩
    have HWls := Lib.hid hwls
    clear hwls
    refine (Walls_any q3 L fr ta k t w6 HL6.out HS.out).mono ?_
    rw [HWls.out]
    rintro e w7 ⟨pa, pc, qa, qc, rfl, hb7, hp7, hq7⟩
    replace hW := over hW hb7
    (try clear c5 t5); replace B5 := B5.later hb7; have c5 := B5.cell; have t5 := B5.lt
    have HP7 := Lib.hid (show IntsAt w7 pa pl from hp7)
    have HQ7 := Lib.hid (show IntsAt w7 qa ql from hq7)
    clear hb7 hp7 hq7 HL6
    go_wp2_with fail
    refine (HFault.out _ hW).mono ?_
    rintro e w8 ⟨rfl, hb8⟩
    replace hW := over hW hb8
    (try clear c5 t5); replace B5 := B5.later hb8; have c5 := B5.cell; have t5 := B5.lt
    have HP8 := Lib.hid (HP7.out.later hb8)
    have HQ8 := Lib.hid (HQ7.out.later hb8)
    clear hb8 HP7 HQ7 HFault
    go_wp2_with fail
    obtain ⟨ak, hak⟩ : ∃ ak, ak = Land.ask L fr ta k t := ⟨_, rfl⟩
    have hask := lasked_any q L fr ta k t w8 (HL.out.later hW) HS.out
    rw [← hak] at hask
    have HAsk := Lib.hid hask
    have HAk := Lib.hid hak
    clear hask hak
    refine HAsk.out.mono ?_
    rintro e w9 ⟨rfl, hb9⟩
    replace hW := over hW hb9
    (try clear c5 t5); replace B5 := B5.later hb9; have c5 := B5.cell; have t5 := B5.lt
    have HP9 := Lib.hid (HP8.out.later hb9)
    have HQ9 := Lib.hid (HQ8.out.later hb9)
    clear hb9 HP8 HQ8 HAsk
    by_cases h0 : ak = 0
    case neg =>
      have h0b : (ak != 0) = true := by simpa using h0
      have h1 := whyE_no (L := L) (fr := fr) (ta := ta) (k := k) (t := t) (by rw [← HAk.out]; exact h0)
      have h2 := wallsE_no (L := L) (fr := fr) (ta := ta) (k := k) (t := t) (by rw [← HAk.out]; exact h0)
      rw [← HAk.out, HWhy.out] at h1
      rw [← HAk.out, HWls.out] at h2
      simp only [Prod.mk.injEq] at h1 h2
      obtain ⟨rfl, rfl, rfl⟩ := h1
      obtain ⟨rfl, rfl, rfl⟩ := h2
      clear h0 HWhy HWls HAk
      go_wp2_with fail
      refine (awake_any _).mono ?_
      rintro e w10 ⟨rfl, hb10⟩
      replace hW := over hW hb10
      clear hb10 c5 t5 B5
      go_wp2_with fail
      go_ret
      exact ⟨rfl, hW⟩
    subst h0
    obtain ⟨hc, i, j, c, d, rfl, rfl, rfl, rfl, hi, hj, hk, ht, hij⟩ := ask_in HAk.out.symm
    have h1 := HWhy.out
    have h2 := HWls.out
    rw [whyE_ok2 hc hi hj hk ht hij] at h1
    rw [wallsE_ok hc hi hj hk ht hij] at h2
    simp only [Prod.mk.injEq] at h1 h2
    obtain ⟨h11, h12, rfl⟩ := h1
    obtain ⟨h21, h22, rfl⟩ := h2
    have hwy : L.why i j c d = (wr, ww) := by rw [← h11, ← h12]
    have hl1 : pl.length ≤ 1000 := by rw [← h21]; exact Nat.le_trans (sel_len _ _) HS.out.l2
    have hl2 : ql.length ≤ 1000 := by
      rw [← h22]
      refine Nat.le_trans (sel_len _ _) ?_
      unfold Land.kase
      cases h : L.cs[c]? with
      | none => simp
      | some x => exact HS.out.l5 x (List.mem_of_getElem? h)
    have HRw : Hid (∀ W, Below w.heap.size w W → Calls Try.prog 40 #[landV q L, .int .i64 i, .int .i64 j, .int .i64 c, .int .i64 d] W (Ret (.tuple #[.int .u8 wr, .int .i64 ww]) W)) := fun W hW => rWhy_any q L i j c d W (HL.out.later hW) hc hi hj hk ht (wr, ww) hwy
    have HRl : Hid (∀ W, Below w.heap.size w W → Calls Try.prog 41 #[landV q L, .int .i64 i, .int .i64 j, .int .i64 c, .int .i64 d] W (RetTwo pl ql W)) := fun W hW => by rw [← h21, ← h22]; exact rWalls_any q L i j c d W (HL.out.later hW) hc hi hj hk
    clear hc hij h11 h12 h21 h22 hwy HWhy HWls HAk
    go_wp2_with fail
    refine (HRw.out _ hW).mono ?_
    rintro e w10 ⟨rfl, hb10⟩
    replace hW := over hW hb10
    (try clear c5 t5); replace B5 := B5.later hb10; have c5 := B5.cell; have t5 := B5.lt
    have HP10 := Lib.hid (HP9.out.later hb10)
    have HQ10 := Lib.hid (HQ9.out.later hb10)
    clear hb10 HP9 HQ9 HRw
    go_wp2_with fail
    refine (HRl.out _ hW).mono ?_
    rintro e w11 ⟨xa, xc, ya, yc, rfl, hb11, hx11, hy11⟩
    replace hW := over hW hb11
    have HY1 := Lib.hid (ints_yes pl pa xa pc xc w11 (HP10.out.later hb11) hx11 hl1)
    have HQ11 := Lib.hid (HQ10.out.later hb11)
    have HYy := Lib.hid (show IntsAt w11 ya ql from hy11)
    clear hb11 hx11 hy11 HP10 HQ10 HRl
    go_wp2_with fail
    refine HY1.out.mono ?_
    rintro e w12 ⟨rfl, hb12⟩
    replace hW := over hW hb12
    have HY2 := Lib.hid (ints_yes ql qa ya qc yc w12 (HQ11.out.later hb12) (HYy.out.later hb12) hl2)
    clear hb12 HY1 HQ11 HYy
    go_wp2_with fail
    refine HY2.out.mono ?_
    rintro e w13 ⟨rfl, hb13⟩
    replace hW := over hW hb13
    clear hb13 HY2
    go_wp2_with fail
    refine (awake_any _).mono ?_
    rintro e w14 ⟨rfl, hb14⟩
    replace hW := over hW hb14
    clear hb14
    go_wp2_with fail
    go_ret
    exact ⟨rfl, hW⟩
end Go.Proofs.Ytmfnkmmbihmjnaa
