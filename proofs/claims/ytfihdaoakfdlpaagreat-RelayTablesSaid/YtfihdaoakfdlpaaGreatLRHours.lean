/- The statement on the earliest hours, the sure hour, and where a dispatch sticks: its walk. -/
import Derived.Test.YtfihdaoakfdlpaaGreatLRLatest
import Derived.Test.YtfihdaoakfdlpaaGreatRB
open Go.RowKit
namespace Go.Proofs.YtfihdaoakfdlpaaGreat
open Go.Hill

theorem sureE_no {L : Land} {fr ta u : Int} {x : Int × Int × Int} (h : Land.sureE L fr ta u = x) (h0 : L.askr fr ta u 0 ≠ 0) : x = (0, 0, L.askr fr ta u 0) := by
  rw [← h, Land.sureE, if_neg h0]
theorem sureE_yes {L : Land} {f t u : Nat} {x : Int × Int × Int} (h : Land.sureE L f t u = x) (h0 : L.askr f t u 0 = 0) : x = if (L.sn.length : Int) < (L.sur f t u (-1)).1 then (0, 0, 10) else ((L.sur f t u (-1)).1, ((L.sur f t u (-1)).2 : Int), 0) := by
  rw [← h, Land.sureE, if_pos h0]; rfl
theorem stkE_no {L : Land} {fr ta u : Int} {x : List Int × Int} (h : Land.stkE L fr ta u = x) (h0 : L.askr fr ta u 0 ≠ 0) : x = ([], L.askr fr ta u 0) := by
  rw [← h, Land.stkE, if_neg h0]
theorem stkE_yes {L : Land} {f t u : Nat} {x : List Int × Int} (h : Land.stkE L f t u = x) (h0 : L.askr f t u 0 = 0) : x = (L.stk f t u (-1), 0) := by
  rw [← h, Land.stkE, if_pos h0]; rfl
theorem earlE_no {L : Land} {fr u k : Int} {x : List Int × Int} (h : Land.earlE L fr u k = x) (h0 : L.askr fr fr u k ≠ 0) : x = ([], L.askr fr fr u k) := by
  rw [← h, Land.earlE, if_neg h0]
theorem earlE_yes {L : Land} {f u k : Nat} {x : List Int × Int} (h : Land.earlE L f u k = x) (h0 : L.askr f f u k = 0) : x = (Land.fins L f u k (-1), 0) := by
  rw [← h, Land.earlE, if_pos h0]; rfl
set_option maxRecDepth 100000 in
set_option maxHeartbeats 8000000 in
theorem RelayHours_any (q : LV) (L : Land) (fr ta st k : Int) (w : World) (hL : LandAt w q L) (hs : Sane L) :
    Calls Tryz.prog 4 #[landV q L, .int .i64 fr, .int .i64 ta, .int .i64 st, .int .i64 k] w (Ret (.bool true) w) := by
  obtain ⟨tv, htv⟩ : ∃ tv, tv = thinB L := ⟨_, rfl⟩
  have HThin : Hid (∀ W, Below w.heap.size w W → Calls Tryz.prog 13 #[landV q L] W (Ret (.bool tv) W)) := fun W hW => by rw [htv]; exact thin_any q L W (hL.later hW) hs
  have HL := Lib.hid hL
  have HTv := Lib.hid htv
  clear hL hs htv
  go_enter Tryz.func4, Tryz.ntmps4
  go_wp2_with fail
  refine named1 (p := fun W => Calls _ _ _ W _) ?_
  intro W hW B5
  refine (HThin.out W hW).mono ?_
  rintro e w1 ⟨rfl, hb1⟩
  replace hW := over hW hb1
  (try clear c5 t5); replace B5 := B5.later hb1; have c5 := B5.cell; have t5 := B5.lt
  clear hb1 HThin
  cases tv with
  | false =>
    go_wp2_with fail
    refine (awake_any _).mono ?_
    rintro e w2 ⟨rfl, hb2⟩
    replace hW := over hW hb2
    clear hb2
    go_wp2_with fail
    go_ret
    exact ⟨rfl, hW⟩
  | true =>
    have hs := thin_small HTv.out.symm
    have HS := Lib.hid hs
    clear hs
    go_wp2_with fail
    refine (land_any q L w1 (HL.out.later hW) HS.out).mono ?_
    rintro e w2 ⟨q1, rfl, hbx, hlx⟩
    replace hW := over hW hbx
    (try clear c5 t5); replace B5 := B5.later hbx; have c5 := B5.cell; have t5 := B5.lt
    have HL2 := Lib.hid hlx
    clear hbx hlx
    go_wp2_with fail
    obtain ⟨⟨el, ee⟩, hea⟩ : ∃ r, Land.earlE L fr st k = r := ⟨_, rfl⟩
    have HEa := Lib.hid hea
    clear hea
    refine (Earliest_any q1 L fr st k w2 HL2.out HS.out).mono ?_
    rw [HEa.out]
    rintro e w3 ⟨ea, ec, rfl, hb3, hi3⟩
    replace hW := over hW hb3
    (try clear c5 t5); replace B5 := B5.later hb3; have c5 := B5.cell; have t5 := B5.lt
    have HE3 := Lib.hid (show IntsAt w3 ea el from hi3)
    clear hb3 HL2 hi3
    go_wp2_with fail
    refine (land_any q L w3 (HL.out.later hW) HS.out).mono ?_
    rintro e w4 ⟨q2, rfl, hb4, hl4⟩
    replace hW := over hW hb4
    (try clear c5 t5); replace B5 := B5.later hb4; have c5 := B5.cell; have t5 := B5.lt
    have HE4 := Lib.hid (HE3.out.later hb4)
    have HL4 := Lib.hid hl4
    clear hb4 hl4 HE3
    go_wp2_with fail
    obtain ⟨⟨sv, sk, se⟩, hsu⟩ : ∃ r, Land.sureE L fr ta st = r := ⟨_, rfl⟩
    have HSu := Lib.hid hsu
    clear hsu
    refine (Sure_any q2 L fr ta st w4 HL4.out HS.out).mono ?_
    rw [HSu.out]
    rintro e w5 ⟨rfl, hb5⟩
    replace hW := over hW hb5
    (try clear c5 t5); replace B5 := B5.later hb5; have c5 := B5.cell; have t5 := B5.lt
    have HE5 := Lib.hid (HE4.out.later hb5)
    clear hb5 HL4 HE4
    go_wp2_with fail
    refine (land_any q L w5 (HL.out.later hW) HS.out).mono ?_
    rintro e w6 ⟨q3, rfl, hb6, hl6⟩
    replace hW := over hW hb6
    (try clear c5 t5); replace B5 := B5.later hb6; have c5 := B5.cell; have t5 := B5.lt
    have HE6 := Lib.hid (HE5.out.later hb6)
    have HL6 := Lib.hid hl6
    clear hb6 hl6 HE5
    go_wp2_with fail
    obtain ⟨⟨kl, ke⟩, hst⟩ : ∃ r, Land.stkE L fr ta st = r := ⟨_, rfl⟩
    have HSt := Lib.hid hst
    clear hst
    refine (Stuck_any q3 L fr ta st w6 HL6.out HS.out).mono ?_
    rw [HSt.out]
    rintro e w7 ⟨ka, kc, rfl, hb7, hi7⟩
    replace hW := over hW hb7
    (try clear c5 t5); replace B5 := B5.later hb7; have c5 := B5.cell; have t5 := B5.lt
    have HE7 := Lib.hid (HE6.out.later hb7)
    have HK7 := Lib.hid (show IntsAt w7 ka kl from hi7)
    clear hb7 HL6 hi7 HE6
    go_wp2_with fail
    obtain ⟨a1, ha1⟩ : ∃ a, a = L.askr fr fr st k := ⟨_, rfl⟩
    have C1 := asked3_any q L fr fr st k w7 (HL.out.later hW) HS.out
    rw [← ha1] at C1
    replace C1 := Lib.hid C1
    have HA1 := Lib.hid ha1
    clear ha1
    refine C1.out.mono ?_
    rintro e w8 ⟨rfl, hb8⟩
    replace hW := over hW hb8
    (try clear c5 t5); replace B5 := B5.later hb8; have c5 := B5.cell; have t5 := B5.lt
    have HE8 := Lib.hid (HE7.out.later hb8)
    have HK8 := Lib.hid (HK7.out.later hb8)
    clear hb8 C1 HE7 HK7
    go_upto_if 61 with fail
    go_cut [10] (fun s10 wx => s10 = .bool false ∧ Below w8.heap.size w8 wx)
    case first =>
      by_cases h0 : a1 = 0
      · subst h0
        obtain ⟨hc, f, t, s, c, rfl, ht0, rfl, rfl, hf, ht, hs', hc0⟩ := askr_zero HA1.out.symm
        have hx := earlE_yes HEa.out HA1.out.symm
        simp only [Prod.mk.injEq] at hx
        obtain ⟨rfl, rfl⟩ := hx
        have HC := Lib.hid (rEarliest_any q L f s c (-1) w8 (HL.out.later hW) hc hf hs' hc0)
        have hlen : (Land.fins L f s c (-1)).length ≤ 1000 := by rw [fins_len]; exact HS.out.l1
        generalize Land.fins L f s c (-1) = fl at *
        clear ht0 ht hc
        go_wp2_with fail
        refine HC.out.mono ?_
        rintro e w9 ⟨fa, fc, rfl, hb9, hi9⟩
        have HY := Lib.hid (ints3_yes fl ea fa ec fc w9 (HE8.out.later hb9) hi9 hlen)
        clear HC c5 t5 B5 hi9 hlen
        go_wp2_with fail
        refine HY.out.mono ?_
        rintro e w10 ⟨rfl, hb10⟩
        have hb := over hb9 hb10
        clear hb9 hb10 HY
        go_wp2_with fail
        go_meet
        exact ⟨rfl, hb⟩
      · have h0b : (a1 != 0) = true := by simpa using h0
        have hx := earlE_no HEa.out (by rw [← HA1.out]; exact h0)
        rw [← HA1.out] at hx
        simp only [Prod.mk.injEq] at hx
        obtain ⟨rfl, rfl⟩ := hx
        clear h0
        go_wp2_with fail
        go_meet
        exact ⟨rfl, Below.refl _ _⟩
    case rest =>
      obtain ⟨rfl, hbc⟩ := hcut
      replace hW := over hW hbc
      (try clear c5 t5); replace B5 := B5.later hbc; have c5 := B5.cell; have t5 := B5.lt
      have HKc := Lib.hid (HK8.out.later hbc)
      clear hbc HE8 HK8 HEa HA1
      obtain ⟨a2, ha2⟩ : ∃ a, a = L.askr fr ta st 0 := ⟨_, rfl⟩
      have C2 := asked3_any q L fr ta st 0 wc (HL.out.later hW) HS.out
      rw [← ha2] at C2
      replace C2 := Lib.hid C2
      have HA2 := Lib.hid ha2
      clear ha2
      go_wp2_with fail
      refine C2.out.mono ?_
      rintro e w9 ⟨rfl, hb9⟩
      replace hW := over hW hb9
      (try clear c5 t5); replace B5 := B5.later hb9; have c5 := B5.cell; have t5 := B5.lt
      have HK9 := Lib.hid (HKc.out.later hb9)
      clear hb9 C2 HKc
      by_cases h0 : a2 = 0
      case neg =>
        have h0b : (a2 != 0) = true := by simpa using h0
        have hx := sureE_no HSu.out (by rw [← HA2.out]; exact h0)
        rw [← HA2.out] at hx
        simp only [Prod.mk.injEq] at hx
        obtain ⟨rfl, rfl, rfl⟩ := hx
        have hy := stkE_no HSt.out (by rw [← HA2.out]; exact h0)
        rw [← HA2.out] at hy
        simp only [Prod.mk.injEq] at hy
        obtain ⟨rfl, rfl⟩ := hy
        clear h0 B5 c5 t5
        go_wp2_with fail
        refine (awake_any _).mono ?_
        rintro e w10 ⟨rfl, hb10⟩
        replace hW := over hW hb10
        clear hb10
        go_wp2_with fail
        go_ret
        exact ⟨rfl, hW⟩
      subst h0
      obtain ⟨hc, f, t, s, c, rfl, rfl, rfl, hz, hf, ht, hs', hc0⟩ := askr_zero HA2.out.symm
      clear hz hc0 c
      have hy := stkE_yes HSt.out HA2.out.symm
      simp only [Prod.mk.injEq] at hy
      obtain ⟨rfl, rfl⟩ := hy
      have hx := sureE_yes HSu.out HA2.out.symm
      have m0 := (st_six hc).2.2.2.2.2
      have hge := sur_ge (f := f) (t := t) m0 hs'
      have HC := Lib.hid (rSure3_any q L f t s w9 (HL.out.later hW) hc hf ht hs')
      have HC2 := Lib.hid (fun W hW => rStuck3_any q L f t s (-1) W (HL.out.later hW) hc hf ht hs')
      have hlen : (L.stk f t s (-1)).length ≤ 1000 := Nat.le_trans (sel_len _ _) HS.out.l3
      have hrs : Land.rsur L f t s = if (L.sur f t s (-1)).1 ≤ L.sn.length then ((L.sur f t s (-1)).1, ((L.sur f t s (-1)).2 : Int)) else (-1, 0) := rfl
      generalize Land.rsur L f t s = rs at *
      generalize L.stk f t s (-1) = kl at *
      generalize L.sur f t s (-1) = su at *
      obtain ⟨s1, s2⟩ := su
      obtain ⟨r1, r2⟩ := rs
      simp only at hx hge hrs
      have HX := Lib.hid hx
      have HRs := Lib.hid hrs
      clear hx hrs hc HSu
      go_wp2_with fail
      refine HC.out.mono ?_
      rintro e w10 ⟨rfl, hb10⟩
      replace hW := over hW hb10
      (try clear c5 t5); replace B5 := B5.later hb10; have c5 := B5.cell; have t5 := B5.lt
      have HK10 := Lib.hid (HK9.out.later hb10)
      clear hb10 HC HK9
      go_wp2_with fail
      refine (HC2.out _ hW).mono ?_
      rintro e w11 ⟨xa, xc, rfl, hb11, hi11⟩
      replace hW := over hW hb11
      have HY := Lib.hid (ints3_yes kl ka xa kc xc w11 (HK10.out.later hb11) hi11 hlen)
      clear hb11 HC2 HK10 hi11 hlen c5 t5 B5
      go_wp2_with fail
      refine HY.out.mono ?_
      rintro e w12 ⟨rfl, hb12⟩
      replace hW := over hW hb12
      clear hb12 HY
      by_cases hgt : (L.sn.length : Int) < s1
      · have hx := HX.out
        rw [if_pos hgt] at hx
        have hr := HRs.out
        rw [if_neg (by omega)] at hr
        simp only [Prod.mk.injEq] at hx hr
        obtain ⟨rfl, rfl, rfl⟩ := hx
        obtain ⟨rfl, rfl⟩ := hr
        clear HX HRs hge hgt
        go_wp2_with fail
        refine (awake_any _).mono ?_
        rintro e w13 ⟨rfl, hb13⟩
        replace hW := over hW hb13
        clear hb13
        go_wp2_with fail
        go_ret
        exact ⟨rfl, hW⟩
      · have hx := HX.out
        rw [if_neg hgt] at hx
        have hr := HRs.out
        rw [if_pos (by omega)] at hr
        simp only [Prod.mk.injEq] at hx hr
        obtain ⟨rfl, rfl, rfl⟩ := hx
        obtain ⟨rfl, rfl⟩ := hr
        have hg : ¬ r1 < 0 := by omega
        clear HX HRs hge hgt
        go_wp2_with fail
        refine (awake_any _).mono ?_
        rintro e w13 ⟨rfl, hb13⟩
        replace hW := over hW hb13
        clear hb13
        go_wp2_with fail
        go_ret
        exact ⟨rfl, hW⟩
end Go.Proofs.YtfihdaoakfdlpaaGreat
