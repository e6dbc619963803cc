/- The statement on whom a station reaches, with two mirrors: its walk. -/
import Derived.Test.YtmfnkmmbihmjnaaSet1
import Derived.Deep.DeepCutAuto
import Derived.Deep.CutBlock
open Go.RowKit
namespace Go.Proofs.Ytmfnkmmbihmjnaa
open Go.Hill

theorem CasesR.later {W W' : World} {n0 : Nat} {v : Value} {css : List (List Cd)} (h : CasesR W n0 v css) (hb : Below W.heap.size W W') : CasesR W' n0 v css := by
  obtain ⟨l, h1, h2, h3, h4⟩ := h
  exact ⟨l, h1, h2.later hb, fun x hx => (h3 x hx).later hb, h4⟩
theorem LandR.later {W W' : World} {n0 : Nat} {q : LV} {L : Land} (h : LandR W n0 q L) (hb : Below W.heap.size W W') : LandR W' n0 q L := ⟨h.st.later hb, h.rd.later hb, h.cs.later hb, h.sn.later hb⟩
theorem ready_set {L : Land} {i : Nat} {a : Stn} (R : Ready L) (hi : L.st[i]? = some a) : Ready (L.setSt i a.two) := by
  have hok : a.two.ok = true := by
    refine ok_two ?_
    have h := (chk_two0.1 R.chk).2
    unfold Land.arg at h
    simp only [Bool.or_eq_false_iff, Bool.not_eq_false', List.all_eq_true] at h
    exact h.1.1.1.1.2 a (List.mem_of_getElem? hi)
  have hl : (L.setSt i a.two).st.length = L.st.length := by simp [Land.setSt]
  exact ⟨chk_set hi rfl rfl hok R.chk, by rw [hl]; exact R.st1, by rw [hl]; exact R.st6, R.rd6, R.cs1, R.cs4, R.sn1, R.sn12, R.cd4⟩


set_option maxRecDepth 100000 in
set_option maxHeartbeats 4000000 in
theorem HillReached_any (q : LV) (L : Land) (c kk hr : Nat) (w : World) (hL : LandAt w q L) (hs : Sane L) (hcc : c < 256) (hkk : kk < 256) (hh : hr < 256) :
    Calls Try.prog 6 #[landV q L, .int .u8 c, .int .u8 kk, .int .u8 hr] w (Ret (.bool true) w) := by
  obtain ⟨tv, htv⟩ : ∃ tv, tv = readyB L := ⟨_, rfl⟩
  have HReady : Hid (∀ W, Below w.heap.size w W → Calls Try.prog 30 #[landV q L] W (Ret (.bool tv) W)) := fun W hW => by rw [htv]; exact ready_any q L W (hL.later hW) hs
  have HL := Lib.hid hL
  have HTv := Lib.hid htv
  clear hL hs htv
  go_enter Try.func6, Try.ntmps6
  go_wp2_with fail
  refine named1 (p := fun W => Calls _ _ _ W _) ?_
  intro W hW B5
  refine (HReady.out W hW).mono ?_
  rintro e w1 ⟨rfl, hb1⟩
  replace hW := over hW hb1
  (try clear c5 t5); replace B5 := B5.later hb1; have c5 := B5.cell; have t5 := B5.lt
  clear hb1 HReady
  cases tv with
  | false =>
    go_wp2_with fail
    refine (awake_any _).mono ?_
    rintro e w2 ⟨rfl, hb2⟩
    replace hW := over hW hb2
    clear hb2
    go_wp2_with fail
    go_ret
    exact ⟨rfl, hW⟩
  | true =>
    have R := ready_of HTv.out.symm
    have HR := Lib.hid R
    have HS := Lib.hid (small_of R.chk)
    obtain ⟨p1, p2, p3⟩ := pair_spec (c := c) R.st1
    have l1 := R.st1
    have l6 := R.st6
    have m4 := R.cs4
    have m1 := R.cs1
    have s1 := R.sn1
    have s12 := R.sn12
    clear R
    go_wp2_with fail
    refine (pair_any q L.st.length _ _ _ c _ l1 (by omega) hcc).mono ?_
    rintro e w2 ⟨rfl, hb2⟩
    replace hW := over hW hb2
    (try clear c5 t5); replace B5 := B5.later hb2; have c5 := B5.cell; have t5 := B5.lt
    clear hb2
    generalize pairA L.st.length c = i at *
    generalize pairB L.st.length c = j at *
    have HIJ := Lib.hid p3
    clear p3
    have hm1 : ((hr % L.sn.length : Nat) : Int) = (hr : Int) % (L.sn.length : Int) := by simp
    have hm3 := Nat.mod_lt hr (show 0 < L.sn.length by omega)
    have hz1 : IntKind.i64.wrap (hr : Int) = (hr : Int) := IntWalk.i64_in _ (by omega)
    have hm5 : (0 : Int) ≤ (hr : Int) % (L.sn.length : Int) ∧ (hr : Int) % (L.sn.length : Int) < 12 := by omega
    have hk1 : ((kk % L.cs.length : Nat) : Int) = (kk : Int) % (L.cs.length : Int) := by simp
    have hk3 := Nat.mod_lt kk (show 0 < L.cs.length by omega)
    have hz2 : IntKind.i64.wrap (kk : Int) = (kk : Int) := IntWalk.i64_in _ (by omega)
    have hk5 : (0 : Int) ≤ (kk : Int) % (L.cs.length : Int) ∧ (kk : Int) % (L.cs.length : Int) < 12 := by omega
    go_wp2_with fail
    refine Fat.wp_region_tail 14 (by kernel_rfl) (by kernel_rfl) ?_
    simp only [List.take_succ_cons, List.drop_succ_cons, List.take_nil, List.drop_nil]
    repeat (go_big_quiet_step (fail))
    refine wpQuiet_nil ?_
    intro w3 hb3
    replace hW := over hW hb3
    (try clear c5 t5); replace B5 := B5.later hb3; have c5 := B5.cell; have t5 := B5.lt
    rw [← hm1, ← hk1]
    clear hb3 hm1 hz1 hm5 hk1 hz2 hk5
    generalize hr % L.sn.length = t at *
    generalize kk % L.cs.length = k at *
    have hlt3 : w.heap.size < w3.heap.size := t5
    go_wp2_with fail
    refine (copied_any q L w3 (HL.out.later hW) HS.out).mono ?_
    rintro e w4 ⟨q0, rfl, hb4, hR4⟩
    replace hW := over hW hb4
    (try clear c5 t5); replace B5 := B5.later hb4; have c5 := B5.cell; have t5 := B5.lt
    have HR4 := Lib.hid hR4
    clear hb4 hR4
    go_upto_region 6 with fail
    refine named1 (p := Code.wp _ _ _ _) ?_
    intro W5 hb5 B13
    replace hW := over hW hb5
    (try clear c5 t5); replace B5 := B5.later hb5; have c5 := B5.cell; have t5 := B5.lt
    obtain ⟨a, hsti⟩ := some_of p1
    have hR5 := HR4.out.later hb5
    obtain ⟨g, cur, hq, hgn, hBg, hcell, hset⟩ := hR5.set hsti
    obtain ⟨x1, y1, x2, y2, x3, y3, x4, y4⟩ := q0
    simp only at hq B13
    obtain ⟨o, ho⟩ : ∃ o : Nat, o = 0 := ⟨_, rfl⟩
    have hq2 : x1 = some ⟨g, o, none⟩ := by rw [hq, ho]
    have cg : W5.cell? ⟨g, o + i * 4 + 3, none⟩ = some (.int .i64 a.M) := by rw [ho, Nat.zero_add]; exact hcell 3 _ rfl
    have fg := hBg.frozen
    have tg := hBg.lt
    have hne13 : w4.heap.size ≠ g := fun e => by
      have h := B13
      rw [e] at h
      unfold Box at h hBg
      rw [hBg] at h
      cases h
    have HSet := Lib.hid (hset 3 (.int .i64 2) a.two (by decide) rfl)
    have HSti := Lib.hid hsti
    have r7 : (0 : Int) ≤ (i : Int) := by omega
    have r8 : (i : Int) < (L.st.length : Int) := by omega
    have HQ := Lib.hid hq
    rw [hq2] at B13 ⊢
    have HHo := Lib.hid ho
    have HBg := Lib.hid hBg
    have c13 := B13.cell; have t13 := B13.lt
    clear hq hq2 hcell hset hR5 HR4 hsti hb5 ho hBg
    go_cut [49] (fun _ wx => wx = W5.setCell ⟨g, o + i * 4 + 3, none⟩ (.int .i64 2))
    case first =>
      go_wp2_with fail
      go_meet
      rfl
    case rest =>
      have ho := HHo.out
      have hq := HQ.out
      have hsetr := HSet.out
      subst ho
      rw [Nat.zero_add] at hcut
      rw [← hcut] at hsetr
      have hbut : But g W5 wc := by rw [hcut]; exact setCell_but _ _ _ _
      have hgw : w.heap.size < g := by omega
      replace hW : Below w.heap.size w wc := hbut.below hW (by omega)
      have D5 := hbut.box B5 (show w.heap.size ≠ g by omega)
      have D13 := hbut.box B13 hne13
      obtain ⟨L', hL'⟩ : ∃ L', L' = L.setSt i a.two := ⟨_, rfl⟩
      have hlen : L'.st.length = L.st.length := by rw [hL']; simp [Land.setSt]
      have hready : Ready L' := by rw [hL']; exact ready_set HR.out HSti.out
      have hrchw : withinB (L.rch i k t) (L'.rch i k t) = true := by rw [hL']; exact rch_two HSti.out k t
      have hLA : LandAt wc ⟨some ⟨g, 0, none⟩, y1, x2, y2, x3, y3, x4, y4⟩ L' := by
        have := hsetr.at
        rw [← hL'] at this
        rw [← hq]; exact this
      have HLand2 : Hid (∀ W, Below wc.heap.size wc W → Calls Try.prog 20 #[.agg #[.slice (some ⟨g, 0, none⟩) L.st.length y1, .slice x2 L.rd.length y2, .slice x3 L.cs.length y3, .slice x4 L.sn.length y4]] W (RetLand L' W)) := fun W hb => by
        have h := land_any ⟨some ⟨g, 0, none⟩, y1, x2, y2, x3, y3, x4, y4⟩ L' W (hLA.later hb) (small_of hready.chk)
        rw [show L'.st.length = L.st.length from hlen, show L'.rd.length = L.rd.length by rw [hL']; rfl, show L'.cs.length = L.cs.length by rw [hL']; rfl, show L'.sn.length = L.sn.length by rw [hL']; rfl] at h
        exact h
      have HReach2 : Hid (∀ (q : LV) (W : World), LandAt W q L' → Calls Try.prog 19 #[landV q L', .int .i64 i, .int .i64 k, .int .i64 t] W (RetL (L'.rch i k t, 0) W)) := fun q W h => by
        have h2 := Reach_any q L' i k t W h (small_of hready.chk)
        rw [rchE_ok hready (by rw [hlen]; exact p1) (by rw [hL']; exact hk3) (by rw [hL']; exact hm3)] at h2
        exact h2
      have hs2 : (L'.rch i k t).length ≤ 1000 := Nat.le_trans (sel_len _ _) (by omega)
      have hs1 : (L.rch i k t).length ≤ 1000 := Nat.le_trans (sel_len _ _) (by omega)
      have HWi := Lib.hid hrchw
      obtain ⟨n13, hn13⟩ : ∃ n, n = w4.heap.size := ⟨_, rfl⟩
      have hself : (L.rch i k t).contains (i : Int) = false := by rw [rch_has p1]; exact can_self L i k t
      have hother : (L.rch i k t).contains (j : Int) = L.can i j k t := rch_has p2
      have HSelf := Lib.hid hself
      have HOther := Lib.hid hother
      clear hcut HHo HQ HSet hsetr hbut B5 B13 c5 t5 c13 t13 cg fg tg hne13 HSti HBg hL' hlen hready hrchw hLA hself hother hgw hgn hq
      rw [← hn13] at D13 ⊢
      clear hn13
      have B5 := D5
      have B13 := D13
      clear D5 D13
      have c5 := B5.cell; have t5 := B5.lt; have c13 := B13.cell; have t13 := B13.lt
      have W0 := Below.refl wc.heap.size wc
      go_wp2_with fail
      refine (land_any q L wc (HL.out.later hW) HS.out).mono ?_
      rintro e w6 ⟨q1, rfl, hb6, hl6⟩
      replace hW := over hW hb6
      replace W0 := over W0 hb6
      (try clear c5 t5 c13 t13); replace B5 := B5.later hb6; replace B13 := B13.later hb6; have c5 := B5.cell; have t5 := B5.lt; have c13 := B13.cell; have t13 := B13.lt
      have HL6 := Lib.hid hl6
      clear hb6 hl6
      go_wp2_with fail
      have hreach := Reach_any q1 L i k t w6 HL6.out HS.out
      rw [rchE_ok HR.out p1 hk3 hm3] at hreach
      have HReach := Lib.hid hreach
      clear hreach
      refine HReach.out.mono ?_
      rintro e w7 ⟨ra, rc, rfl, hb7, hi7⟩
      replace hW := over hW hb7
      replace W0 := over W0 hb7
      (try clear c5 t5 c13 t13); replace B5 := B5.later hb7; replace B13 := B13.later hb7; have c5 := B5.cell; have t5 := B5.lt; have c13 := B13.cell; have t13 := B13.lt
      have HI7 := Lib.hid (show IntsAt w7 ra (L.rch i k t) from hi7)
      clear hb7 hi7 HL6 HReach
      go_wp2_with fail
      refine (HLand2.out _ W0).mono ?_
      rintro e w8 ⟨q2, rfl, hb8, hl8⟩
      replace hW := over hW hb8
      (try clear c5 t5 c13 t13); replace B5 := B5.later hb8; replace B13 := B13.later hb8; have c5 := B5.cell; have t5 := B5.lt; have c13 := B13.cell; have t13 := B13.lt
      have HL8 := Lib.hid hl8
      have HI8 := Lib.hid (HI7.out.later hb8)
      clear hb8 hl8 HI7 HLand2 W0
      go_wp2_with fail
      refine (HReach2.out q2 w8 HL8.out).mono ?_
      rintro e w9 ⟨sa, sc, rfl, hb9, hi9⟩
      replace hW := over hW hb9
      (try clear c5 t5 c13 t13); replace B5 := B5.later hb9; replace B13 := B13.later hb9; have c5 := B5.cell; have t5 := B5.lt; have c13 := B13.cell; have t13 := B13.lt
      have HI9 := Lib.hid (HI8.out.later hb9)
      have HJ9 := Lib.hid (show IntsAt w9 sa (L'.rch i k t) from hi9)
      clear hb9 hi9 HI8 HL8 HReach2 B13 c13 t13
      go_wp2_with fail
      refine (land_any q L w9 (HL.out.later hW) HS.out).mono ?_
      rintro e w10 ⟨q3, rfl, hb10, hl10⟩
      replace hW := over hW hb10
      have HL10 := Lib.hid hl10
      have HI10 := Lib.hid (HI9.out.later hb10)
      have HJ10 := Lib.hid (HJ9.out.later hb10)
      clear hb10 hl10 HI9 HJ9 B5 c5 t5
      go_wp2_with fail
      obtain ⟨⟨wr, ww⟩, hwy⟩ : ∃ r, L.why i j k t = r := ⟨_, rfl⟩
      have hwhy := Why_any q3 L i j k t w10 HL10.out HS.out
      rw [whyE_ok HR.out p1 p2 hk3 hm3 HIJ.out, hwy] at hwhy
      have HWhy := Lib.hid hwhy
      have HCan : Hid (L.can i j k t = (wr == 0)) := by
        unfold Hid Land.can
        rw [hwy, show (i != j) = true by simpa using HIJ.out, Bool.true_and]
      clear hwhy hwy
      generalize L.rch i k t = rl at *
      generalize L'.rch i k t = sl at *
      refine HWhy.out.mono ?_
      rintro e w11 ⟨rfl, hb11⟩
      replace hW := over hW hb11
      have HI11 := Lib.hid (HI10.out.later hb11)
      have HJ11 := Lib.hid (HJ10.out.later hb11)
      clear hb11 HI10 HJ10 HL10 HWhy
      by_cases hw0 : wr = 0
      all_goals
        first
          | (subst hw0; have hcv : ((0 : Int) == 0) = true := rfl)
          | (have hcv : (wr == 0) = false := by simpa using hw0)
        try clear hw0
        have HCv := Lib.hid hcv
        go_wp2_with fail
        refine named1 (p := fun W => Calls _ _ _ W _) ?_
        intro w12 hb12 BT
        have hwt := within_any2 [(j : Int)] rl _ ra 1 rc w12 (ints_one BT) (HI11.out.later hb12) (by simp) hs1
        rw [withinB_one, HOther.out, HCan.out, HCv.out] at hwt
        have HWt := Lib.hid hwt
        replace hW := over hW hb12
        have HI12 := Lib.hid (HI11.out.later hb12)
        have HJ12 := Lib.hid (HJ11.out.later hb12)
        clear hb12 hwt BT HI11 HJ11
        refine HWt.out.mono ?_
        rintro e w13 ⟨rfl, hb13⟩
        replace hW := over hW hb13
        have HI13 := Lib.hid (HI12.out.later hb13)
        have HJ13 := Lib.hid (HJ12.out.later hb13)
        clear hb13 HWt HI12 HJ12
        go_wp2_with fail
        refine named1 (p := fun W => Calls _ _ _ W _) ?_
        intro w14 hb14 BT
        have hwt := within_any2 [(i : Int)] rl _ ra 1 rc w14 (ints_one BT) (HI13.out.later hb14) (by simp) hs1
        rw [withinB_one, HSelf.out] at hwt
        have HWt := Lib.hid hwt
        replace hW := over hW hb14
        have HI14 := Lib.hid (HI13.out.later hb14)
        have HJ14 := Lib.hid (HJ13.out.later hb14)
        clear hb14 hwt BT HI13 HJ13
        refine HWt.out.mono ?_
        rintro e w15 ⟨rfl, hb15⟩
        replace hW := over hW hb15
        have hwt := within_any2 rl sl ra sa rc sc w15 (HI14.out.later hb15) (HJ14.out.later hb15) hs1 hs2
        rw [HWi.out] at hwt
        have HWt2 := Lib.hid hwt
        clear hb15 hwt HWt HI14 HJ14
        go_wp2_with fail
        refine HWt2.out.mono ?_
        rintro e w16 ⟨rfl, hb16⟩
        replace hW := over hW hb16
        clear hb16 HWt2
        go_wp2_with fail
        refine (awake_any _).mono ?_
        rintro e w17 ⟨rfl, hbx⟩
        replace hW := over hW hbx
        clear hbx
        go_wp2_with fail
        go_ret
        exact ⟨rfl, hW⟩
end Go.Proofs.Ytmfnkmmbihmjnaa
