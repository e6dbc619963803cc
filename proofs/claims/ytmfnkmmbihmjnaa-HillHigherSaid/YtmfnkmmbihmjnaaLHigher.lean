/- The statement on a station higher up: its walk. -/
import Derived.Test.YtmfnkmmbihmjnaaHigh1
open Go.RowKit
namespace Go.Proofs.Ytmfnkmmbihmjnaa
open Go.Hill

theorem wallsE_at0 {L : Land} {i j : Nat} (R : Ready L) (hi : i < L.st.length) (hj : j < L.st.length) (hne : i ≠ j) : Land.wallsE L i j 0 0 = (L.rbs i j, L.cbs i j 0 0, 0) := by
  have := wallsE_at (k := 0) (t := 0) R hi hj R.cs1 R.sn1 hne
  exact this
theorem ready_up {L : Land} {i : Nat} {a : Stn} {u : Int} (R : Ready L) (hi : L.st[i]? = some a) (h0 : 0 ≤ u) (h1 : a.Z + u ≤ 1000) : Ready (L.setSt i (a.upBy u)) := by
  have hok : (a.upBy u).ok = true := by
    have h := (chk_two0.1 R.chk).2
    unfold Land.arg at h
    simp only [Bool.or_eq_false_iff, Bool.not_eq_false', List.all_eq_true] at h
    have h2 := h.1.1.1.1.2 a (List.mem_of_getElem? hi)
    unfold Stn.ok at h2 ⊢
    simp only [Bool.and_eq_true] at h2 ⊢
    refine ⟨⟨h2.1.1, ?_⟩, h2.2⟩
    have h3 := h2.1.2
    rw [inB_iff] at h3 ⊢
    simp only [Stn.upBy]
    omega
  have hl : (L.setSt i (a.upBy u)).st.length = L.st.length := by simp [Land.setSt]
  exact ⟨chk_set hi rfl rfl hok R.chk, by rw [hl]; exact R.st1, by rw [hl]; exact R.st6, R.rd6, R.cs1, R.cs4, R.sn1, R.sn12, R.cd4⟩
theorem has_step {pl : List Int} {y z : Int} {m : Nat} {hv : Bool} (h : hv = true ↔ ∃ k, k < m ∧ pl[k]? = some y) (hz : pl[m]? = some z) : (hv || z == y) = true ↔ ∃ k, k < m + 1 ∧ pl[k]? = some y := by
  rw [Bool.or_eq_true, h, beq_iff_eq]
  constructor
  · rintro (⟨k, h1, h2⟩ | rfl)
    · exact ⟨k, by omega, h2⟩
    · exact ⟨m, by omega, hz⟩
  · rintro ⟨k, h1, h2⟩
    by_cases hk : k = m
    · subst hk; rw [hz] at h2; cases h2; exact .inr rfl
    · exact .inl ⟨k, by omega, h2⟩
theorem set_set (L : Land) (i : Nat) (a b : Stn) : (L.setSt i a).setSt i b = L.setSt i b := by unfold Land.setSt; simp
theorem rd_base {L : Land} (h : L.chk = 0) : ∀ w ∈ L.rd, w.B = 0 := by
  have h := (chk_two0.1 h).2
  unfold Land.arg at h
  simp only [Bool.or_eq_false_iff, Bool.not_eq_false', List.all_eq_true] at h
  intro w hw
  have := h.1.1.2 w hw
  unfold Wl.rg at this
  simp only [Bool.and_eq_true, beq_iff_eq] at this
  exact this.2



set_option maxRecDepth 100000 in
set_option maxHeartbeats 4000000 in
theorem HillHigher_any (q : LV) (L : Land) (c by_ : Nat) (w : World) (hL : LandAt w q L) (hs : Sane L) (hcc : c < 256) (hkk : by_ < 65536) :
    Calls Try.prog 12 #[landV q L, .int .u8 c, .int .u16 by_] w (Ret (.bool true) w) := by
  obtain ⟨tv, htv⟩ : ∃ tv, tv = readyB L := ⟨_, rfl⟩
  have HReady : Hid (∀ W, Below w.heap.size w W → Calls Try.prog 30 #[landV q L] W (Ret (.bool tv) W)) := fun W hW => by rw [htv]; exact ready_any q L W (hL.later hW) hs
  have HL := Lib.hid hL
  have HTv := Lib.hid htv
  clear hL hs htv
  go_enter Try.func12, Try.ntmps12
  go_wp2_with fail
  refine named1 (p := fun W => Calls _ _ _ W _) ?_
  intro W hW B5
  refine (HReady.out W hW).mono ?_
  rintro e w1 ⟨rfl, hb1⟩
  replace hW := over hW hb1
  (try clear c5 t5); replace B5 := B5.later hb1; have c5 := B5.cell; have t5 := B5.lt
  clear hb1 HReady
  cases tv with
  | false =>
    go_wp2_with fail
    refine (awake_any _).mono ?_
    rintro e w2 ⟨rfl, hb2⟩
    replace hW := over hW hb2
    clear hb2
    go_wp2_with fail
    go_ret
    exact ⟨rfl, hW⟩
  | true =>
    have R := ready_of HTv.out.symm
    have HR := Lib.hid R
    have HS := Lib.hid (small_of R.chk)
    obtain ⟨p1, p2, p3⟩ := pair_spec (c := c) R.st1
    have l1 := R.st1
    have l6 := R.st6
    have d6 := R.rd6
    clear R
    go_wp2_with fail
    refine (pair_any q L.st.length _ _ _ c _ l1 (by omega) hcc).mono ?_
    rintro e w2 ⟨rfl, hb2⟩
    replace hW := over hW hb2
    (try clear c5 t5); replace B5 := B5.later hb2; have c5 := B5.cell; have t5 := B5.lt
    clear hb2
    generalize pairA L.st.length c = i at *
    generalize pairB L.st.length c = j at *
    have HIJ := Lib.hid p3
    clear p3
    have hlt3 : w.heap.size < w2.heap.size := t5
    go_wp2_with fail
    refine (copied_any q L w2 (HL.out.later hW) HS.out).mono ?_
    rintro e w4 ⟨q0, rfl, hb4, hR4⟩
    replace hW := over hW hb4
    (try clear c5 t5); replace B5 := B5.later hb4; have c5 := B5.cell; have t5 := B5.lt
    have HR4 := Lib.hid hR4
    clear hb4 hR4
    go_upto_region 5 with fail
    refine named1 (p := Code.wp _ _ _ _) ?_
    intro W5 hb5 B13
    replace hW := over hW hb5
    (try clear c5 t5); replace B5 := B5.later hb5; have c5 := B5.cell; have t5 := B5.lt
    obtain ⟨a, hsti⟩ := some_of p1
    obtain ⟨b, hstj⟩ := some_of p2
    have hai := (fits HR.out.chk).st a (List.mem_of_getElem? hsti)
    have hbi := (fits HR.out.chk).st b (List.mem_of_getElem? hstj)
    obtain ⟨_, _, _, _, z0, z1000⟩ := hai
    obtain ⟨_, _, _, _, y0, y1000⟩ := hbi
    have hR5 := HR4.out.later hb5
    obtain ⟨g, cur, hq, hgn, hBg, hcell, hset⟩ := hR5.set hsti
    obtain ⟨x1, y1, x2, y2, x3, y3, x4, y4⟩ := q0
    simp only at hq B13
    obtain ⟨o, ho⟩ : ∃ o : Nat, o = 0 := ⟨_, rfl⟩
    have hq2 : x1 = some ⟨g, o, none⟩ := by rw [hq, ho]
    have cg : W5.cell? ⟨g, o + i * 4 + 2, none⟩ = some (.int .i64 a.Z) := by rw [ho, Nat.zero_add]; exact hcell 2 _ rfl
    have hne13 : w4.heap.size ≠ g := fun e => by
      have h := B13
      rw [e] at h
      unfold Box at h hBg
      rw [hBg] at h
      cases h
    have HSti := Lib.hid hsti
    have HStj := Lib.hid hstj
    have r7 : (0 : Int) ≤ (i : Int) := by omega
    have r8 : (i : Int) < (L.st.length : Int) := by omega
    have HQ := Lib.hid hq
    rw [hq2] at B13 ⊢
    have HHo := Lib.hid ho
    have HBg := Lib.hid hBg
    have HR5 := Lib.hid hR5
    have tg := hBg.lt
    have hz1 : IntKind.i64.wrap (by_ : Int) = (by_ : Int) := IntWalk.i64_in _ (by omega)
    have hm5 : (0 : Int) ≤ (by_ : Int) % 300 ∧ (by_ : Int) % 300 < 300 := by omega
    have c13 := B13.cell; have t13 := B13.lt
    clear hq hq2 hcell hset HR4 hsti hstj hb5 ho hR5 hBg
    go_cut [52] (fun _ wx => ∃ (z : Int) (W6 : World), Below W5.heap.size W5 W6 ∧ wx = W6.setCell ⟨g, o + i * 4 + 2, none⟩ (.int .i64 z) ∧ a.Z ≤ z ∧ z ≤ 1000)
    case first =>
      refine Fat.wp_region_tail 16 (by kernel_rfl) (by kernel_rfl) ?_
      simp only [List.take_succ_cons, List.drop_succ_cons, List.take_zero, List.drop_zero]
      repeat (go_big_quiet_step (fail))
      refine wpQuiet_nil ?_
      intro W6 hb6
      have cg6 := (hb6.cell (p := ⟨g, o + i * 4 + 2, none⟩) tg).trans cg
      have fg := (HBg.out.later hb6).frozen
      go_wp2_with fail
      all_goals
        go_meet
        exact ⟨_, W6, hb6, rfl, by omega, by omega⟩
    case rest =>
      obtain ⟨z, W6, hb6, hcut, hz0, hz1⟩ := hcut
      obtain ⟨u, rfl⟩ : ∃ u : Nat, z = a.Z + u := ⟨(z - a.Z).toNat, by omega⟩
      have ho := HHo.out
      have hq := HQ.out
      subst ho
      rw [Nat.zero_add] at hcut
      have hR6 := HR5.out.later hb6
      obtain ⟨g', cur', hq', hgn', hBg', _, hset'⟩ := hR6.set HSti.out
      obtain rfl : g = g' := by
        have h := hq'
        simp only at h
        rw [hq] at h
        cases h; rfl
      have hsetr := hset' 2 (.int .i64 (a.Z + u)) (a.upBy u) (by decide) rfl
      rw [← hcut] at hsetr
      have hbut : But g W6 wc := by rw [hcut]; exact setCell_but _ _ _ _
      have hgw : w.heap.size < g := by omega
      replace hW : Below w.heap.size w wc := hbut.below (over hW hb6) (by omega)
      have D5 := hbut.box (B5.later hb6) (show w.heap.size ≠ g by omega)
      have D13 := hbut.box (B13.later hb6) hne13
      obtain ⟨L', hL'⟩ : ∃ L', L' = L.setSt i (a.upBy u) := ⟨_, rfl⟩
      have hlen : L'.st.length = L.st.length := by rw [hL']; simp [Land.setSt]
      have hready : Ready L' := by rw [hL']; exact ready_up HR.out HSti.out (by omega) hz1
      obtain ⟨hsub, hsubl⟩ := rbs_sub HSti.out HStj.out HIJ.out (rd_base HR.out.chk) z0 y0 (show (0 : Int) ≤ (u : Int) by omega)
      have hfree := rbs_free HSti.out HStj.out HIJ.out (u : Int)
      rw [← hL'] at hsub hsubl hfree
      have HR2 := Lib.hid (show LandR wc w2.heap.size ⟨x1, y1, x2, y2, x3, y3, x4, y4⟩ L' by rw [hL']; exact hsetr)
      have hLA : LandAt wc ⟨some ⟨g, 0, none⟩, y1, x2, y2, x3, y3, x4, y4⟩ L' := by rw [← hq]; exact HR2.out.at
      have HLand2 : Hid (∀ W, Below wc.heap.size wc W → Calls Try.prog 20 #[.agg #[.slice (some ⟨g, 0, none⟩) L.st.length y1, .slice x2 L.rd.length y2, .slice x3 L.cs.length y3, .slice x4 L.sn.length y4]] W (RetLand L' W)) := fun W hb => by
        have h := land_any ⟨some ⟨g, 0, none⟩, y1, x2, y2, x3, y3, x4, y4⟩ L' W (hLA.later hb) (small_of hready.chk)
        rw [show L'.st.length = L.st.length from hlen, show L'.rd.length = L.rd.length by rw [hL']; rfl, show L'.cs.length = L.cs.length by rw [hL']; rfl, show L'.sn.length = L.sn.length by rw [hL']; rfl] at h
        exact h
      have HWalls2 : Hid (∀ (q : LV) (W : World), LandAt W q L' → Calls Try.prog 39 #[landV q L', .int .i64 i, .int .i64 j, .int .i64 0, .int .i64 0] W (RetWalls (L'.rbs i j, L'.cbs i j 0 0, 0) W)) := fun q W h => by
        have h2 := Walls_any q L' i j 0 0 W h (small_of hready.chk)
        rw [wallsE_at0 hready (by rw [hlen]; exact p1) (by rw [hlen]; exact p2) HIJ.out] at h2
        exact h2
      have HWalls1 : Hid (∀ (q : LV) (W : World), LandAt W q L → Calls Try.prog 39 #[landV q L, .int .i64 i, .int .i64 j, .int .i64 0, .int .i64 0] W (RetWalls (L.rbs i j, L.cbs i j 0 0, 0) W)) := fun q W h => by
        have h2 := Walls_any q L i j 0 0 W h HS.out
        rw [wallsE_at0 HR.out p1 p2 HIJ.out] at h2
        exact h2
      have hpl : (L.rbs i j).length ≤ 1000 := Nat.le_trans (sel_len _ _) HS.out.l2
      have HRise : Hid (∀ (q : LV) (W : World), LandAt W q L → ∃ nv gv : Int, ((nv = 0 ∧ gv = 9 ∧ ∀ m : Nat, a.Z + m ≤ 1000 → freeAt L.rd a b m = false) ∨ (gv = 0 ∧ ∃ n : Nat, nv = n ∧ a.Z + n ≤ 1000 ∧ freeAt L.rd a b n = true ∧ ∀ m : Nat, m < n → freeAt L.rd a b m = false)) ∧
          Calls Try.prog 28 #[landV q L, .int .i64 i, .int .i64 j] W (Ret (.tuple #[.int .i64 nv, .int .i64 gv]) W)) := fun q W h => by
        have h2 := Rise_any q L i j W h HS.out
        rw [riseE_ok HR.out p1 p2 HIJ.out] at h2
        rcases rise_cases HSti.out HStj.out z1000 with ⟨h3, h4⟩ | ⟨n, h3, h4, h5, h6⟩
        · rw [h3, if_pos (by decide)] at h2
          exact ⟨0, 9, .inl ⟨rfl, rfl, h4⟩, h2⟩
        · rw [h3, if_neg (by omega)] at h2
          exact ⟨n, 0, .inr ⟨rfl, n, rfl, h4, h5, h6⟩, h2⟩
      have HSub := Lib.hid hsub
      have HQ2 := Lib.hid hq
      have HFree := Lib.hid hfree
      obtain ⟨n13, hn13⟩ : ∃ n, n = w4.heap.size := ⟨_, rfl⟩
      have HL' := Lib.hid hL'
      clear hcut HHo HQ hsetr hset' hbut B5 B13 c5 t5 c13 t13 cg tg hne13 HBg hL' hlen hready hLA hgw hgn hq hq' hgn' hBg' hR6 HR5 hb6 hsub hfree hz0 hm5
      rw [← hn13] at D13 ⊢
      clear hn13
      have B5 := D5
      have B13 := D13
      clear D5 D13
      have c5 := B5.cell; have t5 := B5.lt; have c13 := B13.cell; have t13 := B13.lt
      have W0 := Below.refl wc.heap.size wc
      go_wp2_with fail
      refine (land_any q L wc (HL.out.later hW) HS.out).mono ?_
      rintro e w6 ⟨q1, rfl, hb6, hl6⟩
      replace hW := over hW hb6
      replace W0 := over W0 hb6
      (try clear c5 t5 c13 t13); replace B5 := B5.later hb6; replace B13 := B13.later hb6; have c5 := B5.cell; have t5 := B5.lt; have c13 := B13.cell; have t13 := B13.lt
      have HL6 := Lib.hid hl6
      clear hb6 hl6
      go_wp2_with fail
      generalize L.rbs i j = pl at *
      generalize L'.rbs i j = ql at *
      generalize L.cbs i j 0 0 = pcl at *
      generalize L'.cbs i j 0 0 = qcl at *
      refine (HWalls1.out q1 w6 HL6.out).mono ?_
      rintro e w7 ⟨pa, pc, _, _, rfl, hb7, hp7, _⟩
      replace hW := over hW hb7
      replace W0 := over W0 hb7
      (try clear c5 t5 c13 t13); replace B5 := B5.later hb7; replace B13 := B13.later hb7; have c5 := B5.cell; have t5 := B5.lt; have c13 := B13.cell; have t13 := B13.lt
      have HP7 := Lib.hid (show IntsAt w7 pa pl from hp7)
      clear hb7 hp7 HL6 HWalls1
      go_wp2_with fail
      refine (HLand2.out _ W0).mono ?_
      rintro e w8 ⟨q2, rfl, hb8, hl8⟩
      replace hW := over hW hb8
      replace W0 := over W0 hb8
      (try clear c5 t5 c13 t13); replace B5 := B5.later hb8; replace B13 := B13.later hb8; have c5 := B5.cell; have t5 := B5.lt; have c13 := B13.cell; have t13 := B13.lt
      have HL8 := Lib.hid hl8
      have HP8 := Lib.hid (HP7.out.later hb8)
      clear hb8 hl8 HP7 HLand2
      go_wp2_with fail
      refine (HWalls2.out q2 w8 HL8.out).mono ?_
      rintro e w9 ⟨qa, qc, _, _, rfl, hb9, hq9, _⟩
      replace hW := over hW hb9
      replace W0 := over W0 hb9
      (try clear c5 t5 c13 t13); replace B5 := B5.later hb9; replace B13 := B13.later hb9; have c5 := B5.cell; have t5 := B5.lt; have c13 := B13.cell; have t13 := B13.lt
      have HP9 := Lib.hid (HP8.out.later hb9)
      have HQ9 := Lib.hid (show IntsAt w9 qa ql from hq9)
      clear hb9 hq9 HP8 HL8 HWalls2
      go_wp2_with fail
      refine (land_any q L w9 (HL.out.later hW) HS.out).mono ?_
      rintro e w10 ⟨q3, rfl, hb10, hl10⟩
      replace hW := over hW hb10
      replace W0 := over W0 hb10
      (try clear c5 t5 c13 t13); replace B5 := B5.later hb10; replace B13 := B13.later hb10; have c5 := B5.cell; have t5 := B5.lt; have c13 := B13.cell; have t13 := B13.lt
      have HL10 := Lib.hid hl10
      have HP10 := Lib.hid (HP9.out.later hb10)
      have HQ10 := Lib.hid (HQ9.out.later hb10)
      clear hb10 hl10 HP9 HQ9
      go_wp2_with fail
      obtain ⟨nv, gv, hng, hcall⟩ := HRise.out q3 w10 HL10.out
      have HNg := Lib.hid hng
      have HCall := Lib.hid hcall
      clear hng hcall HRise
      refine HCall.out.mono ?_
      rintro e w11 ⟨rfl, hb11⟩
      replace hW := over hW hb11
      replace W0 := over W0 hb11
      (try clear c5 t5 c13 t13); replace B5 := B5.later hb11; replace B13 := B13.later hb11; have c5 := B5.cell; have t5 := B5.lt; have c13 := B13.cell; have t13 := B13.lt
      have HP11 := Lib.hid (HP10.out.later hb11)
      have HQ11 := Lib.hid (HQ10.out.later hb11)
      clear hb11 HP10 HQ10 HL10 HCall
      go_upto_region 9 with fail
      go_cut [99] (fun s99 wx => s99 = .bool false ∧ wx = w11)
      case first =>
        have hdl : decide (pl.length < ql.length) = false := by simpa using hsubl
        have hg : gv = 9 ∨ gv = 0 := by
          rcases HNg.out with ⟨_, hg, _⟩ | ⟨hg, _⟩
          · exact .inl hg
          · exact .inr hg
        rcases hg with hg | hg
        all_goals
          subst hg
          go_wp2_with fail
          go_meet
          exact ⟨by first | rfl | exact congrArg _ hdl, rfl⟩
      case rest =>
        obtain ⟨rfl, rfl⟩ := hcut
        go_upto_block 0 with fail
        go_cut [18] (fun _ wx => Below wc.heap.size wc wx)
        case first =>
          obtain ⟨W2, rfl⟩ : ∃ W2 : World, W2 = wc := ⟨_, rfl⟩
          go_wp2_with fail
          go_loopw [18] (fun i' wr => ∃ n : Nat, n ≤ ql.length ∧ i' = .int .i64 n ∧ Below W2.heap.size W2 wr) (fun i' _ => ql.length - (intOf i').toNat)
          case atStart => exact ⟨0, Nat.zero_le _, rfl, Below.refl _ _⟩
          case round =>
            obtain ⟨n, hn, rfl, hb⟩ := hrel
            by_cases hlt : n < ql.length
            · obtain ⟨y, hy⟩ : ∃ y, ql[n]? = some y := ⟨ql[n], by simp⟩
              obtain ⟨k, hkl, hk⟩ : ∃ k, k < pl.length ∧ pl[k]? = some y := by
                obtain ⟨k, hk⟩ := List.getElem?_of_mem (HSub.out y (List.mem_of_getElem? hy))
                exact ⟨k, (List.getElem?_eq_some_iff.1 hk).1, hk⟩
              obtain ⟨qb, qo, rfl, hCq⟩ := RowAt.at HQ11.out hlt
              obtain ⟨pb, po, rfl, hCp⟩ := RowAt.at HP11.out hkl
              have HY := Lib.hid hy
              have HCq := Lib.hid hCq
              have HCp := Lib.hid hCp
              have HK := Lib.hid (show ∃ k, k < pl.length ∧ pl[k]? = some y from ⟨k, hkl, hk⟩)
              clear hy hCq hCp hk hkl c5 t5 c13 t13 B5 B13
              go_wp2_with fail
              go_loopw [19, 20] (fun h' m' wr' => ∃ (m : Nat) (hv : Bool), m ≤ pl.length ∧ m' = .int .i64 m ∧ h' = .bool hv ∧ (hv = true ↔ ∃ k, k < m ∧ pl[k]? = some y) ∧ Below W2.heap.size W2 wr') (fun _ m' _ => pl.length - (intOf m').toNat)
              case atStart => exact ⟨0, false, Nat.zero_le _, rfl, rfl, by simp, hb⟩
              case round =>
                obtain ⟨m, hv, hm, rfl, rfl, hiff, hb3⟩ := hrel
                have HIff := Lib.hid hiff
                clear hiff
                by_cases hlm : m < pl.length
                · obtain ⟨z, hz⟩ : ∃ z, pl[m]? = some z := ⟨pl[m], by simp⟩
                  have e1 : wr.cell? ⟨pb, po + m, none⟩ = some (.int .i64 z) := cells_one (HCp.out.later hb3) hz
                  have e2 : wr.cell? ⟨qb, qo + n, none⟩ = some (.int .i64 y) := cells_one (HCq.out.later hb3) HY.out
                  have z1 := block_lt_of_cell e1
                  have z2 := block_lt_of_cell e2
                  have r1 : (0 : Int) ≤ (m : Int) := by omega
                  have r2 : (m : Int) < (pl.length : Int) := by omega
                  have r3 : (0 : Int) ≤ (n : Int) := by omega
                  have r4 : (n : Int) < (ql.length : Int) := by omega
                  have HSt := Lib.hid (has_step HIff.out hz)
                  clear hz
                  go_wp2_with fail
                  cases hv
                  all_goals
                    refine Fat.wp_region_tail 13 (by kernel_rfl) (by kernel_rfl) ?_
                    simp only [List.take_succ_cons, List.drop_succ_cons, List.take_nil, List.drop_nil]
                    repeat (go_big_quiet_step (fail))
                    refine wpQuiet_nil ?_
                    intro w12 hb12
                    have hb4 := over hb3 hb12
                    clear hb12 e1 e2 z1 z2
                    go_wp2_with fail
                    go_roundw
                    case rel => exact ⟨m + 1, _, by omega, by go_num, rfl, HSt.out, hb4⟩
                    case measure => simp [intOf]; omega
                · obtain rfl : m = pl.length := by omega
                  obtain rfl : hv = true := HIff.out.2 HK.out
                  go_wp2_with fail
                  go_roundw
                  case rel => exact ⟨n + 1, by omega, by go_num, hb3⟩
                  case measure => simp [intOf]; omega
            · obtain rfl : n = ql.length := by omega
              go_wp2_with fail
              go_meet
              exact hb
        case rest =>
          replace hW := over hW hcut
          replace W0 := over W0 hcut
          (try clear c5 t5 c13 t13); replace B5 := B5.later hcut; replace B13 := B13.later hcut; have c5 := B5.cell; have t5 := B5.lt; have c13 := B13.cell; have t13 := B13.lt
          clear hcut HP11 HSub
          have hst2 : L'.st[i]? = some (a.upBy u) := by
            rw [HL'.out]
            have hil : i < L.st.length := p1
            unfold Land.setSt
            simp [hil]
          have HR3 := Lib.hid (HR2.out.later W0)
          obtain ⟨g', cur, hq, hgn, hBg, hcell, hset⟩ := HR3.out.set hst2
          obtain rfl : g = g' := by
            have h := hq
            simp only at h
            rw [HQ2.out] at h
            cases h; rfl
          obtain ⟨o, ho⟩ : ∃ o : Nat, o = 0 := ⟨_, rfl⟩
          rw [show (some (⟨g, 0, none⟩ : Addr)) = some ⟨g, o, none⟩ by rw [ho]] at c13 B13
          obtain ⟨b1, o1, ea1, hC1⟩ := HL.out.st.at p1
          obtain ⟨f0, f1, f2, f3⟩ := cells_st (hC1.later hW) HSti.out
          have z1 := block_lt_of_cell f2
          have tg := hBg.lt
          have cg : wc.cell? ⟨g, o + i * 4 + 2, none⟩ = some (.int .i64 (a.Z + u)) := by rw [ho, Nat.zero_add]; exact hcell 2 _ rfl
          rw [ea1] at c5
          have HHo := Lib.hid ho
          have HBg := Lib.hid hBg
          have HEa := Lib.hid ea1
          have HC1 := Lib.hid hC1
          clear f0 f1 f3 hcell hset hBg ho hC1 ea1
          go_wp2_with fail
          refine Fat.wp_region_tail 14 (by kernel_rfl) (by kernel_rfl) ?_
          simp only [List.take_succ_cons, List.drop_succ_cons, List.take_nil, List.drop_nil]
          repeat (go_big_quiet_step (fail))
          refine wpQuiet_nil ?_
          intro w12 hb12
          have hup : a.Z + (u : Int) - a.Z = (u : Int) := by omega
          rw [hup]
          have f4 := (hb12.cell (p := ⟨b1, o1 + i * 4 + 2, none⟩) z1).trans f2
          have z4 := block_lt_of_cell f4
          have cg4 := (hb12.cell (p := ⟨g, o + i * 4 + 2, none⟩) tg).trans cg
          have tg4 : g < w12.heap.size := Nat.lt_of_lt_of_le tg hb12.size
          have HBg4 := Lib.hid (HBg.out.later hb12)
          have HR4 := Lib.hid (HR3.out.later hb12)
          clear f2 z1 cg tg hup HBg HR3
          replace hW := over hW hb12
          replace W0 := over W0 hb12
          clear c5 t5 c13 t13
          replace B5 := B5.later hb12
          replace B13 := B13.later hb12
          have c5 := B5.cell; have t5 := B5.lt; have c13 := B13.cell; have t13 := B13.lt
          rw [HEa.out] at c5
          clear hb12
          rcases HNg.out with ⟨h1, h2, h3⟩ | ⟨h2, n, h1, hn1, hn2, hn3⟩
          · have hpos : 0 < ql.length := by
              refine Nat.pos_of_ne_zero fun h => ?_
              have h5 := HFree.out.1 (List.length_eq_zero_iff.1 h)
              rw [h3 u (by omega)] at h5; cases h5
            subst h2
            clear h1 h3 HNg
            go_wp2_with fail
            refine (awake_any _).mono ?_
            rintro e w13 ⟨rfl, hbx⟩
            replace hW := over hW hbx
            clear hbx
            go_wp2_with fail
            go_ret
            exact ⟨rfl, hW⟩
          · subst h1
            subst h2
            have HPos : Hid ((u : Int) < (n : Int) → (0 : Int) < (ql.length : Int)) := fun hun => by
              have hpos : 0 < ql.length := by
                refine Nat.pos_of_ne_zero fun h => ?_
                have h5 := HFree.out.1 (List.length_eq_zero_iff.1 h)
                rw [hn3 u (by omega)] at h5; cases h5
              omega
            have HZero : Hid (¬ (u : Int) < (n : Int) → ql = []) := fun hun => HFree.out.2 (freeAt_mono (rd_base HR.out.chk) z0 y0 (show (0 : Int) ≤ (n : Int) by omega) (by omega) hn2)
            have HN2 := Lib.hid hn2
            have HN1 : Hid (decide ((1000 : Int) < a.Z + (n : Int)) = false) := decide_eq_false (by omega)
            clear hn2 hn3 HNg HFree
            have hor : (u : Int) < (n : Int) ∨ ((n : Int) ≤ (u : Int) ∧ ql = []) := by
              by_cases hun : (u : Int) < (n : Int)
              · exact .inl hun
              · exact .inr ⟨by omega, HZero.out hun⟩
            rcases hor with hun | ⟨hun, rfl⟩
            · have hpos := HPos.out hun
              clear HPos HZero
              go_upto_region 24 with fail
              go_cut [164] (fun s164 wx => s164 = .bool false ∧ wx = w12)
              case first =>
                go_wp2_with fail
                go_meet
                exact ⟨by first | rfl | exact congrArg Value.bool HN1.out | exact congrArg Value.bool (by rw [HN1.out, Bool.or_false]; exact decide_eq_false (by omega)), rfl⟩
              case rest =>
                obtain ⟨rfl, rfl⟩ := hcut
                go_upto_region 26 with fail
                go_cut [177] (fun _ wx => ∃ W6 : World, Below wc.heap.size wc W6 ∧ wx = W6.setCell ⟨g, o + i * 4 + 2, none⟩ (.int .i64 (a.Z + n)))
                case first =>
                  refine Fat.wp_region_tail 13 (by kernel_rfl) (by kernel_rfl) ?_
                  simp only [List.take_succ_cons, List.drop_succ_cons, List.take_zero, List.drop_zero]
                  repeat (go_big_quiet_step (fail))
                  refine wpQuiet_nil ?_
                  intro W6 hb6
                  have cg6 := (hb6.cell (p := ⟨g, o + i * 4 + 2, none⟩) tg4).trans cg4
                  have fg := (HBg4.out.later hb6).frozen
                  go_wp2_with fail
                  go_meet
                  exact ⟨W6, hb6, rfl⟩
                case rest =>
                  obtain ⟨W6, hb6, hcut⟩ := hcut
                  have ho := HHo.out
                  subst ho
                  rw [Nat.zero_add] at hcut
                  have hR6 := HR4.out.later hb6
                  obtain ⟨g', cur', hq', hgn', hBg', _, hset'⟩ := hR6.set hst2
                  obtain rfl : g = g' := by
                    have h := hq'
                    simp only at h
                    rw [HQ2.out] at h
                    cases h; rfl
                  have hsetr := hset' 2 (.int .i64 (a.Z + n)) (a.upBy n) (by decide) rfl
                  rw [← hcut, HL'.out, set_set] at hsetr
                  have hbut : But g W6 wc := by rw [hcut]; exact setCell_but _ _ _ _
                  replace hW : Below w.heap.size w wc := hbut.below (over hW hb6) (by omega)
                  have hne13 : n13 ≠ g := fun e => by
                    have h := B13
                    have h' := HBg4.out
                    rw [e] at h
                    unfold Box at h h'
                    rw [h'] at h
                    cases h
                  have D13 := hbut.box (B13.later hb6) hne13
                  obtain ⟨L2, hL2⟩ : ∃ L2, L2 = L.setSt i (a.upBy n) := ⟨_, rfl⟩
                  have hlen : L2.st.length = L.st.length := by rw [hL2]; simp [Land.setSt]
                  have hready : Ready L2 := by rw [hL2]; exact ready_up HR.out HSti.out (by omega) hn1
                  have hnil : L2.rbs i j = [] := by rw [hL2]; exact (rbs_free HSti.out HStj.out HIJ.out (n : Int)).2 HN2.out
                  have hLA : LandAt wc ⟨some ⟨g, 0, none⟩, y1, x2, y2, x3, y3, x4, y4⟩ L2 := by
                    have h := hsetr.at
                    rw [← hL2] at h
                    rw [← HQ2.out]; exact h
                  have hland := land_any ⟨some ⟨g, 0, none⟩, y1, x2, y2, x3, y3, x4, y4⟩ L2 wc hLA (small_of hready.chk)
                  rw [show L2.st.length = L.st.length from hlen, show L2.rd.length = L.rd.length by rw [hL2]; rfl, show L2.cs.length = L.cs.length by rw [hL2]; rfl, show L2.sn.length = L.sn.length by rw [hL2]; rfl] at hland
                  have HLand := Lib.hid hland
                  have HWalls : Hid (∀ (q : LV) (W : World), LandAt W q L2 → Calls Try.prog 39 #[landV q L2, .int .i64 i, .int .i64 j, .int .i64 0, .int .i64 0] W (RetWalls ([], L2.cbs i j 0 0, 0) W)) := fun q W h => by
                    have h2 := Walls_any q L2 i j 0 0 W h (small_of hready.chk)
                    rw [wallsE_at0 hready (by rw [hlen]; exact p1) (by rw [hlen]; exact p2) HIJ.out, hnil] at h2
                    exact h2
                  clear hcut hsetr hset' hbut B5 B13 c5 t5 c13 t13 cg4 tg4 hne13 HBg4 hL2 hlen hready hLA hq hq' hgn hgn' hBg' hR6 HR4 hb6 HQ2 hst2 f4 z4 hnil hland W0 HR2
                  have B13 := D13
                  clear D13
                  have c13 := B13.cell; have t13 := B13.lt
                  go_wp2_with fail
                  refine HLand.out.mono ?_
                  rintro e w13 ⟨q4, rfl, hb13, hl13⟩
                  replace hW := over hW hb13
                  have HL13 := Lib.hid hl13
                  clear hb13 hl13 HLand B13 c13 t13
                  go_wp2_with fail
                  refine (HWalls.out q4 w13 HL13.out).mono ?_
                  rintro e w14 ⟨_, _, _, _, rfl, hb14, _, _⟩
                  replace hW := over hW hb14
                  clear hb14 HWalls HL13
                  go_wp2_with fail
                  refine (awake_any _).mono ?_
                  rintro e w15 ⟨rfl, hbx⟩
                  replace hW := over hW hbx
                  clear hbx
                  go_wp2_with fail
                  go_ret
                  exact ⟨rfl, hW⟩
            · clear HPos HZero
              go_upto_region 24 with fail
              go_cut [164] (fun s164 wx => s164 = .bool false ∧ wx = w12)
              case first =>
                go_wp2_with fail
                go_meet
                exact ⟨by first | rfl | exact congrArg Value.bool HN1.out | exact congrArg Value.bool (by rw [HN1.out, Bool.or_false]; exact decide_eq_false (by omega)), rfl⟩
              case rest =>
                obtain ⟨rfl, rfl⟩ := hcut
                go_upto_region 26 with fail
                go_cut [177] (fun _ wx => ∃ W6 : World, Below wc.heap.size wc W6 ∧ wx = W6.setCell ⟨g, o + i * 4 + 2, none⟩ (.int .i64 (a.Z + n)))
                case first =>
                  refine Fat.wp_region_tail 13 (by kernel_rfl) (by kernel_rfl) ?_
                  simp only [List.take_succ_cons, List.drop_succ_cons, List.take_zero, List.drop_zero]
                  repeat (go_big_quiet_step (fail))
                  refine wpQuiet_nil ?_
                  intro W6 hb6
                  have cg6 := (hb6.cell (p := ⟨g, o + i * 4 + 2, none⟩) tg4).trans cg4
                  have fg := (HBg4.out.later hb6).frozen
                  go_wp2_with fail
                  go_meet
                  exact ⟨W6, hb6, rfl⟩
                case rest =>
                  obtain ⟨W6, hb6, hcut⟩ := hcut
                  have ho := HHo.out
                  subst ho
                  rw [Nat.zero_add] at hcut
                  have hR6 := HR4.out.later hb6
                  obtain ⟨g', cur', hq', hgn', hBg', _, hset'⟩ := hR6.set hst2
                  obtain rfl : g = g' := by
                    have h := hq'
                    simp only at h
                    rw [HQ2.out] at h
                    cases h; rfl
                  have hsetr := hset' 2 (.int .i64 (a.Z + n)) (a.upBy n) (by decide) rfl
                  rw [← hcut, HL'.out, set_set] at hsetr
                  have hbut : But g W6 wc := by rw [hcut]; exact setCell_but _ _ _ _
                  replace hW : Below w.heap.size w wc := hbut.below (over hW hb6) (by omega)
                  have hne13 : n13 ≠ g := fun e => by
                    have h := B13
                    have h' := HBg4.out
                    rw [e] at h
                    unfold Box at h h'
                    rw [h'] at h
                    cases h
                  have D13 := hbut.box (B13.later hb6) hne13
                  obtain ⟨L2, hL2⟩ : ∃ L2, L2 = L.setSt i (a.upBy n) := ⟨_, rfl⟩
                  have hlen : L2.st.length = L.st.length := by rw [hL2]; simp [Land.setSt]
                  have hready : Ready L2 := by rw [hL2]; exact ready_up HR.out HSti.out (by omega) hn1
                  have hnil : L2.rbs i j = [] := by rw [hL2]; exact (rbs_free HSti.out HStj.out HIJ.out (n : Int)).2 HN2.out
                  have hLA : LandAt wc ⟨some ⟨g, 0, none⟩, y1, x2, y2, x3, y3, x4, y4⟩ L2 := by
                    have h := hsetr.at
                    rw [← hL2] at h
                    rw [← HQ2.out]; exact h
                  have hland := land_any ⟨some ⟨g, 0, none⟩, y1, x2, y2, x3, y3, x4, y4⟩ L2 wc hLA (small_of hready.chk)
                  rw [show L2.st.length = L.st.length from hlen, show L2.rd.length = L.rd.length by rw [hL2]; rfl, show L2.cs.length = L.cs.length by rw [hL2]; rfl, show L2.sn.length = L.sn.length by rw [hL2]; rfl] at hland
                  have HLand := Lib.hid hland
                  have HWalls : Hid (∀ (q : LV) (W : World), LandAt W q L2 → Calls Try.prog 39 #[landV q L2, .int .i64 i, .int .i64 j, .int .i64 0, .int .i64 0] W (RetWalls ([], L2.cbs i j 0 0, 0) W)) := fun q W h => by
                    have h2 := Walls_any q L2 i j 0 0 W h (small_of hready.chk)
                    rw [wallsE_at0 hready (by rw [hlen]; exact p1) (by rw [hlen]; exact p2) HIJ.out, hnil] at h2
                    exact h2
                  clear hcut hsetr hset' hbut B5 B13 c5 t5 c13 t13 cg4 tg4 hne13 HBg4 hL2 hlen hready hLA hq hq' hgn hgn' hBg' hR6 HR4 hb6 HQ2 hst2 f4 z4 hnil hland W0 HR2
                  have B13 := D13
                  clear D13
                  have c13 := B13.cell; have t13 := B13.lt
                  go_wp2_with fail
                  refine HLand.out.mono ?_
                  rintro e w13 ⟨q4, rfl, hb13, hl13⟩
                  replace hW := over hW hb13
                  have HL13 := Lib.hid hl13
                  clear hb13 hl13 HLand B13 c13 t13
                  go_wp2_with fail
                  refine (HWalls.out q4 w13 HL13.out).mono ?_
                  rintro e w14 ⟨_, _, _, _, rfl, hb14, _, _⟩
                  replace hW := over hW hb14
                  clear hb14 HWalls HL13
                  go_wp2_with fail
                  refine (awake_any _).mono ?_
                  rintro e w15 ⟨rfl, hbx⟩
                  replace hW := over hW hbx
                  clear hbx
                  go_wp2_with fail
                  go_ret
                  exact ⟨rfl, hW⟩
end Go.Proofs.Ytmfnkmmbihmjnaa
