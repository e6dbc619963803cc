/- The statement on the latest start, and the vital stations: its walk. -/
import Derived.Test.YtfihdaoakfdlpaaGreatRAwk
import Derived.Test.YtfihdaoakfdlpaaGreatRE
import Derived.Test.YtfihdaoakfdlpaaGreatWD
import Derived.Deep.DeepCutAuto
import Derived.Deep.CutBlock
open Go.RowKit
namespace Go.Proofs.YtfihdaoakfdlpaaGreat
open Go.Hill

theorem askr_zero {L : Land} {fr ta st k : Int} (h : L.askr fr ta st k = 0) : L.chk = 0 ∧ ∃ f t s c : Nat, fr = f ∧ ta = t ∧ st = s ∧ k = c ∧ f < L.st.length ∧ t < L.st.length ∧ s ≤ L.sn.length ∧ c < L.cs.length := by
  by_cases hc : L.chk = 0
  · rw [askr_two hc] at h
    split at h
    · exact ⟨hc, okr_two (by assumption)⟩
    · omega
  · rw [askr_bad hc] at h; exact absurd h hc
theorem latE_no {L : Land} {fr ta u : Int} {x : Int × Int} (h : Land.latE L fr ta u = x) (h0 : L.askr fr ta u 0 ≠ 0) : x = (0, L.askr fr ta u 0) := by
  rw [← h, Land.latE, if_neg h0]
theorem latE_yes {L : Land} {f t u : Nat} {x : Int × Int} (h : Land.latE L f t u = x) (h0 : L.askr f t u 0 = 0) : x = if L.lat f t u = -1 then (0, 10) else (L.lat f t u, 0) := by
  rw [← h, Land.latE, if_pos h0]; rfl
theorem vitE_no {L : Land} {fr ta u : Int} {x : List Int × Int} (h : Land.vitE L fr ta u = x) (h0 : L.askr fr ta u 0 ≠ 0) : x = ([], L.askr fr ta u 0) := by
  rw [← h, Land.vitE, if_neg h0]
theorem vitE_yes {L : Land} {f t u : Nat} {x : List Int × Int} (h : Land.vitE L f t u = x) (h0 : L.askr f t u 0 = 0) : x = if (L.sn.length : Int) < (L.sur f t u (-1)).1 then ([], 10) else (L.vit f t u, 0) := by
  rw [← h, Land.vitE, if_pos h0]; rfl
theorem lat_neg {L : Land} {f t u : Nat} : L.lat f t u = -1 ∨ 0 ≤ L.lat f t u := by
  unfold Land.lat
  rcases lastF_cases (fun s => decide ((L.sur f t s (-1)).1 ≤ u)) (u + 1) with ⟨h, _⟩ | ⟨k, h, _⟩
  · exact .inl h
  · right; rw [h]; omega
theorem stk_pos {L : Land} {f t s : Nat} {out : Int} : 0 < (L.stk f t s out).length ↔ (L.sn.length : Int) < (L.sur f t s out).1 := by
  rw [List.length_pos_iff, ne_eq, stk_nil]; omega
theorem vitE_len (L : Land) (fr ta st : Int) : (Land.vitE L fr ta st).1.length ≤ L.st.length := by
  unfold Land.vitE
  split
  · split
    · simp
    · exact sel_len _ _
  · simp
set_option maxRecDepth 100000 in
set_option maxHeartbeats 8000000 in
theorem RelayLatest_any (q : LV) (L : Land) (fr ta st u : Int) (w : World) (hL : LandAt w q L) (hs : Sane L) :
    Calls Tryz.prog 3 #[landV q L, .int .i64 fr, .int .i64 ta, .int .i64 st, .int .i64 u] w (Ret (.bool true) w) := by
  obtain ⟨tv, htv⟩ : ∃ tv, tv = thinB L := ⟨_, rfl⟩
  have HThin : Hid (∀ W, Below w.heap.size w W → Calls Tryz.prog 13 #[landV q L] W (Ret (.bool tv) W)) := fun W hW => by rw [htv]; exact thin_any q L W (hL.later hW) hs
  have HL := Lib.hid hL
  have HTv := Lib.hid htv
  clear hL hs htv
  go_enter Tryz.func3, Tryz.ntmps3
  go_wp2_with fail
  refine named1 (p := fun W => Calls _ _ _ W _) ?_
  intro W hW B5
  refine (HThin.out W hW).mono ?_
  rintro e w1 ⟨rfl, hb1⟩
  replace hW := over hW hb1
  (try clear c5 t5); replace B5 := B5.later hb1; have c5 := B5.cell; have t5 := B5.lt
  clear hb1 HThin
  cases tv with
  | false =>
    go_wp2_with fail
    refine (awake_any _).mono ?_
    rintro e w2 ⟨rfl, hb2⟩
    replace hW := over hW hb2
    clear hb2
    go_wp2_with fail
    go_ret
    exact ⟨rfl, hW⟩
  | true =>
    have hs := thin_small HTv.out.symm
    have HS := Lib.hid hs
    clear hs
    go_wp2_with fail
    refine (land_any q L w1 (HL.out.later hW) HS.out).mono ?_
    rintro e w2 ⟨q1, rfl, hbx, hlx⟩
    replace hW := over hW hbx
    (try clear c5 t5); replace B5 := B5.later hbx; have c5 := B5.cell; have t5 := B5.lt
    have HL2 := Lib.hid hlx
    clear hbx hlx
    go_wp2_with fail
    obtain ⟨⟨sv, se⟩, hla⟩ : ∃ r, Land.latE L fr ta u = r := ⟨_, rfl⟩
    have HLa := Lib.hid hla
    clear hla
    refine (Latest_any q1 L fr ta u w2 HL2.out HS.out).mono ?_
    rw [HLa.out]
    rintro e w3 ⟨rfl, hb3⟩
    replace hW := over hW hb3
    (try clear c5 t5); replace B5 := B5.later hb3; have c5 := B5.cell; have t5 := B5.lt
    clear hb3 HL2
    go_wp2_with fail
    refine (land_any q L w3 (HL.out.later hW) HS.out).mono ?_
    rintro e w4 ⟨q2, rfl, hbx, hlx⟩
    replace hW := over hW hbx
    (try clear c5 t5); replace B5 := B5.later hbx; have c5 := B5.cell; have t5 := B5.lt
    have HL4 := Lib.hid hlx
    clear hbx hlx
    go_wp2_with fail
    obtain ⟨⟨vl, ve⟩, hvi⟩ : ∃ r, Land.vitE L fr ta st = r := ⟨_, rfl⟩
    have HVi := Lib.hid hvi
    clear hvi
    refine (Vital_any q2 L fr ta st w4 HL4.out HS.out).mono ?_
    rw [HVi.out]
    rintro e w5 ⟨va, vc, rfl, hb5, hi5⟩
    replace hW := over hW hb5
    (try clear c5 t5); replace B5 := B5.later hb5; have c5 := B5.cell; have t5 := B5.lt
    have HI5 := Lib.hid (show IntsAt w5 va vl from hi5)
    clear hb5 hi5 HL4
    go_wp2_with fail
    obtain ⟨a1, ha1⟩ : ∃ a, a = L.askr fr ta u 0 := ⟨_, rfl⟩
    obtain ⟨a2, ha2⟩ : ∃ a, a = L.askr fr ta st 0 := ⟨_, rfl⟩
    have C1 : Hid (∀ W, Below w5.heap.size w5 W → Calls Tryz.prog 18 #[landV q L, .int .i64 fr, .int .i64 ta, .int .i64 u, .int .i64 0] W (Ret (.int .i64 a1) W)) := fun W hb => by rw [ha1]; exact asked3_any q L fr ta u 0 W (HL.out.later (over hW hb)) HS.out
    have C2 : Hid (∀ W, Below w5.heap.size w5 W → Calls Tryz.prog 18 #[landV q L, .int .i64 fr, .int .i64 ta, .int .i64 st, .int .i64 0] W (Ret (.int .i64 a2) W)) := fun W hb => by rw [ha2]; exact asked3_any q L fr ta st 0 W (HL.out.later (over hW hb)) HS.out
    have HA1 := Lib.hid ha1
    have HA2 := Lib.hid ha2
    clear ha1 ha2
    refine Fat.wp_region_tail 12 (by kernel_rfl) (by kernel_rfl) ?_
    simp only [List.take_succ_cons, List.drop_succ_cons, List.take_nil, List.drop_nil]
    repeat (go_big_quiet_step ((first | with_reducible exact Calls.regrown_of (C1.out _ (below_regrown _ _ _)) | with_reducible exact Calls.regrown_of (C2.out _ (below_regrown _ _ _)))))
    refine wpQuiet_nil ?_
    intro w6 hb6
    replace hW := over hW hb6
    (try clear c5 t5); replace B5 := B5.later hb6; have c5 := B5.cell; have t5 := B5.lt
    have HI6 := Lib.hid (HI5.out.later hb6)
    clear hb6 HI5 C1 C2
    go_upto_if 53 with fail
    go_cut [15, 17] (fun s15 s17 wx => s15 = .int .i64 se ∧ s17 = .int .i64 sv ∧ Below w6.heap.size w6 wx)
    case first =>
      by_cases h0 : a1 = 0
      · subst h0
        obtain ⟨hc, f, t, s, c0, rfl, rfl, rfl, hz, hf, ht, hs', hzz⟩ := askr_zero HA1.out.symm
        clear hz hzz c0
        have hx := latE_yes HLa.out HA1.out.symm
        have hn := lat_neg (L := L) (f := f) (t := t) (u := s)
        have HC := Lib.hid (rLatest3_any q L f t s w6 (HL.out.later hW) hc hf ht hs')
        generalize L.lat f t s = lv at *
        have HX := Lib.hid hx
        clear hx hc
        go_wp2_with fail
        refine HC.out.mono ?_
        rintro e w7 ⟨rfl, hb7⟩
        clear HC B5 c5 t5 hW
        rcases hn with rfl | hn
        · have hx := HX.out
          rw [if_pos rfl] at hx
          simp only [Prod.mk.injEq] at hx
          obtain ⟨rfl, rfl⟩ := hx
          clear HX
          go_wp2_with fail
          go_meet
          exact ⟨rfl, rfl, hb7⟩
        · have hx := HX.out
          rw [if_neg (by omega)] at hx
          simp only [Prod.mk.injEq] at hx
          obtain ⟨rfl, rfl⟩ := hx
          clear HX
          go_wp2_with fail
          go_meet
          exact ⟨rfl, rfl, hb7⟩
      · have h0b : (a1 == 0) = false := by simpa using h0
        have hx := latE_no HLa.out (by rw [← HA1.out]; exact h0)
        rw [← HA1.out] at hx
        simp only [Prod.mk.injEq] at hx
        obtain ⟨rfl, rfl⟩ := hx
        clear h0
        go_wp2_with fail
        go_meet
        exact ⟨rfl, rfl, Below.refl _ _⟩
    case rest =>
      obtain ⟨rfl, rfl, hbc⟩ := hcut
      replace hW := over hW hbc
      (try clear c5 t5); replace B5 := B5.later hbc; have c5 := B5.cell; have t5 := B5.lt
      have HI7 := Lib.hid (HI6.out.later hbc)
      clear hbc HI6 HLa HA1
      go_upto_if 62 with fail
      go_cut [16, 18] (fun s16 s18 wx => ∃ a c, s16 = .int .i64 ve ∧ s18 = .slice a vl.length c ∧ Below wc.heap.size wc wx ∧ IntsAt wx a vl)
      case first =>
        by_cases h0 : a2 = 0
        · subst h0
          obtain ⟨hc, f, t, s, c0, rfl, rfl, rfl, hz, hf, ht, hs', hzz⟩ := askr_zero HA2.out.symm
          clear hz hzz c0
          have hx := vitE_yes HVi.out HA2.out.symm
          have HC := Lib.hid (rStuck3_any q L f t s (-1) wc (HL.out.later hW) hc hf ht hs')
          have hp := stk_pos (L := L) (f := f) (t := t) (s := s) (out := -1)
          have n6 := st_six hc
          generalize L.stk f t s (-1) = sl at *
          have HX := Lib.hid hx
          have HCk := Lib.hid hc
          clear hx hc
          go_wp2_with fail
          refine HC.out.mono ?_
          rintro e w7 ⟨sa, scp, rfl, hb7, hi7⟩
          replace hW := over hW hb7
          have HB5 := Lib.hid (B5.later hb7)
          clear HC B5 c5 t5 hi7
          by_cases hgt : (L.sn.length : Int) < (L.sur f t s (-1)).1
          · have hx := HX.out
            rw [if_pos hgt] at hx
            simp only [Prod.mk.injEq] at hx
            obtain ⟨rfl, rfl⟩ := hx
            have r1 : (0 : Int) < (sl.length : Int) := by have := hp.2 hgt; omega
            clear HX hp hgt
            go_wp2_with fail
            go_loopw [18, 19] (fun v' i' wr => v' = .slice none 0 0 ∧ i' = .int .i64 0 ∧ wr = w7) (fun _ _ _ => 0)
            case atStart => exact ⟨rfl, rfl, rfl⟩
            case round =>
              obtain ⟨rfl, rfl, rfl⟩ := hrel
              have B5 := HB5.out
              have c5 := B5.cell; have t5 := B5.lt
              have hlt := n6.2.1
              clear n6
              go_wp2_with fail
              go_meet
              exact ⟨none, 0, rfl, rfl, hb7, .inl rfl⟩
          · have hx := HX.out
            rw [if_neg hgt] at hx
            simp only [Prod.mk.injEq] at hx
            obtain ⟨rfl, rfl⟩ := hx
            obtain rfl : sl = [] := List.eq_nil_of_length_eq_zero (by have := mt hp.1 hgt; omega)
            obtain ⟨p, hpp⟩ : ∃ p : Nat → Bool, p = fun i => i != f && (i != t && decide ((L.sn.length : Int) < (L.sur f t s i).1)) := ⟨_, rfl⟩
            have HVt : Hid (L.vit f t s = sel p L.st.length) := by rw [hpp]; rfl
            have HP : Hid (∀ i, p i = (i != f && (i != t && decide (0 < (L.stk f t s i).length)))) := fun i => by rw [hpp]; simp only [decide_eq_decide.2 stk_pos]
            clear HX hp hgt hpp
            go_wp2_with fail
            go_loopw [18, 19] (fun v' i' wr => ∃ i : Nat, i ≤ L.st.length ∧ i' = .int .i64 i ∧ Below w7.heap.size w7 wr ∧ Own wr w7.heap.size 3 1 v' (ivs (sel p i))) (fun _ i' _ => L.st.length - (intOf i').toNat)
            case atStart => exact ⟨0, Nat.zero_le _, rfl, Below.refl _ _, Own.nil _ _ _ _⟩
            case round =>
              obtain ⟨i, hi, rfl, hb, hO⟩ := hrel
              have HO := Lib.hid hO
              have B5 := HB5.out.later hb
              clear hO
              have c5 := B5.cell; have t5 := B5.lt
              by_cases hlt : i < L.st.length
              · have HPi := Lib.hid (HP.out i)
                by_cases e1 : i = f
                · subst e1
                  have hpf : p i = false := by rw [HPi.out]; simp
                  have HPf := Lib.hid hpf
                  clear hpf HPi
                  go_wp2_with fail
                  go_roundw
                  case rel => exact ⟨i + 1, by omega, by go_num, hb, by rw [sel_no HPf.out]; exact HO.out⟩
                  case measure => simp [intOf]; omega
                · have r2 : ((i : Int) != (f : Int)) = true := by simp; omega
                  by_cases e2 : i = t
                  · subst e2
                    have hpf : p i = false := by rw [HPi.out]; simp
                    have HPf := Lib.hid hpf
                    clear hpf HPi
                    go_wp2_with fail
                    go_roundw
                    case rel => exact ⟨i + 1, by omega, by go_num, hb, by rw [sel_no HPf.out]; exact HO.out⟩
                    case measure => simp [intOf]; omega
                  · have r3 : ((i : Int) != (t : Int)) = true := by simp; omega
                    have HE := Lib.hid (rStuck3_any q L f t s i wr (HL.out.later (over hW hb)) HCk.out hf ht hs')
                    generalize L.stk f t s i = l2 at *
                    go_wp2_with fail
                    refine HE.out.mono ?_
                    rintro e w8 ⟨ya, yc, rfl, hb8, _⟩
                    replace hb := over hb hb8
                    replace HO := Lib.hid (HO.out.later hb8)
                    clear HE hb8 c5 t5 B5
                    by_cases hpos : 0 < l2.length
                    · have r4 : (0 : Int) < (l2.length : Int) := by omega
                      have hpt : p i = true := by rw [HPi.out]; simp [e1, e2, hpos]
                      have hn := sel_len p i
                      have HPt := Lib.hid hpt
                      have hszb := hb.size
                      clear hpt HPi hpos
                      go_wp2_with (at_builtin; refine named1 (p := wpList _ _ _ _ _) ?_; intro w9 hb9 B53; have hO := HO.out.later hb9; refine wpList_grow rfl (.tmp 99) (.tmp 101) 40 rfl elem_int rfl hO rfl B53 rfl (by omega) rfl (n := (sel p i).length) (by simp) (by omega) (by omega) (Nat.le_trans hszb hb9.size) ?_; intro a' c' W' hO' hb' hg'; have hb := (over hb hb9).trans hb'; clear hg' hO B53 hb' hb9)
                      have HN : Hid (Own W' w7.heap.size 3 1 (.slice a' ((sel p i).length + 1) c') (ivs (sel p (i + 1)))) := by
                        rw [Hid, sel_yes HPt.out, ivs, List.map_append]; exact hO'
                      clear hO'
                      go_roundw
                      case rel => exact ⟨i + 1, by omega, by go_num, hb, HN.out⟩
                      case measure => simp [intOf]; omega
                    · have hpf : p i = false := by rw [HPi.out]; simp [hpos]
                      have HPf := Lib.hid hpf
                      obtain rfl : l2 = [] := List.eq_nil_of_length_eq_zero (by omega)
                      clear hpf HPi hpos
                      go_wp2_with fail
                      go_roundw
                      case rel => exact ⟨i + 1, by omega, by go_num, hb, by rw [sel_no HPf.out]; exact HO.out⟩
                      case measure => simp [intOf]; omega
              · obtain rfl : i = L.st.length := by omega
                obtain ⟨ra, rc, rfl, _, hr⟩ := HO.out.row
                rw [List.length_map]
                have HRw := Lib.hid hr
                have hWb := over hb7 hb
                clear hr HO
                go_wp2_with fail
                go_meet
                exact ⟨ra, rc, rfl, by rw [HVt.out], hWb, by rw [HVt.out]; exact HRw.out⟩
        · have h0b : (a2 == 0) = false := by simpa using h0
          have hx := vitE_no HVi.out (by rw [← HA2.out]; exact h0)
          rw [← HA2.out] at hx
          simp only [Prod.mk.injEq] at hx
          obtain ⟨rfl, rfl⟩ := hx
          clear h0
          go_wp2_with fail
          go_meet
          exact ⟨none, 0, rfl, rfl, Below.refl _ _, .inl rfl⟩
      case rest =>
        obtain ⟨da, dc, rfl, rfl, hbc, hid⟩ := hcut
        replace hW := over hW hbc
        have HI8 := Lib.hid (HI7.out.later hbc)
        have HD8 := Lib.hid hid
        have hlen : vl.length ≤ 1000 := by
          have h1 := vitE_len L fr ta st
          rw [HVi.out] at h1
          exact Nat.le_trans h1 HS.out.l1
        have HY := Lib.hid (ints3_yes vl va da vc dc wc HI8.out HD8.out hlen)
        clear hbc hid HI7 HI8 HD8 hlen B5 c5 t5
        go_wp2_with fail
        refine HY.out.mono ?_
        rintro e w7 ⟨rfl, hb7⟩
        replace hW := over hW hb7
        clear hb7 HY
        go_wp2_with fail
        refine (awake_any _).mono ?_
        rintro e w8 ⟨rfl, hb8⟩
        replace hW := over hW hb8
        clear hb8
        go_wp2_with fail
        go_ret
        exact ⟨rfl, hW⟩
end Go.Proofs.YtfihdaoakfdlpaaGreat
