/- The statement on whom a station reaches: its walk. -/
import Derived.Test.YtmfnkmmbihmjnaaAwake2
import Derived.Test.YtmfnkmmbihmjnaaRef2
import Derived.Test.YtmfnkmmbihmjnaaW11
import Derived.Test.YtmfnkmmbihmjnaaW15
import Derived.Deep.DeepCutAuto
import Derived.Deep.CutBlock
open Go.RowKit
namespace Go.Proofs.Ytmfnkmmbihmjnaa
open Go.Hill

theorem rchE_in {L : Land} {fr k t : Int} (hc : L.chk = 0) (b1 b2 b3 : Bool) (h1 : b1 = inB fr 0 ((L.st.length : Int) - 1)) (h2 : b2 = inB k 0 ((L.cs.length : Int) - 1)) (h3 : b3 = inB t 0 ((L.sn.length : Int) - 1)) :
    Land.rchE L fr k t = if (b1 && b2 && b3) = true then (L.rch fr.toNat k.toNat t.toNat, 0) else ([], 2) := by
  unfold Land.rchE Land.ask2 askd
  rw [if_pos hc, ← h1, ← h2, ← h3]
  cases b1 <;> cases b2 <;> cases b3 <;> simp

set_option maxRecDepth 100000 in
set_option maxHeartbeats 4000000 in
theorem HillReaches_any (q : LV) (L : Land) (fr ta k t : Int) (w : World) (hL : LandAt w q L) (hs : Sane L) :
    Calls Try.prog 3 #[landV q L, .int .i64 fr, .int .i64 ta, .int .i64 k, .int .i64 t] w (Ret (.bool true) w) := by
  obtain ⟨tv, htv⟩ : ∃ tv, tv = thinB L := ⟨_, rfl⟩
  have HThin : Hid (∀ W, Below w.heap.size w W → Calls Try.prog 17 #[landV q L] W (Ret (.bool tv) W)) := fun W hW => by rw [htv]; exact thin_any q L W (hL.later hW) hs
  have HL := Lib.hid hL
  have HTv := Lib.hid htv
  clear hL hs htv
  go_enter Try.func3, Try.ntmps3
  go_wp2_with fail
  refine named1 (p := fun W => Calls _ _ _ W _) ?_
  intro W hW B5
  refine (HThin.out W hW).mono ?_
  rintro e w1 ⟨rfl, hb1⟩
  replace hW := over hW hb1
  (try clear c5 t5); replace B5 := B5.later hb1; have c5 := B5.cell; have t5 := B5.lt
  clear hb1 HThin
  cases tv with
  | false =>
    go_wp2_with fail
    refine (awake_any _).mono ?_
    rintro e w2 ⟨rfl, hb2⟩
    replace hW := over hW hb2
    go_wp2_with fail
    go_ret
    exact ⟨rfl, hW⟩
  | true =>
    have hs := thin_small HTv.out.symm
    have l1 := hs.l1
    have l3 := hs.l3
    have l4 := hs.l4
    have HS := Lib.hid hs
    clear hs
    go_wp2_with fail
    refine (land_any q L w1 (HL.out.later hW) HS.out).mono ?_
    rintro e w2 ⟨q1, rfl, hb2, hl2⟩
    replace hW := over hW hb2
    (try clear c5 t5); replace B5 := B5.later hb2; have c5 := B5.cell; have t5 := B5.lt
    have HL2 := Lib.hid hl2
    clear hb2 hl2
    go_wp2_with fail
    obtain ⟨⟨rl, re⟩, hrch⟩ : ∃ r, Land.rchE L fr k t = r := ⟨_, rfl⟩
    have HRch := Lib.hid hrch
    clear hrch
    refine (Reach_any q1 L fr k t w2 HL2.out HS.out).mono ?_
    rw [HRch.out]
    rintro e w3 ⟨ra, rc, rfl, hb3, hi3⟩
    replace hW := over hW hb3
    (try clear c5 t5); replace B5 := B5.later hb3; have c5 := B5.cell; have t5 := B5.lt
    have HI3 := Lib.hid hi3
    clear hb3 hi3 HL2
    go_wp2_with fail
    refine (land_any q L w3 (HL.out.later hW) HS.out).mono ?_
    rintro e w4 ⟨q2, rfl, hb4, hl4⟩
    replace hW := over hW hb4
    (try clear c5 t5); replace B5 := B5.later hb4; have c5 := B5.cell; have t5 := B5.lt
    have HI4 := Lib.hid (HI3.out.later hb4)
    have HL4 := Lib.hid hl4
    clear hb4 hl4 HI3
    go_wp2_with fail
    obtain ⟨⟨mv, me⟩, hmir⟩ : ∃ r, Land.mirE L fr ta t = r := ⟨_, rfl⟩
    have HMir := Lib.hid hmir
    clear hmir
    refine (Mirrors_any q2 L fr ta t w4 HL4.out HS.out).mono ?_
    rw [HMir.out]
    rintro e w5 ⟨rfl, hb5⟩
    replace hW := over hW hb5
    (try clear c5 t5); replace B5 := B5.later hb5; have c5 := B5.cell; have t5 := B5.lt
    have HI5 := Lib.hid (HI4.out.later hb5)
    clear hb5 HI4 HL4
    go_wp2_with fail
    obtain ⟨cv, hcv⟩ : ∃ c, c = L.chk := ⟨_, rfl⟩
    have HFault : Hid (Calls Try.prog 22 #[landV q L] w5 (Ret (.int .i64 cv) w5)) := by rw [hcv]; exact lfault_any q L w5 (HL.out.later hW) HS.out
    have HCv := Lib.hid hcv
    clear hcv
    refine HFault.out.mono ?_
    rintro e w6 ⟨rfl, hb6⟩
    replace hW := over hW hb6
    (try clear c5 t5); replace B5 := B5.later hb6; have c5 := B5.cell; have t5 := B5.lt
    have HI6 := Lib.hid (HI5.out.later hb6)
    clear hb6 HI5 HFault
    obtain ⟨b1, h1⟩ : ∃ b, b = inB fr 0 ((L.st.length : Int) - 1) := ⟨_, rfl⟩
    obtain ⟨b2, h2⟩ : ∃ b, b = inB k 0 ((L.cs.length : Int) - 1) := ⟨_, rfl⟩
    obtain ⟨b3, h3⟩ : ∃ b, b = inB t 0 ((L.sn.length : Int) - 1) := ⟨_, rfl⟩
    have HIn1 : Hid (∀ W, Calls Try.prog 23 #[.int .i64 fr, .int .i64 0, .int .i64 ((L.st.length : Int) - 1)] W (Ret (.bool b1) W)) := fun W => by rw [h1]; exact in_any _ _ _ W
    have HIn2 : Hid (∀ W, Calls Try.prog 23 #[.int .i64 k, .int .i64 0, .int .i64 ((L.cs.length : Int) - 1)] W (Ret (.bool b2) W)) := fun W => by rw [h2]; exact in_any _ _ _ W
    have HIn3 : Hid (∀ W, Calls Try.prog 23 #[.int .i64 t, .int .i64 0, .int .i64 ((L.sn.length : Int) - 1)] W (Ret (.bool b3) W)) := fun W => by rw [h3]; exact in_any _ _ _ W
    have HRin : Hid (L.chk = 0 → Land.rchE L fr k t = if (b1 && b2 && b3) = true then (L.rch fr.toNat k.toNat t.toNat, 0) else ([], 2)) := fun hc => rchE_in hc b1 b2 b3 h1 h2 h3
    have HB1 := Lib.hid h1
    have HB2 := Lib.hid h2
    have HB3 := Lib.hid h3
    clear h1 h2 h3
    go_upto_region 6 with fail
    go_cut [71] (fun s71 wx => s71 = .bool (cv == 0 && !(b1 && b2 && b3)) ∧ Below w6.heap.size w6 wx)
    case first =>
      by_cases hc : cv = 0
      case neg =>
        have hcb : (cv == 0) = false := by simpa using hc
        clear hc
        go_wp2_with fail
        go_meet
        exact ⟨by simp [hcb], Below.refl _ _⟩
      subst hc
      go_wp2_with fail
      refine (HIn1.out _).mono ?_
      rintro e w7 ⟨rfl, hb7⟩
      (try clear c5 t5); replace B5 := B5.later hb7; have c5 := B5.cell; have t5 := B5.lt
      cases b1 with
      | false =>
        go_wp2_with fail
        go_meet
        exact ⟨by simp, hb7⟩
      | true =>
        go_wp2_with fail
        refine (HIn2.out _).mono ?_
        rintro e w8 ⟨rfl, hb8⟩
        (try clear c5 t5); replace B5 := B5.later hb8; have c5 := B5.cell; have t5 := B5.lt
        have hb9 := over hb7 hb8
        clear hb7 hb8
        cases b2 with
        | false =>
          go_wp2_with fail
          go_meet
          exact ⟨by simp, hb9⟩
        | true =>
          go_wp2_with fail
          refine (HIn3.out _).mono ?_
          rintro e w10 ⟨rfl, hb10⟩
          have hb11 := over hb9 hb10
          clear hb9 hb10 c5 t5 B5
          go_wp2_with fail
          go_meet
          exact ⟨by simp, hb11⟩
    case rest =>
      obtain ⟨rfl, hbc⟩ := hcut
      replace hW := over hW hbc
      (try clear c5 t5); replace B5 := B5.later hbc; have c5 := B5.cell; have t5 := B5.lt
      have HI7 := Lib.hid (HI6.out.later hbc)
      clear hbc HI6 HIn1 HIn2 HIn3
      obtain ⟨bv, hbv⟩ : ∃ bv, bv = (cv == 0 && !(b1 && b2 && b3)) := ⟨_, rfl⟩
      rw [← hbv]
      have HBv := Lib.hid hbv
      clear hbv
      -- what is wanted
      have HRe : Hid (re = if bv then 2 else cv) := by
        have h1 := HRch.out
        have h2 := HBv.out
        by_cases hc : cv = 0
        · subst hc
          have h3 := HRin.out HCv.out.symm
          rw [h1] at h3
          simp only [beq_self_eq_true, Bool.true_and] at h2
          cases hb : (b1 && b2 && b3) with
          | true =>
            rw [hb] at h2 h3; subst h2
            simp only [if_true, Prod.mk.injEq] at h3
            show re = if (!true) = true then 2 else 0
            simpa using h3.2
          | false =>
            rw [hb] at h2 h3; subst h2
            simp at h3
            show re = if (!false) = true then 2 else 0
            simpa using h3.2
        · have h4 : bv = false := by rw [h2]; simp [hc]
          subst h4
          rw [Land.rchE, if_neg (by rw [← HCv.out]; exact hc)] at h1
          simp only [Prod.mk.injEq] at h1
          show re = if false = true then 2 else cv
          rw [HCv.out]; simpa using h1.2.symm
      have HRl : Hid (rl = if re = 0 then L.rch fr.toNat k.toNat t.toNat else []) := by
        have h1 := HRch.out
        unfold Land.rchE at h1
        split at h1
        · split at h1
          · simp only [Prod.mk.injEq] at h1; obtain ⟨rfl, rfl⟩ := h1; rfl
          · simp only [Prod.mk.injEq] at h1; obtain ⟨rfl, rfl⟩ := h1; rfl
        · rename_i hc
          simp only [Prod.mk.injEq] at h1; obtain ⟨rfl, rfl⟩ := h1
          rw [Hid, if_neg hc]
      have HIdx : Hid (re = 0 → L.chk = 0 ∧ ∃ i c d : Nat, fr = i ∧ k = c ∧ t = d ∧ i < L.st.length ∧ c < L.cs.length ∧ d < L.sn.length) := fun h0 => by
        have h1 := HRch.out
        subst h0
        unfold Land.rchE at h1
        split at h1
        · rename_i hc
          split at h1
          · simp at h1
          · rename_i h2
            exact ⟨hc, askd_same h2⟩
        · rename_i hc
          simp only [Prod.mk.injEq] at h1
          exact absurd h1.2 hc
      go_upto_if 71 with fail
      go_cut [15] (fun s15 wx => s15 = .int .i64 re ∧ wx = wc)
      case first =>
        cases bv with
        | true =>
          go_wp2_with fail
          go_meet
          exact ⟨by rw [HRe.out]; rfl, rfl⟩
        | false =>
          go_wp2_with fail
          go_meet
          exact ⟨by rw [HRe.out]; rfl, rfl⟩
      case rest =>
        obtain ⟨rfl, rfl⟩ := hcut
        clear HRe HBv HRin HB1 HB2 HB3
        go_upto_block 0 with fail
        go_cut [16] (fun s16 wx => ∃ a c, s16 = .slice a rl.length c ∧ Below wc.heap.size wc wx ∧ IntsAt wx a rl)
        case first =>
          by_cases h0 : re = 0
          · subst h0
            obtain ⟨hc, i, c, d, rfl, rfl, rfl, hi, hk, ht⟩ := HIdx.out rfl
            have hrl : rl = sel (fun j => L.can i j c d) L.st.length := by have := HRl.out; simp at this; rw [this]; rfl
            have HRl2 := Lib.hid hrl
            have HC := Lib.hid hc
            clear hc hrl HIdx HRl
            go_wp2_with fail
            go_loopw [16, 17] (fun v i' wr => ∃ n : Nat, n ≤ L.st.length ∧ i' = .int .i64 n ∧ Below wc.heap.size wc wr ∧ Own wr wc.heap.size 3 1 v (ivs (sel (fun j => L.can i j c d) n))) (fun _ i' _ => L.st.length - (intOf i').toNat)
            case atStart => exact ⟨0, Nat.zero_le _, rfl, Below.refl _ _, Own.nil _ _ _ _⟩
            case round =>
              obtain ⟨n, hn, rfl, hb, ho⟩ := hrel
              have HO := Lib.hid ho
              clear ho
              clear c5 t5
              have D5 := B5.later hb
              have c5 := D5.cell
              have t5 := D5.lt
              by_cases hlt : n < L.st.length
              · obtain ⟨v, hv⟩ : ∃ v, v = L.can i n c d := ⟨_, rfl⟩
                have hcall := rCan_any q L i n c d wr (HL.out.later (over hW hb)) HC.out hi hlt hk ht
                rw [← hv] at hcall
                have HCall := Lib.hid hcall
                have HV := Lib.hid hv
                clear hcall hv
                go_wp2_with fail
                refine HCall.out.mono ?_
                rintro e w7 ⟨rfl, hb7⟩
                have HO7 := Lib.hid (HO.out.later hb7)
                have hb8 := over hb hb7
                clear hb hb7 HO HCall c5 t5 D5
                cases v with
                | false =>
                  go_wp2_with fail
                  go_roundw
                  case rel => exact ⟨n + 1, by omega, by go_num, hb8, by rw [sel_no (p := fun j => L.can i j c d) (n := n) HV.out.symm]; exact HO7.out⟩
                  case measure => simp [intOf]; omega
                | true =>
                  have hnl := sel_len (fun j => L.can i j c d) n
                  go_wp2_with (at_builtin; refine named1 (p := wpList _ _ _ _ _) ?_; intro w9 hb9 B53; have hO := HO7.out.later hb9; refine wpList_grow rfl (.tmp 89) (.tmp 91) 30 rfl elem_int rfl hO rfl B53 rfl (by omega) rfl (n := (sel (fun j => L.can i j c d) n).length) (by simp) (by omega) (by omega) (Nat.le_trans hb8.size hb9.size) ?_; intro a' c' W' hO' hb10 hg'; have hb := (over hb8 hb9).trans hb10; clear hg' hO B53 hb9 hb10)
                  have HN : Hid (Own W' wc.heap.size 3 1 (.slice a' ((sel (fun j => L.can i j c d) n).length + 1) c') (ivs (sel (fun j => L.can i j c d) (n + 1)))) := by
                    rw [Hid, sel_yes (p := fun j => L.can i j c d) (n := n) HV.out.symm, ivs, List.map_append]; exact hO'
                  clear hO'
                  go_roundw
                  case rel => exact ⟨n + 1, by omega, by go_num, hb, HN.out⟩
                  case measure => simp [intOf]; omega
              · obtain rfl : n = L.st.length := by omega
                obtain ⟨ra2, rc2, rfl, _, hr⟩ := HO.out.row
                rw [List.length_map]
                have HR := Lib.hid hr
                clear hr HO
                go_wp2_with fail
                go_meet
                exact ⟨ra2, rc2, by rw [HRl2.out], hb, by rw [HRl2.out]; exact HR.out⟩
          · have h0b : (re == 0) = false := by simpa using h0
            have hrl : rl = [] := by have := HRl.out; rw [if_neg h0] at this; exact this
            subst hrl
            clear h0 HRl HIdx
            go_wp2_with fail
            go_loopw [16, 17] (fun v i' wr => v = .slice none 0 0 ∧ i' = .int .i64 0 ∧ wr = wc) (fun _ _ _ => 0)
            case atStart => exact ⟨rfl, rfl, rfl⟩
            case round =>
              obtain ⟨rfl, rfl, rfl⟩ := hrel
              by_cases hlt : 0 < L.st.length
              all_goals
                go_wp2_with fail
                go_meet
                exact ⟨none, 0, rfl, Below.refl _ _, .inl rfl⟩
        case rest =>
          obtain ⟨da, dc, rfl, hbc, hid⟩ := hcut
          replace hW := over hW hbc
          (try clear c5 t5); replace B5 := B5.later hbc; have c5 := B5.cell; have t5 := B5.lt
          have HI8 := Lib.hid (HI7.out.later hbc)
          have HD8 := Lib.hid hid
          have hrlen : rl.length ≤ 1000 := by
            have := HRl.out
            rw [this]
            split
            · exact Nat.le_trans (sel_len _ _) l1
            · simp
          have HYes := Lib.hid (ints_yes rl ra da rc dc wc HI8.out HD8.out hrlen)
          clear hbc hid HI7 HI8 HD8 hrlen HRl HIdx HRch
          go_wp2_with fail
          refine HYes.out.mono ?_
          rintro e w7 ⟨rfl, hb7⟩
          replace hW := over hW hb7
          (try clear c5 t5); replace B5 := B5.later hb7; have c5 := B5.cell; have t5 := B5.lt
          clear hb7 HYes
          go_wp2_with fail
          obtain ⟨ak, hak⟩ : ∃ ak, ak = Land.ask L fr ta 0 t := ⟨_, rfl⟩
          have hask := lasked_any q L fr ta 0 t w7 (HL.out.later hW) HS.out
          rw [← hak] at hask
          have HAsk := Lib.hid hask
          have HAk := Lib.hid hak
          clear hask hak
          refine HAsk.out.mono ?_
          rintro e w8 ⟨rfl, hb8⟩
          replace hW := over hW hb8
          (try clear c5 t5); replace B5 := B5.later hb8; have c5 := B5.cell; have t5 := B5.lt
          clear hb8 HAsk
          by_cases h0 : ak = 0
          case neg =>
            have h0b : (ak == 0) = false := by simpa using h0
            have hm : (mv, me) = (0, ak) := by
              rw [← HMir.out]
              have h1 := HAk.out
              unfold Land.ask at h1
              unfold Land.mirE
              split at h1
              · rename_i hc
                rw [if_pos hc, if_neg (by unfold Land.ask2; rw [← h1]; exact h0), Land.ask2, ← h1]
              · rename_i hc
                rw [if_neg hc, ← h1]
            simp only [Prod.mk.injEq] at hm
            obtain ⟨rfl, rfl⟩ := hm
            clear h0 HMir HAk
            go_wp2_with fail
            refine (awake_any _).mono ?_
            rintro e w9 ⟨rfl, hb9⟩
            replace hW := over hW hb9
            clear hb9 c5 t5 B5
            go_wp2_with fail
            go_ret
            exact ⟨rfl, hW⟩
          subst h0
          have hc : L.chk = 0 := by
            have h1 := HAk.out
            unfold Land.ask at h1
            split at h1
            · assumption
            · exact h1.symm
          have h1 : askd L.st.length L.cs.length L.sn.length fr ta 0 t = 0 := by
            have h1 := HAk.out
            unfold Land.ask at h1
            rw [if_pos hc] at h1
            exact h1.symm
          have hm := HMir.out
          rw [Land.mirE, if_pos hc, if_pos (show Land.ask2 L fr ta 0 t = 0 from h1)] at hm
          obtain ⟨i, j, c, d, rfl, rfl, hk0, rfl, hi, hj, hkk, ht, _⟩ := askd_zero h1
          simp only [Int.toNat_natCast] at hm
          clear hk0 hkk h1 HMir HAk
          obtain ⟨a, ha⟩ := some_of hi
          obtain ⟨b, hb⟩ := some_of hj
          obtain ⟨s, hs⟩ := some_of ht
          have hF := fits hc
          obtain ⟨bv, hbv⟩ : ∃ bv, bv = behind s a b := ⟨_, rfl⟩
          have HBeh : Hid (∀ W, Below w.heap.size w W → Calls Try.prog 27 #[landV q L, .int .i64 i, .int .i64 j, .int .i64 d] W (Ret (.bool bv) W)) := fun W hW => by
            rw [hbv]; exact rbehind_any q _ _ L.st L.sn i j d a b s W (HL.out.later hW).st (HL.out.later hW).sn ha hb hs (hF.st a (List.mem_of_getElem? ha)) (hF.st b (List.mem_of_getElem? hb)) (hF.sn s (List.mem_of_getElem? hs))
          have hneed : L.need i j d = if bv then 2 else 1 := by unfold Land.need needM; rw [hs, ha, hb, hbv]
          have hup : L.up d = decide (0 < s.U) := by unfold Land.up; rw [hs]
          rw [hneed, hup] at hm
          have HM := Lib.hid hm
          have HTs := Lib.hid hs
          obtain ⟨p4, o4, ea4, hC4⟩ := HL.out.sn.at ht
          have HC4 := Lib.hid hC4
          have r5 : (0 : Int) ≤ (d : Int) := by omega
          have r6 : (d : Int) < (L.sn.length : Int) := by omega
          have HEA4 := Lib.hid ea4
          clear hneed hup hm hbv ha hb hs hF hC4 ea4 hc
          go_wp2_with fail
          refine (HBeh.out _ hW).mono ?_
          rintro e w9 ⟨rfl, hb9⟩
          replace hW := over hW hb9
          (try clear c5 t5); replace B5 := B5.later hb9; have c5 := B5.cell; have t5 := B5.lt
          clear hb9 HBeh
          obtain ⟨g0, g1, g2⟩ := cells_sn (HC4.out.later hW) HTs.out
          rw [HEA4.out] at c5
          clear g0 g1
          by_cases hU : s.U ≤ 0
          · have hm := HM.out
            rw [if_pos (by simpa using hU)] at hm
            simp only [Prod.mk.injEq] at hm
            obtain ⟨rfl, rfl⟩ := hm
            cases bv
            all_goals
              go_wp2_with fail
              refine (awake_any _).mono ?_
              rintro e w10 ⟨rfl, hb10⟩
              replace hW := over hW hb10
              clear hb10 c5 t5 B5 g2
              go_wp2_with fail
              go_ret
              exact ⟨rfl, hW⟩
          · have hm := HM.out
            rw [if_neg (by simpa using hU)] at hm
            simp only [Prod.mk.injEq] at hm
            obtain ⟨rfl, rfl⟩ := hm
            cases bv
            all_goals
              simp only [if_true, if_false, Bool.false_eq_true]
              go_wp2_with fail
              refine (awake_any _).mono ?_
              rintro e w10 ⟨rfl, hb10⟩
              replace hW := over hW hb10
              clear hb10 c5 t5 B5 g2
              go_wp2_with fail
              go_ret
              exact ⟨rfl, hW⟩
end Go.Proofs.Ytmfnkmmbihmjnaa
