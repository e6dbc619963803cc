/- The statement on vital stations, outright: its walk. -/
import Derived.Test.YtfihdaoakfdlpaaRV2
import Derived.Test.YtfihdaoakfdlpaaRB
open Go.RowKit
namespace Go.Proofs.Ytfihdaoakfdlpaa
open Go.Hill

theorem take_mem {l : List Int} {j : Nat} {x y : Int} (hx : l[j]? = some x) : decide (y ∈ l.take (j + 1)) = (decide (y ∈ l.take j) || decide (x = y)) := by
  rw [List.take_add_one, hx]
  simp only [Option.toList_some, List.mem_append, List.mem_singleton]
  by_cases h1 : y ∈ l.take j <;> by_cases h2 : x = y <;> simp [h1, h2, eq_comm]
set_option maxRecDepth 100000 in
set_option maxHeartbeats 8000000 in
theorem RelayVital_any (q : LV) (L : Land) (a b c d : Nat) (w : World) (hL : LandAt w q L) (hs : Sane L) (ga : a < 256) (gb : b < 256) (gc : c < 256) (gd : d < 256) :
    Calls Try.prog 4 #[landV q L, .int .u8 a, .int .u8 b, .int .u8 c, .int .u8 d] w (Ret (.bool true) w) := by
  obtain ⟨tv, htv⟩ : ∃ tv, tv = ready3B L := ⟨_, rfl⟩
  have HReady : Hid (∀ W, Below w.heap.size w W → Calls Try.prog 7 #[landV q L] W (Ret (.bool tv) W)) := fun W hW => by rw [htv]; exact ready3_any q L W (hL.later hW) hs
  have HL := Lib.hid hL
  have HTv := Lib.hid htv
  clear hL hs htv
  go_enter Try.func4, Try.ntmps4
  go_wp2_with fail
  refine named1 (p := fun W => Calls _ _ _ W _) ?_
  intro W hW B5
  refine (HReady.out W hW).mono ?_
  rintro e w1 ⟨rfl, hb1⟩
  replace hW := over hW hb1
  (try clear c5 t5); replace B5 := B5.later hb1; have c5 := B5.cell; have t5 := B5.lt
  clear hb1 HReady
  cases tv with
  | false =>
    go_wp2_with fail
    refine (awake_any _).mono ?_
    rintro e w2 ⟨rfl, hb2⟩
    replace hW := over hW hb2
    clear hb2
    go_wp2_with fail
    go_ret
    exact ⟨rfl, hW⟩
  | true =>
    have htv := HTv.out.symm
    unfold ready3B at htv
    simp only [Bool.and_eq_true, beq_iff_eq] at htv
    have HS := Lib.hid (thin_small htv.1)
    have hc := htv.2
    obtain ⟨n6, n0, e12, e0, m4, m0⟩ := st_six hc
    have HN1 := Lib.hid (fun W => numbers_any q L a c 0 W hc ga gc (by omega))
    have HN2 := Lib.hid (fun W => numbers_any q L b 0 0 W hc gb (by omega) (by omega))
    have hf : a % L.st.length < L.st.length := Nat.mod_lt _ n0
    have ht : b % L.st.length < L.st.length := Nat.mod_lt _ n0
    have hs : c % (L.sn.length + 1) ≤ L.sn.length := Nat.le_of_lt_succ (Nat.mod_lt _ (by omega))
    have hi : d % L.st.length < L.st.length := Nat.mod_lt _ n0
    have t1 : (d : Int).tmod (L.st.length : Int) = ((d % L.st.length : Nat) : Int) := by rw [Int.tmod_eq_emod_of_nonneg (by omega)]; rfl
    have s1 : (L.st.length : Int) ≠ 0 := by omega
    have s2 : ((L.st.length : Int) == 0) = false := by simpa using s1
    generalize a % L.st.length = f at *
    generalize b % L.st.length = t at *
    generalize c % (L.sn.length + 1) = s at *
    generalize d % L.st.length = i at *
    rw [Nat.zero_mod] at HN1 HN2
    rw [Nat.zero_mod] at HN2
    have HC := Lib.hid hc
    have HV1 := Lib.hid (vitE_ok (u := s) hc hf ht hs)
    have HS1 := Lib.hid (sureE_ok hc hf ht hs)
    clear htv HTv hc
    go_wp2_with fail
    refine (HN1.out _).mono ?_
    rintro e w2 ⟨rfl, hb2⟩
    replace hW := over hW hb2
    (try clear c5 t5); replace B5 := B5.later hb2; have c5 := B5.cell; have t5 := B5.lt
    clear hb2 HN1
    go_wp2_with fail
    refine (HN2.out _).mono ?_
    rintro e w3 ⟨rfl, hb3⟩
    replace hW := over hW hb3
    (try clear c5 t5); replace B5 := B5.later hb3; have c5 := B5.cell; have t5 := B5.lt
    clear hb3 HN2
    go_wp2_with fail
    clear t1 s1 s2
    refine (land_any q L w3 (HL.out.later hW) HS.out).mono ?_
    rintro e w4 ⟨q1, rfl, hbx, hlx⟩
    replace hW := over hW hbx
    (try clear c5 t5); replace B5 := B5.later hbx; have c5 := B5.cell; have t5 := B5.lt
    have HL4 := Lib.hid hlx
    clear hbx hlx
    go_wp2_with fail
    obtain ⟨⟨vl, ve⟩, hvi⟩ : ∃ r, Land.vitE L f t s = r := ⟨_, rfl⟩
    refine (Vital_any q1 L f t s w4 HL4.out HS.out).mono ?_
    rw [hvi]
    rw [hvi] at HV1
    rintro e w5 ⟨va, vc, rfl, hb5, hi5⟩
    replace hW := over hW hb5
    (try clear c5 t5); replace B5 := B5.later hb5; have c5 := B5.cell; have t5 := B5.lt
    have HV := Lib.hid (show IntsAt w5 va vl from hi5)
    clear hb5 hi5 HL4 hvi
    go_wp2_with fail
    refine (land_any q L w5 (HL.out.later hW) HS.out).mono ?_
    rintro e w6 ⟨q2, rfl, hbx, hlx⟩
    replace hW := over hW hbx
    (try clear c5 t5); replace B5 := B5.later hbx; have c5 := B5.cell; have t5 := B5.lt
    have HL6 := Lib.hid hlx
    clear hlx
    replace HV := Lib.hid (HV.out.later hbx)
    clear hbx
    go_wp2_with fail
    obtain ⟨⟨sv, sk, se⟩, hsu⟩ : ∃ r, Land.sureE L f t s = r := ⟨_, rfl⟩
    refine (Sure_any q2 L f t s w6 HL6.out HS.out).mono ?_
    rw [hsu]
    rw [hsu] at HS1
    rintro e w7 ⟨rfl, hb7⟩
    replace hW := over hW hb7
    replace HV := Lib.hid (HV.out.later hb7)
    (try clear c5 t5); replace B5 := B5.later hb7; have c5 := B5.cell; have t5 := B5.lt
    clear hb7 HL6 hsu
    by_cases hst : (L.sn.length : Int) < (L.sur f t s (-1)).1
    · have h1 := HV1.out
      rw [if_pos hst] at h1
      have h2 := HS1.out
      rw [if_pos hst] at h2
      simp only [Prod.mk.injEq] at h1 h2
      obtain ⟨rfl, rfl⟩ := h1
      obtain ⟨rfl, rfl, rfl⟩ := h2
      clear hst HV1 HS1 HV
      go_wp2_with fail
      refine (awake_any _).mono ?_
      rintro e w8 ⟨rfl, hb8⟩
      replace hW := over hW hb8
      clear hb8
      go_wp2_with fail
      go_ret
      exact ⟨rfl, hW⟩
    · have h1 := HV1.out
      rw [if_neg hst] at h1
      have h2 := HS1.out
      rw [if_neg hst] at h2
      simp only [Prod.mk.injEq] at h1 h2
      obtain ⟨rfl, rfl⟩ := h1
      obtain ⟨rfl, rfl, rfl⟩ := h2
      clear hst HV1 HS1
      by_cases hif : i = f
      · have d1 : ((i : Int) == (f : Int)) = true := by simp [hif]
        clear hif HV
        go_wp2_with fail
        refine (awake_any _).mono ?_
        rintro e w8 ⟨rfl, hb8⟩
        replace hW := over hW hb8
        clear hb8
        go_wp2_with fail
        go_ret
        exact ⟨rfl, hW⟩
      have d1 : ((i : Int) == (f : Int)) = false := by rw [beq_eq_false_iff_ne]; omega
      by_cases hit : i = t
      · have d2 : ((i : Int) == (t : Int)) = true := by simp [hit]
        clear hit HV hif
        go_wp2_with fail
        refine (awake_any _).mono ?_
        rintro e w8 ⟨rfl, hb8⟩
        replace hW := over hW hb8
        clear hb8
        go_wp2_with fail
        go_ret
        exact ⟨rfl, hW⟩
      have d2 : ((i : Int) == (t : Int)) = false := by rw [beq_eq_false_iff_ne]; omega
      have hcx := chk_drop HC.out (show 1 < L.st.length by omega) hi
      have hlx : (L.dropSt i).st.length = L.st.length - 1 := by unfold Land.dropSt; simp [List.length_eraseIdx, hi]
      have HSx := Lib.hid (small_of hcx)
      have HX1 := Lib.hid (sureE_ok (f := dnI i f) (t := dnI i t) hcx (by rw [hlx]; exact dn_lt (fun h => hif h.symm) hi hf) (by rw [hlx]; exact dn_lt (fun h => hit h.symm) hi ht) (show s ≤ (L.dropSt i).sn.length from hs))
      rw [sur_drop hi, up_dn (fun h => hif h.symm), up_dn (fun h => hit h.symm), show (L.dropSt i).sn.length = L.sn.length from rfl] at HX1
      have HMv := Lib.hid (mem_vit (L := L) (f := f) (t := t) (s := s) hi hif hit)
      have HVn := Lib.hid (fun x hx => vit_ne (L := L) (f := f) (t := t) (s := s) (x := x) hx)
      have HWo := Lib.hid (fun W hW => without_any q L i f t W (HL.out.later hW) n6 hi hf ht)
      have hvlen : (L.vit f t s).length ≤ L.st.length := sel_len _ _
      generalize L.vit f t s = vl at *
      generalize (L.sur f t s (-1)).1 = sv0 at *
      generalize (L.sur f t s (-1)).2 = sv1 at *
      clear hcx hlx hif hit
      simp only
      go_wp2_with fail
      refine (HWo.out w7 hW).mono ?_
      rintro e w8 ⟨q3, rfl, hb8, hl8⟩
      replace hW := over hW hb8
      replace HV := Lib.hid (HV.out.later hb8)
      have HL8 := Lib.hid hl8
      clear hb8 hl8 HWo B5 c5 t5 d1 d2
      go_upto_region 13 with fail
      refine named1 (p := Code.wp _ _ _ _) ?_
      intro w9 hb9 B23
      replace hW := over hW hb9
      replace HV := Lib.hid (HV.out.later hb9)
      replace HL8 := Lib.hid (HL8.out.later hb9)
      have c23 := B23.cell; have t23 := B23.lt
      clear hb9
      go_wp2_with fail
      refine (land_any q3 (L.dropSt i) w9 HL8.out HSx.out).mono ?_
      rintro e w10 ⟨q4, rfl, hbx, hlx⟩
      replace hW := over hW hbx
      replace HV := Lib.hid (HV.out.later hbx)
      have HL10 := Lib.hid hlx
      clear hbx hlx HL8 B23 c23 t23
      go_wp2_with fail
      refine (Sure_any q4 (L.dropSt i) (dnI i f) (dnI i t) s w10 HL10.out HSx.out).mono ?_
      rw [HX1.out]
      rintro e w11 ⟨rfl, hb11⟩
      replace hW := over hW hb11
      replace HV := Lib.hid (HV.out.later hb11)
      clear hb11 HL10 HX1
      by_cases hsx : (L.sn.length : Int) < (L.sur f t s i).1
      · rw [if_pos hsx]
        have HSx2 := Lib.hid hsx
        clear hsx
        simp only
        go_wp2_with fail
        go_loopw [29, 30] (fun b' j' wx => ∃ j : Nat, j ≤ vl.length ∧ j' = .int .i64 j ∧ b' = .bool (decide ((i : Int) ∈ vl.take j)) ∧ Below w.heap.size w wx ∧ IntsAt wx va vl) (fun _ j' _ => vl.length - (intOf j').toNat)
        case atStart => exact ⟨0, Nat.zero_le _, rfl, by simp, hW, HV.out⟩
        case round =>
          clear hW HV
          obtain ⟨j, hj, rfl, rfl, hW, hv⟩ := hrel
          have HV := Lib.hid hv
          by_cases hjl : j < vl.length
          · obtain ⟨p1, o1, rfl, hC1⟩ := RowAt.at hv hjl
            obtain ⟨y, hy⟩ : ∃ y, vl[j]? = some y := ⟨vl[j], by simp⟩
            have e1 := cells_one hC1 hy
            have z1 := block_lt_of_cell e1
            obtain ⟨hy1, hy2⟩ := HVn.out y (List.mem_of_getElem? hy)
            have HTk := Lib.hid (take_mem (y := (i : Int)) hy)
            obtain ⟨b, hb⟩ : ∃ b, b = decide ((i : Int) ∈ vl.take j) := ⟨_, rfl⟩
            rw [← hb] at HTk ⊢
            have d1 : (y == (f : Int)) = false := by simpa using hy1
            have d2 : (y == (t : Int)) = false := by simpa using hy2
            have r3 : (0 : Int) ≤ (j : Int) := by omega
            have r4 : (j : Int) < (vl.length : Int) := by omega
            clear hC1 hy hb hv hy1 hy2
            cases b with
            | true =>
              go_wp2_with fail
              go_roundw
              case rel => exact ⟨j + 1, by omega, by go_num, by rw [HTk.out]; rfl, hW, HV.out⟩
              case measure => simp [intOf]; omega
            | false =>
              obtain ⟨bq, hbq⟩ : ∃ bq, (y == (i : Int)) = bq := ⟨_, rfl⟩
              have HBq := Lib.hid hbq
              go_wp2_with fail
              go_roundw
              case rel => exact ⟨j + 1, by omega, by go_num, by rw [HTk.out, Bool.false_or, ← HBq.out]; rfl, hW, HV.out⟩
              case measure => simp [intOf]; omega
          · obtain rfl : j = vl.length := by omega
            rw [List.take_length, decide_eq_decide.2 HMv.out]
            rw [decide_eq_true HSx2.out]
            go_wp2_with fail
            refine (awake_any _).mono ?_
            rintro e wz ⟨rfl, hbz⟩
            replace hW := over hW hbz
            clear hbz
            go_wp2_with fail
            go_ret
            exact ⟨rfl, hW⟩
      · rw [if_neg hsx]
        have HSx2 := Lib.hid hsx
        generalize hg1 : (L.sur f t s i).2 = sx2
        have HG1 := Lib.hid hg1
        obtain ⟨sx1, hg2⟩ : ∃ sx1, (L.sur f t s i).1 = sx1 := ⟨_, rfl⟩
        rw [hg2]
        rw [hg2] at HSx2 HMv
        clear hg1 hg2 hsx
        simp only
        go_wp2_with fail
        go_loopw [29, 30] (fun b' j' wx => ∃ j : Nat, j ≤ vl.length ∧ j' = .int .i64 j ∧ b' = .bool (decide ((i : Int) ∈ vl.take j)) ∧ Below w.heap.size w wx ∧ IntsAt wx va vl) (fun _ j' _ => vl.length - (intOf j').toNat)
        case atStart => exact ⟨0, Nat.zero_le _, rfl, by simp, hW, HV.out⟩
        case round =>
          clear hW HV
          obtain ⟨j, hj, rfl, rfl, hW, hv⟩ := hrel
          have HV := Lib.hid hv
          by_cases hjl : j < vl.length
          · obtain ⟨p1, o1, rfl, hC1⟩ := RowAt.at hv hjl
            obtain ⟨y, hy⟩ : ∃ y, vl[j]? = some y := ⟨vl[j], by simp⟩
            have e1 := cells_one hC1 hy
            have z1 := block_lt_of_cell e1
            obtain ⟨hy1, hy2⟩ := HVn.out y (List.mem_of_getElem? hy)
            have HTk := Lib.hid (take_mem (y := (i : Int)) hy)
            obtain ⟨b, hb⟩ : ∃ b, b = decide ((i : Int) ∈ vl.take j) := ⟨_, rfl⟩
            rw [← hb] at HTk ⊢
            have d1 : (y == (f : Int)) = false := by simpa using hy1
            have d2 : (y == (t : Int)) = false := by simpa using hy2
            have r3 : (0 : Int) ≤ (j : Int) := by omega
            have r4 : (j : Int) < (vl.length : Int) := by omega
            clear hC1 hy hb hv hy1 hy2
            cases b with
            | true =>
              go_wp2_with fail
              go_roundw
              case rel => exact ⟨j + 1, by omega, by go_num, by rw [HTk.out]; rfl, hW, HV.out⟩
              case measure => simp [intOf]; omega
            | false =>
              obtain ⟨bq, hbq⟩ : ∃ bq, (y == (i : Int)) = bq := ⟨_, rfl⟩
              have HBq := Lib.hid hbq
              go_wp2_with fail
              go_roundw
              case rel => exact ⟨j + 1, by omega, by go_num, by rw [HTk.out, Bool.false_or, ← HBq.out]; rfl, hW, HV.out⟩
              case measure => simp [intOf]; omega
          · obtain rfl : j = vl.length := by omega
            rw [List.take_length, decide_eq_decide.2 HMv.out]
            rw [decide_eq_false (Int.not_lt.2 HSx2.out)]
            go_wp2_with fail
            refine (awake_any _).mono ?_
            rintro e wz ⟨rfl, hbz⟩
            replace hW := over hW hbz
            clear hbz
            go_wp2_with fail
            go_ret
            exact ⟨rfl, hW⟩
end Go.Proofs.Ytfihdaoakfdlpaa
