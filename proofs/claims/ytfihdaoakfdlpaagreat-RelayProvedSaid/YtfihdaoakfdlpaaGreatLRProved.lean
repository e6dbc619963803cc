/- The statement on tables that prove: its walk. -/
import Derived.Test.YtfihdaoakfdlpaaGreatLR3
import Derived.Test.YtfihdaoakfdlpaaGreatRE3
import Derived.Test.YtfihdaoakfdlpaaGreatR20
import Derived.Test.YtfihdaoakfdlpaaGreatRB
import Derived.Test.YtfihdaoakfdlpaaGreatRPlain8
import Derived.Deep.DeepCutAuto
import Derived.Deep.CutBlock
open Go.RowKit
namespace Go.Proofs.YtfihdaoakfdlpaaGreat
open Go.Hill

theorem earlE_ok {L : Land} {f s k : Nat} (hc : L.chk = 0) (hf : f < L.st.length) (hs : s ≤ L.sn.length) (hk : k < L.cs.length) : Land.earlE L f s k = (Land.fins L f s k (-1), 0) := by
  unfold Land.earlE
  rw [if_pos (askr_ok hc hf hf hs hk)]; rfl
theorem prvE_ok {L : Land} {f s k : Nat} {l : List Int} (hc : L.chk = 0) (hf : f < L.st.length) (hs : s ≤ L.sn.length) (hk : k < L.cs.length) : Land.prvE L f s k l = L.prvB f s k l := by
  unfold Land.prvE
  rw [decide_eq_true (askr_ok hc hf hf hs hk)]; rfl
set_option maxRecDepth 100000 in
set_option maxHeartbeats 8000000 in
theorem RelayProved_any (q : LV) (L : Land) (a b c : Nat) (wl : List Nat) (wa : Option Addr) (wc' : Nat) (w : World) (hL : LandAt w q L) (hs : Sane L) (ga : a < 256) (gb : b < 256) (gc : c < 256) (hw : WordsAt w wa wl) (hwl : wl.length ≤ 9223372036854775807) (hwb : ∀ n ∈ wl, n < 65536) :
    Calls Tryz.prog 7 #[landV q L, .int .u8 a, .int .u8 b, .int .u8 c, .slice wa wl.length wc'] w (Ret (.bool true) w) := by
  obtain ⟨tv, htv⟩ : ∃ tv, tv = ready3B L := ⟨_, rfl⟩
  have HReady : Hid (∀ W, Below w.heap.size w W → Calls Tryz.prog 27 #[landV q L] W (Ret (.bool tv) W)) := fun W hW => by rw [htv]; exact ready3_any q L W (hL.later hW) hs
  have HL := Lib.hid hL
  have HTv := Lib.hid htv
  have HWord := Lib.hid (fun i hi W (hW : Below w.heap.size w W) => word_any wl wa wc' i W (RowAt.later hw hW) hwl hwb hi)
  have HWb := Lib.hid (fun i => wordOf_lt hwb i)
  clear hL hs htv hw hwl hwb
  generalize wl.length = wn at *
  go_enter Tryz.func7, Tryz.ntmps7
  go_wp2_with fail
  refine named1 (p := fun W => Calls _ _ _ W _) ?_
  intro W hW B5
  refine (HReady.out W hW).mono ?_
  rintro e w1 ⟨rfl, hb1⟩
  replace hW := over hW hb1
  (try clear c5 t5); replace B5 := B5.later hb1; have c5 := B5.cell; have t5 := B5.lt
  clear hb1 HReady
  cases tv with
  | false =>
    go_wp2_with fail
    refine (awake_any _).mono ?_
    rintro e w2 ⟨rfl, hb2⟩
    replace hW := over hW hb2
    clear hb2
    go_wp2_with fail
    go_ret
    exact ⟨rfl, hW⟩
  | true =>
    have htv := HTv.out.symm
    unfold ready3B at htv
    simp only [Bool.and_eq_true, beq_iff_eq] at htv
    have HS := Lib.hid (thin_small htv.1)
    have hc := htv.2
    obtain ⟨n6, n0, e12, e0, m4, m0⟩ := st_six hc
    have HN1 := Lib.hid (fun W => numbers_any q L a b c W hc ga gb gc)
    have hf : a % L.st.length < L.st.length := Nat.mod_lt _ n0
    have hs : b % (L.sn.length + 1) ≤ L.sn.length := Nat.le_of_lt_succ (Nat.mod_lt _ (by omega))
    have hk : c % L.cs.length < L.cs.length := Nat.mod_lt _ m0
    generalize a % L.st.length = f at *
    generalize b % (L.sn.length + 1) = s at *
    generalize c % L.cs.length = k at *
    have HEo := Lib.hid (earlE_ok hc hf hs hk)
    have HPo := Lib.hid (fun l => prvE_ok (l := l) hc hf hs hk)
    clear htv HTv hc
    go_wp2_with fail
    refine (HN1.out _).mono ?_
    rintro e w2 ⟨rfl, hb2⟩
    replace hW := over hW hb2
    (try clear c5 t5); replace B5 := B5.later hb2; have c5 := B5.cell; have t5 := B5.lt
    clear hb2 HN1
    go_wp2_with fail
    refine (land_any q L w2 (HL.out.later hW) HS.out).mono ?_
    rintro e w3 ⟨q1, rfl, hbx, hlx⟩
    replace hW := over hW hbx
    (try clear c5 t5); replace B5 := B5.later hbx; have c5 := B5.cell; have t5 := B5.lt
    have HL3 := Lib.hid hlx
    clear hbx hlx
    go_wp2_with fail
    refine (Earliest_any q1 L f s k w3 HL3.out HS.out).mono ?_
    rw [HEo.out]
    rintro e w4 ⟨ea, ec, rfl, hb4, hi4⟩
    replace hW := over hW hb4
    (try clear c5 t5); replace B5 := B5.later hb4; have c5 := B5.cell; have t5 := B5.lt
    have HE4 := Lib.hid (show IntsAt w4 ea (Land.fins L f s k (-1)) from hi4)
    have hfl : (Land.fins L f s k (-1)).length = L.st.length := fins_len
    have HFl := Lib.hid hfl
    have HAt : Hid (∀ x, x < L.st.length → (Land.fins L f s k (-1))[x]? = some (L.fin f s k (-1) x)) := fun x hx => fins_at hx
    have hne : (((Land.fins L f s k (-1)).length : Int) != (L.st.length : Int)) = false := by simp; omega
    have HHat : Hid (∀ x, L.hat f s k (-1) x = if L.fin f s k (-1) x < 0 then (L.sn.length : Int) + 1 else L.fin f s k (-1) x) := fun x => rfl
    have HBd : Hid (∀ x, 0 ≤ L.hat f s k (-1) x ∧ L.hat f s k (-1) x ≤ (L.sn.length : Int) + 1) := fun x => by
      have h1 : (s : Int) ≤ L.hat f s k (-1) x ∧ L.hat f s k (-1) x ≤ (L.sn.length : Int) + 1 := Rel.hat_bd (r := L.rel k (-1)) (f := f) hs x
      omega
    have HOwn : Hid (L.own f s k = (List.range L.st.length).map fun x => L.hat f s k (-1) x) := rfl
    generalize Land.fins L f s k (-1) = fl at *
    obtain ⟨hat, hhat⟩ : ∃ hat : Nat → Int, hat = fun x => L.hat f s k (-1) x := ⟨_, rfl⟩
    have HHt : Hid (∀ x, L.hat f s k (-1) x = hat x) := fun x => by rw [hhat]
    rw [← hhat] at HOwn
    clear hb4 hi4 HL3 hfl hhat
    go_wp2_with fail
    clear hne
    have HB5 := Lib.hid B5
    have hbase := hW.size
    go_loopw [16, 17, 18] (fun v1 v2 i' wr => ∃ (i : Nat) (xs : List Int), i ≤ L.st.length ∧ i' = .int .i64 i ∧ xs.length = i ∧ Below w4.heap.size w4 wr ∧ Two wr w4.heap.size v1 (ivs ((List.range i).map hat)) v2 (ivs xs)) (fun _ _ i' _ => L.st.length - (intOf i').toNat)
    case atStart => exact ⟨0, [], Nat.zero_le _, rfl, rfl, Below.refl _ _, Two.nil _ _⟩
    case round =>
      clear B5 c5 t5
      obtain ⟨i, xs, hi, rfl, hxl, hb, htw⟩ := hrel
      have HTw := Lib.hid htw
      have HXl := Lib.hid hxl
      have B5 := HB5.out.later hb
      clear htw hxl
      by_cases hlt : i < L.st.length
      · have hlf : i < fl.length := by have := HFl.out; omega
        obtain ⟨p1, o1, rfl, hC1⟩ := RowAt.at (HE4.out.later hb) hlf
        have e1 := cells_one hC1 (HAt.out i hlt)
        have z1 := block_lt_of_cell e1
        have r1 : (0 : Int) ≤ (i : Int) := by omega
        have r2 : (i : Int) < (fl.length : Int) := by omega
        have hh := HHat.out i
        rw [HHt.out] at hh
        have hbd := HBd.out i
        rw [HHt.out] at hbd
        have HH := Lib.hid hh
        obtain ⟨hv, hhv⟩ : ∃ hv, hv = hat i := ⟨_, rfl⟩
        rw [← hhv] at HH hbd
        have HHv := Lib.hid hhv
        generalize L.fin f s k (-1) i = g at *
        have c5 := B5.cell; have t5 := B5.lt
        clear hC1 hh hhv
        go_upto_if 65 with fail
        go_cut [19] (fun s19 wx => s19 = .int .i64 hv ∧ Below wr.heap.size wr wx)
        case first =>
          by_cases hg : g < 0
          · have hx := HH.out
            rw [if_pos hg] at hx
            have HX := Lib.hid hx
            clear hx HH e1 z1
            go_wp2_with fail
            refine (rend_any q L _).mono ?_
            rintro e w6 ⟨rfl, hb6⟩
            clear c5 t5 B5
            go_wp2_with fail
            go_meet
            exact ⟨by rw [HX.out], hb6⟩
          · have hx := HH.out
            rw [if_neg hg] at hx
            subst hx
            clear HH e1 z1
            go_wp2_with fail
            go_meet
            exact ⟨rfl, Below.refl _ _⟩
        case rest =>
          obtain ⟨rfl, hbc⟩ := hcut
          have HTw2 := Lib.hid (HTw.out.later hbc)
          have hbx := over hb hbc
          have B5 := HB5.out.later hbx
          have hn : ((List.range i).map hat).length ≤ 6 := by simp; omega
          have hsz := hbx.size
          have hG : ivs ((List.range (i + 1)).map hat) = ivs ((List.range i).map hat) ++ [[.int .i64 hv]] := by rw [range_snoc, ivs, List.map_append, ← HHv.out]; rfl
          have HG := Lib.hid hG
          clear HH c5 t5 e1 z1 hbc hb HTw hG
          go_wp2_with (at_builtin; refine named1 (p := wpList _ _ _ _ _) ?_; intro w6 hb6 B53; have hO := HTw2.out.later hb6; refine wpList_grow2 rfl (.tmp 69) (.tmp 71) 40 rfl elem_int rfl hO.1 rfl B53 rfl (by omega) rfl (n := i) (by simp) (by omega) (by omega) (Nat.le_trans hsz hb6.size) ?_; intro a' c' W' hO' hb' hg' hnew; have htw := hO.grow hO' hg' hnew; rw [← HG.out] at htw; have HTw3 := Lib.hid htw; have hbx := (over hbx hb6).trans hb'; clear htw hO hg' hnew hO' B53 hb' hb6)
          refine (HWord.out i (by omega) _ (over hW hbx)).mono ?_
          rintro e w7 ⟨rfl, hb7⟩
          replace hbx := over hbx hb7
          have HTw4 := Lib.hid (HTw3.out.later hb7)
          have B5 := HB5.out.later hbx
          obtain ⟨wv, hwv⟩ : ∃ wv, wv = wordOf wl i := ⟨_, rfl⟩
          have hwb := HWb.out i
          rw [← hwv] at hwb ⊢
          clear HTw2 HTw3 hb7 hwv HG hn hsz
          obtain ⟨m, hm⟩ : ∃ m, m = wv % 4 := ⟨_, rfl⟩
          obtain ⟨x3, hx3⟩ : ∃ x3, x3 = wv / 4 % 3 := ⟨_, rfl⟩
          have t1 : (wv : Int).tmod 4 = (m : Int) := by rw [Int.tmod_eq_emod_of_nonneg (by omega), hm]; rfl
          have t2 : (wv : Int).tdiv 4 = ((wv / 4 : Nat) : Int) := by rw [Int.tdiv_eq_ediv_of_nonneg (by omega)]; rfl
          have t3 : ((wv / 4 : Nat) : Int).tmod 3 = (x3 : Int) := by rw [Int.tmod_eq_emod_of_nonneg (by omega), hx3]; rfl
          have hx3b : x3 < 3 := by rw [hx3]; exact Nat.mod_lt _ (by omega)
          have hmb : m < 4 := by rw [hm]; exact Nat.mod_lt _ (by omega)
          clear hm hx3
          generalize wv / 4 = w4q at *
          have c5 := B5.cell; have t5 := B5.lt
          go_upto_block 2 with fail
          go_cut [19] (fun s19 wx => ∃ y : Int, s19 = .int .i64 y ∧ Below w7.heap.size w7 wx)
          case first =>
            by_cases hm0 : m = 0
            · subst hm0
              go_wp2_with fail
              refine (rend_any q L _).mono ?_
              rintro e w8 ⟨rfl, hb8⟩
              clear c5 t5 B5
              go_wp2_with fail
              go_meet
              exact ⟨_, rfl, hb8⟩
            · have d0 : ((m : Int) == 0) = false := by rw [beq_eq_false_iff_ne]; omega
              clear c5 t5 B5
              by_cases hm1 : m = 1
              · subst hm1
                clear hm0
                go_wp2_with fail
                go_meet
                exact ⟨_, rfl, Below.refl _ _⟩
              · have d1 : ((m : Int) == 1) = false := by rw [beq_eq_false_iff_ne]; omega
                clear hm0 hm1
                go_wp2_with fail
                go_meet
                exact ⟨_, rfl, Below.refl _ _⟩
          case rest =>
            obtain ⟨y, rfl, hbc⟩ := hcut
            have HTw5 := Lib.hid (HTw4.out.later hbc)
            have hby := over hbx hbc
            have hsz := hby.size
            have hxn := HXl.out
            clear hbc hbx HTw4 t1 t2 t3 c5 t5 B5
            go_wp2_with (at_builtin; refine named1 (p := wpList _ _ _ _ _) ?_; intro w8 hb8 B53; have hO := HTw5.out.later hb8; refine wpList_grow2 rfl (.tmp 97) (.tmp 99) 40 rfl elem_int rfl hO.2.1 rfl B53 rfl (by omega) rfl (n := i) (by simp [hxn]) (by omega) (by omega) (Nat.le_trans hsz hb8.size) ?_; intro a'' c'' W'' hO' hb' hg' hnew; have htw := (hO.swap.grow hO' hg' hnew).swap; have HTw6 := Lib.hid htw; have hby := (over hby hb8).trans hb'; clear htw hO hg' hnew hO' B53 hb' hb8)
            go_roundw
            case rel => exact ⟨i + 1, xs ++ [y], by omega, by go_num, by simp [hxn], hby, by rw [ivs, ivs, List.map_append]; exact HTw6.out⟩
            case measure => simp [intOf]; omega
      · obtain rfl : i = L.st.length := by omega
        rw [← HOwn.out] at HTw
        have HPr := Lib.hid (own_proves (L := L) (k := k) hf hs)
        have HOl : Hid (∀ xs, L.prvB f s k xs = true → ∀ x, x < L.st.length → tbl xs x ≤ tbl (L.own f s k) x) := fun xs h x hx => by rw [own_tbl hx]; exact (other_le hf hs h).2 x hx
        have HLn : Hid ((L.own f s k).length = L.st.length) := by show _ = _; unfold Land.own; simp
        have hpo := HPo.out
        generalize L.own f s k = ol at *
        have HPo2 := Lib.hid hpo
        have htw := HTw.out
        obtain ⟨oa, oc, rfl, _, hro⟩ := htw.1.row
        obtain ⟨xa, xc, rfl, _, hrx⟩ := htw.2.1.row
        rw [List.length_map, List.length_map] at *
        have HRo := Lib.hid (show IntsAt wr oa ol from hro)
        have HRx := Lib.hid (show IntsAt wr xa xs from hrx)
        replace hW := over hW hb
        have hx6 := HXl.out
        have hol := HLn.out
        have hflt := HFl.out
        clear htw hro hrx HTw hpo HOwn hb hlt HE4 HHat HHt HEo HBd HAt HPo HWord HWb HB5
        have c5 := B5.cell; have t5 := B5.lt
        go_wp2_with fail
        clear hol hx6 hflt
        refine (land_any q L wr (HL.out.later hW) HS.out).mono ?_
        rintro e wA ⟨q2, rfl, hbx, hlx⟩
        have HLx := Lib.hid hlx
        replace hW := over hW hbx
        (try clear c5 t5); replace B5 := B5.later hbx; have c5 := B5.cell; have t5 := B5.lt
        replace HRo := Lib.hid (HRo.out.later hbx)
        replace HRx := Lib.hid (HRx.out.later hbx)
        clear hbx
        clear hlx
        go_wp2_with fail
        refine (list3_any ol oa oc wA HRo.out (by first | (have := HLn.out; have := HXl.out; omega))).mono ?_
        rintro e wB ⟨na, nc, rfl, hby, hiy⟩
        have HPt := Lib.hid (ProveTable_any q2 L f s k ol na nc wB (HLx.out.later hby) HS.out hiy (by have := HLn.out; have := HXl.out; omega))
        rw [HPo2.out] at HPt
        replace hW := over hW hby
        (try clear c5 t5); replace B5 := B5.later hby; have c5 := B5.cell; have t5 := B5.lt
        replace HRo := Lib.hid (HRo.out.later hby)
        replace HRx := Lib.hid (HRx.out.later hby)
        clear hby
        clear hiy HLx
        go_wp2_with fail
        refine HPt.out.mono ?_
        clear HPt
        rw [HPr.out]
        rintro e wC ⟨rfl, hbC⟩
        replace hW := over hW hbC
        (try clear c5 t5); replace B5 := B5.later hbC; have c5 := B5.cell; have t5 := B5.lt
        replace HRo := Lib.hid (HRo.out.later hbC)
        replace HRx := Lib.hid (HRx.out.later hbC)
        clear hbC
        go_wp2_with fail
        refine (land_any q L wC (HL.out.later hW) HS.out).mono ?_
        rintro e wD ⟨q3, rfl, hbx, hlx⟩
        have HLx := Lib.hid hlx
        replace hW := over hW hbx
        (try clear c5 t5); replace B5 := B5.later hbx; have c5 := B5.cell; have t5 := B5.lt
        replace HRo := Lib.hid (HRo.out.later hbx)
        replace HRx := Lib.hid (HRx.out.later hbx)
        clear hbx
        clear hlx
        go_wp2_with fail
        refine (list3_any xs xa xc wD HRx.out (by first | (have := HLn.out; have := HXl.out; omega))).mono ?_
        rintro e wE ⟨na, nc, rfl, hby, hiy⟩
        have HPt := Lib.hid (ProveTable_any q3 L f s k xs na nc wE (HLx.out.later hby) HS.out hiy (by have := HLn.out; have := HXl.out; omega))
        rw [HPo2.out] at HPt
        replace hW := over hW hby
        (try clear c5 t5); replace B5 := B5.later hby; have c5 := B5.cell; have t5 := B5.lt
        replace HRo := Lib.hid (HRo.out.later hby)
        replace HRx := Lib.hid (HRx.out.later hby)
        clear hby
        clear hiy HLx
        go_wp2_with fail
        refine HPt.out.mono ?_
        clear HPt
        obtain ⟨pv, hpv⟩ : ∃ pv, pv = L.prvB f s k xs := ⟨_, rfl⟩
        rw [← hpv]
        rintro e wF ⟨rfl, hbF⟩
        replace hW := over hW hbF
        (try clear c5 t5); replace B5 := B5.later hbF; have c5 := B5.cell; have t5 := B5.lt
        replace HRo := Lib.hid (HRo.out.later hbF)
        replace HRx := Lib.hid (HRx.out.later hbF)
        clear hbF
        have HPv := Lib.hid hpv
        clear hpv
        cases pv with
        | false =>
          clear B5 c5 t5
          go_wp2_with fail
          refine (awake_any _).mono ?_
          rintro e wG ⟨rfl, hbG⟩
          replace hW := over hW hbG
          clear hbG
          go_wp2_with fail
          go_ret
          exact ⟨rfl, hW⟩
        | true =>
          have HLe := Lib.hid (HOl.out xs HPv.out.symm)
          clear HPv B5 c5 t5 HOl
          go_wp2_with fail
          go_loopw [21] (fun i' wx => ∃ i : Nat, i ≤ L.st.length ∧ i' = .int .i64 i ∧ Below w.heap.size w wx ∧ IntsAt wx oa ol ∧ IntsAt wx xa xs) (fun i' _ => L.st.length - (intOf i').toNat)
          case atStart => exact ⟨0, Nat.zero_le _, rfl, hW, HRo.out, HRx.out⟩
          case round =>
            clear HRo HRx hW
            obtain ⟨i, hi, rfl, hW, hro, hrx⟩ := hrel
            have HRo := Lib.hid hro
            have HRx := Lib.hid hrx
            have hoL := HLn.out
            have hxL := HXl.out
            by_cases hlt : i < L.st.length
            · obtain ⟨p1, o1, rfl, hC1⟩ := RowAt.at hro (show i < ol.length by omega)
              obtain ⟨p2, o2, rfl, hC2⟩ := RowAt.at hrx (show i < xs.length by omega)
              have e1 := cells_one hC1 (tbl_at (show i < ol.length by omega))
              have e2 := cells_one hC2 (tbl_at (show i < xs.length by omega))
              have z1 := block_lt_of_cell e1
              have z2 := block_lt_of_cell e2
              have hle := HLe.out i hlt
              have r1 : (0 : Int) ≤ (i : Int) := by omega
              have r2 : (i : Int) < (ol.length : Int) := by omega
              have r3 : (i : Int) < (xs.length : Int) := by omega
              generalize tbl ol i = x1 at *
              generalize tbl xs i = x2 at *
              have r4 : ¬ x1 < x2 := by omega
              clear hC1 hC2 hro hrx hoL hxL hle
              go_wp2_with fail
              refine Fat.wp_region_tail 9 (by kernel_rfl) (by kernel_rfl) ?_
              simp only [List.take_succ_cons, List.drop_succ_cons, List.take_nil, List.drop_nil]
              repeat (go_big_quiet_step (fail))
              refine wpQuiet_nil ?_
              intro wH hbH
              have hW2 := over hW hbH
              have HRo2 := Lib.hid (HRo.out.later hbH)
              have HRx2 := Lib.hid (HRx.out.later hbH)
              clear hW HRo HRx hbH e1 e2 z1 z2
              go_wp2_with fail
              go_roundw
              case rel => exact ⟨i + 1, by omega, by go_num, hW2, HRo2.out, HRx2.out⟩
              case measure => simp [intOf]; omega
            · obtain rfl : i = L.st.length := by omega
              clear hro hrx HRo HRx hxL
              go_wp2_with fail
              refine (awake_any _).mono ?_
              rintro e wH ⟨rfl, hbH⟩
              replace hW := over hW hbH
              clear hbH
              go_wp2_with fail
              go_ret
              exact ⟨rfl, hW⟩
end Go.Proofs.YtfihdaoakfdlpaaGreat
