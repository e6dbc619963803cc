/- The statement on where a route stops: its walk. -/
import Derived.Test.YtfihdaoakfdlpaaGreatLR7
open Go.RowKit
namespace Go.Proofs.YtfihdaoakfdlpaaGreat
open Go.Hill

set_option maxRecDepth 100000 in
set_option maxHeartbeats 8000000 in
theorem RelayStops_any (q : LV) (L : Land) (a b c : Nat) (wl : List Nat) (wa : Option Addr) (wc' : Nat) (w : World) (hL : LandAt w q L) (hs : Sane L) (ga : a < 256) (gb : b < 256) (gc : c < 256) (hw : WordsAt w wa wl) (hwl : wl.length ≤ 9223372036854775807) (hwb : ∀ n ∈ wl, n < 65536) :
    Calls Tryz.prog 12 #[landV q L, .int .u8 a, .int .u8 b, .int .u8 c, .slice wa wl.length wc'] w (Ret (.bool true) w) := by
  obtain ⟨tv, htv⟩ : ∃ tv, tv = ready3B L := ⟨_, rfl⟩
  have HReady : Hid (∀ W, Below w.heap.size w W → Calls Tryz.prog 27 #[landV q L] W (Ret (.bool tv) W)) := fun W hW => by rw [htv]; exact ready3_any q L W (hL.later hW) hs
  have HL := Lib.hid hL
  have HTv := Lib.hid htv
  have HLedA : Hid (∀ f s k W, Below w.heap.size w W → L.chk = 0 → f < L.st.length → s ≤ L.sn.length → k < L.cs.length → Calls Tryz.prog 29 #[landV q L, .int .i64 (f : Nat), .int .i64 (s : Nat), .int .i64 (k : Nat), .slice wa wl.length wc'] W (RetLed L f s k W)) := fun f s k W hW hc hf hs hk => Led_any q L f s k wl wa wc' W (hL.later hW) hc hf hs hk (RowAt.later hw hW) hwl hwb
  clear hL hs htv hw hwl hwb
  generalize wl.length = wn at *
  go_enter Tryz.func12, Tryz.ntmps12
  go_wp2_with fail
  refine named1 (p := fun W => Calls _ _ _ W _) ?_
  intro W hW B5
  refine (HReady.out W hW).mono ?_
  rintro e w1 ⟨rfl, hb1⟩
  replace hW := over hW hb1
  (try clear c5 t5); replace B5 := B5.later hb1; have c5 := B5.cell; have t5 := B5.lt
  clear hb1 HReady
  cases tv with
  | false =>
    go_wp2_with fail
    refine (awake_any _).mono ?_
    rintro e w2 ⟨rfl, hb2⟩
    replace hW := over hW hb2
    clear hb2
    go_wp2_with fail
    go_ret
    exact ⟨rfl, hW⟩
  | true =>
    have htv := HTv.out.symm
    unfold ready3B at htv
    simp only [Bool.and_eq_true, beq_iff_eq] at htv
    have HS := Lib.hid (thin_small htv.1)
    have hc := htv.2
    obtain ⟨n6, n0, e12, e0, m4, m0⟩ := st_six hc
    have HN1 := Lib.hid (fun W => numbers_any q L a b c W hc ga gb gc)
    have hf : a % L.st.length < L.st.length := Nat.mod_lt _ n0
    have hs : b % (L.sn.length + 1) ≤ L.sn.length := Nat.le_of_lt_succ (Nat.mod_lt _ (by omega))
    have hk : c % L.cs.length < L.cs.length := Nat.mod_lt _ m0
    generalize a % L.st.length = f at *
    generalize b % (L.sn.length + 1) = s at *
    generalize c % L.cs.length = k at *
    have HC := Lib.hid hc
    have HLd := Lib.hid (fun W hW => HLedA.out f s k W hW hc hf hs hk)
    clear htv HTv hc HLedA
    go_wp2_with fail
    refine (HN1.out _).mono ?_
    rintro e w2 ⟨rfl, hb2⟩
    replace hW := over hW hb2
    (try clear c5 t5); replace B5 := B5.later hb2; have c5 := B5.cell; have t5 := B5.lt
    clear hb2 HN1
    go_wp2_with fail
    refine (HLd.out _ hW).mono ?_
    rintro e w3 ⟨hl, ra, rc, rfl, hb3, hr3, hled⟩
    replace hW := over hW hb3
    (try clear c5 t5); replace B5 := B5.later hb3; have c5 := B5.cell; have t5 := B5.lt
    have HH := Lib.hid hr3
    obtain ⟨hch, _, hcan, hlen⟩ := hled
    obtain ⟨n, hn⟩ : ∃ n, n = hl.length := ⟨_, rfl⟩
    have HLn := Lib.hid hn
    have HL12 := Lib.hid hlen
    have HCh := Lib.hid hch
    have HCan := Lib.hid hcan
    have hta := chain_end hf hch
    have harr := chain_arr hs hch
    have HMem := Lib.hid (chain_mem hf hch)
    have HIs := Lib.hid (rIs_hp (q := q) (c := rc) HC.out hr3 hch hlen)
    have HEk := Lib.hid (sticE_ok HC.out hf hs hch hlen)
    have HPv : Hid (∀ u : Nat, u ≤ L.sn.length → Land.prvR L f (endR f hl) s (hl.map Hp.hi) u = ((stkF L hl 0).isNone && decide (arrA s hl ≤ u))) := fun u hu => prvR_at HC.out hf hs hu hch hlen rfl
    have HAr := Lib.hid (fun W (h : HopsAt W ra hl) => rArr_hp (c := rc) (s := s) h hf hch hlen e12)
    have HCv := Lib.hid (fun W (h : HopsAt W ra hl) => convR_hp (c := rc) h hlen)
    rw [← hn] at HIs HAr HCv ⊢ hlen
    generalize arrA s hl = av at *
    generalize endR f hl = ta at *
    clear hn hch hr3 hb3 HLd hcan
    go_wp2_with fail
    refine HIs.out.mono ?_
    rintro e w4 ⟨rfl, hb4⟩
    replace hW := over hW hb4
    replace HH := Lib.hid (HH.out.later hb4)
    (try clear c5 t5); replace B5 := B5.later hb4; have c5 := B5.cell; have t5 := B5.lt
    clear hb4 HIs
    go_wp2_with fail
    refine (land_any q L w4 (HL.out.later hW) HS.out).mono ?_
    rintro e w5 ⟨q1, rfl, hbx, hlx⟩
    replace hW := over hW hbx
    (try clear c5 t5); replace B5 := B5.later hbx; have c5 := B5.cell; have t5 := B5.lt
    have HL5 := Lib.hid hlx
    clear hlx
    replace HH := Lib.hid (HH.out.later hbx)
    clear hbx
    go_wp2_with fail
    refine (HCv.out w5 HH.out).mono ?_
    rintro e w6 ⟨xa, xc, rfl, hb6, hr6⟩
    replace hW := over hW hb6
    replace HH := Lib.hid (HH.out.later hb6)
    have HSt := Lib.hid (fun x hx => stick_hp (f := f) (s := s) (c := xc) (x := x) (HL5.out.later hb6) HS.out hr6 HL12.out hx)
    rw [← HLn.out] at HSt
    (try clear c5 t5); replace B5 := B5.later hb6; have c5 := B5.cell; have t5 := B5.lt
    clear hb6 hr6 HL5
    cases hsk : stkF L hl 0 with
    | none =>
      have hek := HEk.out
      rw [hsk] at hek
      have HSt2 := Lib.hid (HSt.out _ hek)
      have hpv := HPv.out av harr.2
      rw [hsk, decide_eq_true (Nat.le_refl av)] at hpv
      have HP1 : Hid (Land.prvR L f ta s (hl.map Hp.hi) (av : Int) = true) := hpv
      simp only at HSt2
      clear HSt HEk HPv hpv hek hsk
      go_wp2_with fail
      refine HSt2.out.mono ?_
      rintro e w7 ⟨rfl, hb7⟩
      replace hW := over hW hb7
      replace HH := Lib.hid (HH.out.later hb7)
      (try clear c5 t5); replace B5 := B5.later hb7; have c5 := B5.cell; have t5 := B5.lt
      clear hb7 HSt2
      go_wp2_with fail
      refine (land_any q L w7 (HL.out.later hW) HS.out).mono ?_
      rintro e w8 ⟨q2, rfl, hbx, hlx⟩
      replace hW := over hW hbx
      (try clear c5 t5); replace B5 := B5.later hbx; have c5 := B5.cell; have t5 := B5.lt
      have HL8 := Lib.hid hlx
      clear hlx
      replace HH := Lib.hid (HH.out.later hbx)
      clear hbx
      go_wp2_with fail
      refine (HCv.out w8 HH.out).mono ?_
      rintro e w9 ⟨ya, yc, rfl, hb9, hr9⟩
      replace hW := over hW hb9
      replace HH := Lib.hid (HH.out.later hb9)
      (try clear c5 t5); replace B5 := B5.later hb9; have c5 := B5.cell; have t5 := B5.lt
      have HL9 := Lib.hid (HL8.out.later hb9)
      have HR9 := Lib.hid hr9
      clear hb9 HL8 hr9
      go_wp2_with fail
      refine (HAr.out w9 HH.out).mono ?_
      rintro e w10 ⟨rfl, hb10⟩
      replace hW := over hW hb10
      have HPx := Lib.hid (prove_hp (u := (av : Int)) (c := yc) (HL9.out.later hb10) HS.out (HR9.out.later hb10) HL12.out HP1.out)
      rw [← HLn.out] at HPx
      (try clear c5 t5); replace B5 := B5.later hb10; have c5 := B5.cell; have t5 := B5.lt
      clear hb10 HL9 HR9 HP1
      go_wp2_with fail
      refine HPx.out.mono ?_
      rintro e w11 ⟨rfl, hb11⟩
      replace hW := over hW hb11
      clear hb11 HPx B5 c5 t5
      go_wp2_with fail
      refine (awake_any _).mono ?_
      rintro e w12 ⟨rfl, hb12⟩
      replace hW := over hW hb12
      clear hb12
      go_wp2_with fail
      go_ret
      exact ⟨rfl, hW⟩
    | some ik =>
      obtain ⟨i, j⟩ := ik
      have hek := HEk.out
      rw [hsk] at hek
      have HSt2 := Lib.hid (HSt.out _ hek)
      obtain ⟨p, hp, hjst, hjm, hpj, hbef, hlow⟩ := stkF_some hsk
      clear hjst
      have hpv := HPv.out L.sn.length (Nat.le_refl _)
      rw [hsk] at hpv
      have HP1 : Hid (Land.prvR L f ta s (hl.map Hp.hi) (L.sn.length : Int) = false) := hpv
      have hil : i < n := by have := HLn.out; have := (List.getElem?_eq_some_iff.1 hp).1; omega
      have hjk : j ≠ k := fun e => by
        have := HCan.out p (List.mem_of_getElem? hp)
        rw [← e, hpj] at this; cases this
      have HPp := Lib.hid hp
      have HPj := Lib.hid hpj
      have HBef := Lib.hid hbef
      have HLow := Lib.hid hlow
      obtain ⟨hp1, hp2, hp3⟩ := HMem.out p (List.mem_of_getElem? hp)
      simp only at HSt2
      clear HSt HEk HPv hpv hek hsk hp hpj hbef hlow
      go_wp2_with fail
      refine HSt2.out.mono ?_
      rintro e w7 ⟨rfl, hb7⟩
      replace hW := over hW hb7
      replace HH := Lib.hid (HH.out.later hb7)
      (try clear c5 t5); replace B5 := B5.later hb7; have c5 := B5.cell; have t5 := B5.lt
      clear hb7 HSt2
      obtain ⟨p1, o1, rfl, hC1⟩ := RowAt.at HH.out (show i < hl.length by rw [← HLn.out]; exact hil)
      obtain ⟨f0, f1, f2⟩ := cells_hp hC1 HPp.out
      have z1 := block_lt_of_cell f0
      obtain ⟨pf, pt, ph⟩ := p
      simp only at f0 f1 f2 hp1 hp2 hp3
      have HCk := Lib.hid (fun x hx W (hb : Below w7.heap.size w7 W) => rCan_any q L pf pt x ph W (HL.out.later (over hW hb)) HC.out hp1 hp2 hx hp3)
      have HCj := Lib.hid (HCk.out j hjm)
      rw [HPj.out] at HCj
      have r1 : (0 : Int) ≤ (i : Int) := by omega
      have r2 : (i : Int) < (n : Int) := by omega
      have d1 : decide (n ≤ i) = false := by simp; omega
      have d2 : decide (L.cs.length ≤ j) = false := by simp; omega
      have d4 : decide ((i : Int) < 0) = false := by simp
      have d5 : decide ((j : Int) < 0) = false := by simp
      have d6 : decide ((n : Int) ≤ (i : Int)) = false := by simp; omega
      have d7 : decide ((L.cs.length : Int) ≤ (j : Int)) = false := by simp; omega
      have d3 : ((j : Int) == (k : Int)) = false := by rw [beq_eq_false_iff_ne]; omega
      clear hC1
      go_wp2_with fail
      refine Fat.wp_region_tail 48 (by kernel_rfl) (by kernel_rfl) ?_
      simp only [List.take_succ_cons, List.drop_succ_cons, List.take_nil, List.drop_nil]
      repeat (go_big_quiet_step (exact Calls.regrown_of (HCj.out _ (below_regrown _ _ _))))
      refine wpQuiet_nil ?_
      intro w8 hb8
      replace hW := over hW hb8
      replace HH := Lib.hid (HH.out.later hb8)
      replace HCk := Lib.hid (fun x hx W (hb : Below w8.heap.size w8 W) => HCk.out x hx W (over hb8 hb))
      have HB5 := Lib.hid (B5.later hb8)
      have HW8 := Lib.hid hW
      clear hb8 HCj d1 d2 d3 d4 d5 d6 d7 f0 f1 f2 z1 B5 c5 t5 hjk hW
      go_wp2_with fail
      go_loopw [20] (fun i' wr => ∃ x : Nat, x ≤ i ∧ i' = .int .i64 x ∧ Below w8.heap.size w8 wr) (fun i' _ => i - (intOf i').toNat)
      case atStart => exact ⟨0, Nat.zero_le _, rfl, Below.refl _ _⟩
      case round =>
        obtain ⟨x, hx, rfl, hb⟩ := hrel
        have B5 := HB5.out.later hb
        by_cases hlt : x < i
        · obtain ⟨y, hy⟩ : ∃ y, hl[x]? = some y := ⟨hl[x]'(by have := HLn.out; omega), by simp⟩
          have hal := alws_stick.2 (HBef.out x y hlt hy)
          obtain ⟨hy1, hy2, hy3⟩ := HMem.out y (List.mem_of_getElem? hy)
          obtain ⟨p2, o2, hpp, hC1⟩ := RowAt.at (HH.out.later hb) (show x < hl.length by have := HLn.out; omega)
          cases hpp
          obtain ⟨f0, f1, f2⟩ := cells_hp hC1 hy
          have z1 := block_lt_of_cell f0
          obtain ⟨yf, yt, yh⟩ := y
          simp only at f0 f1 f2 hy1 hy2 hy3 hal
          have HAl := Lib.hid (fun W (hW : Below wr.heap.size wr W) => rAlways_any q L yf yt yh W (HL.out.later (over (over HW8.out hb) hW)) HC.out hy1 hy2 hy3)
          rw [hal] at HAl
          have r3 : (0 : Int) ≤ (x : Int) := by omega
          have r4 : (x : Int) < (n : Int) := by omega
          have c5 := B5.cell; have t5 := B5.lt
          clear hC1 hy hal
          go_wp2_with fail
          refine Fat.wp_region_tail 18 (by kernel_rfl) (by kernel_rfl) ?_
          simp only [List.take_succ_cons, List.drop_succ_cons, List.take_nil, List.drop_nil]
          repeat (go_big_quiet_step (exact Calls.regrown_of (HAl.out _ (below_regrown _ _ _))))
          refine wpQuiet_nil ?_
          intro w9 hb9
          clear HAl f0 f1 f2 z1 c5 t5 B5 r3 r4 hy1 hy2 hy3
          go_wp2_with fail
          go_roundw
          case rel => exact ⟨x + 1, by omega, by go_num, over hb hb9⟩
          case measure => simp [intOf]; omega
        · obtain rfl : x = i := by omega
          clear B5 hlt
          go_wp2_with fail
          go_loopw [21] (fun i' wr => ∃ x : Nat, x ≤ j ∧ i' = .int .i64 x ∧ Below w8.heap.size w8 wr) (fun i' _ => j - (intOf i').toNat)
          case atStart => exact ⟨0, Nat.zero_le _, rfl, hb⟩
          case round =>
            clear hb
            obtain ⟨y, hy, rfl, hb⟩ := hrel
            have B5 := HB5.out.later hb
            by_cases hlt : y < j
            · have HCy := Lib.hid (HCk.out y (by omega))
              rw [HLow.out y hlt] at HCy
              obtain ⟨p2, o2, hpp, hC1⟩ := RowAt.at (HH.out.later hb) (show x < hl.length by have := HLn.out; omega)
              cases hpp
              obtain ⟨f0, f1, f2⟩ := cells_hp hC1 HPp.out
              have z1 := block_lt_of_cell f0
              simp only at f0 f1 f2
              have HCz := Lib.hid (fun W (hW : Below wr.heap.size wr W) => HCy.out W (over hb hW))
              have c5 := B5.cell; have t5 := B5.lt
              clear hC1 HCy
              go_wp2_with fail
              refine Fat.wp_region_tail 19 (by kernel_rfl) (by kernel_rfl) ?_
              simp only [List.take_succ_cons, List.drop_succ_cons, List.take_nil, List.drop_nil]
              repeat (go_big_quiet_step (exact Calls.regrown_of (HCz.out _ (below_regrown _ _ _))))
              refine wpQuiet_nil ?_
              intro w9 hb9
              clear HCz f0 f1 f2 z1 c5 t5 B5
              go_wp2_with fail
              go_roundw
              case rel => exact ⟨y + 1, by omega, by go_num, over hb hb9⟩
              case measure => simp [intOf]; omega
            · obtain rfl : y = j := by omega
              have HBw := Lib.hid (over HW8.out hb)
              have HHw := Lib.hid (HH.out.later hb)
              have HS5 : Hid (∀ W, Below wr.heap.size wr W → ∀ o, W.cell? ⟨w.heap.size, o, none⟩ = (landC q L)[o]?) := fun W hb => (B5.later hb).cell
              have HLw : Hid (∀ W, Below wr.heap.size wr W → LandAt W q L) := fun W h => HL.out.later (over HBw.out h)
              clear HCk HLow HBef HPj HCan HMem HAr HCh hb hlt
              have c5 := B5.cell; have t5 := B5.lt
              go_upto_region 21 with fail
              refine wp_region_noPanic ?_
              refine wp_region_held_drew (S := (fun w' => ∀ o, w'.cell? ⟨w.heap.size, o, none⟩ = (landC q L)[o]?)) (by kernel_rfl) (by (try dsimp only); exact HS5.out _ (by repeat (first | exact Below.refl _ _ | refine al ?_ _ | refine Below.drew ?_ | refine sc ?_ (by simp) _))) (fun hHeld => ?_)
              refine wpAnyH_take (i := 0) (oi := _) (v := ?_) rfl (by kernel_rfl) (by kernel_rfl) (by kernel_rfl) (fun _ _ _ h => h) (Or.inl ⟨by rfl, ?_⟩) (by assumption) ?_
              rotate_left
              · (intro w hSw; (try dsimp only at hSw); go_simp; try with_reducible rfl)
              (try dsimp only); (try simp only [Act.put]); (try simp only [List.setIfInBounds_toArray]); (try simp only [List.set_cons_succ]); (try simp only [List.set_cons_zero])
              refine wpAnyH_take (i := 2) (oi := _) (v := ?_) rfl (by kernel_rfl) (by kernel_rfl) (by kernel_rfl) (fun _ _ _ h => h) (Or.inl ⟨by rfl, ?_⟩) (by assumption) ?_
              rotate_left
              · (intro w hSw; (try dsimp only at hSw); go_simp; try with_reducible rfl)
              (try dsimp only); (try simp only [Act.put]); (try simp only [List.setIfInBounds_toArray]); (try simp only [List.set_cons_succ]); (try simp only [List.set_cons_zero])
              refine wpAnyH_take (i := 3) (oi := _) (v := ?_) rfl (by kernel_rfl) (by kernel_rfl) (by kernel_rfl) (fun _ _ _ h => h) (Or.inl ⟨by rfl, ?_⟩) (by assumption) ?_
              rotate_left
              · (intro w hSw; (try dsimp only at hSw); go_simp; try with_reducible rfl)
              (try dsimp only); (try simp only [Act.put]); (try simp only [List.setIfInBounds_toArray]); (try simp only [List.set_cons_succ]); (try simp only [List.set_cons_zero])
              refine wpAnyH_take (i := 4) (oi := _) (v := ?_) rfl (by kernel_rfl) (by kernel_rfl) (by kernel_rfl) (fun _ _ _ h => h) (Or.inl ⟨by rfl, ?_⟩) (by assumption) ?_
              rotate_left
              · (intro w hSw; (try dsimp only at hSw); go_simp; try with_reducible rfl)
              (try dsimp only); (try simp only [Act.put]); (try simp only [List.setIfInBounds_toArray]); (try simp only [List.set_cons_succ]); (try simp only [List.set_cons_zero])
              refine wpAnyH_take (i := 5) (oi := _) (v := ?_) rfl (by kernel_rfl) (by kernel_rfl) (by kernel_rfl) (fun _ _ _ h => h) (Or.inl ⟨by rfl, ?_⟩) (by assumption) ?_
              rotate_left
              · (intro w hSw; (try dsimp only at hSw); go_simp; try with_reducible rfl)
              (try dsimp only); (try simp only [Act.put]); (try simp only [List.setIfInBounds_toArray]); (try simp only [List.set_cons_succ]); (try simp only [List.set_cons_zero])
              refine wpAnyH_take (i := 7) (oi := _) (v := ?_) rfl (by kernel_rfl) (by kernel_rfl) (by kernel_rfl) (fun _ _ _ h => h) (Or.inl ⟨by rfl, ?_⟩) (by assumption) ?_
              rotate_left
              · (intro w hSw; (try dsimp only at hSw); go_simp; try with_reducible rfl)
              (try dsimp only); (try simp only [Act.put]); (try simp only [List.setIfInBounds_toArray]); (try simp only [List.set_cons_succ]); (try simp only [List.set_cons_zero])
              refine wpAnyH_ready (rs := [1]) (by kernel_rfl) (by simp) ?_
              refine AllReadyH.cons (o := _) rfl (fun K hK => ?_) AllReadyH.nil
              go_simp
              refine (land_any q L _ (HLw.out _ (by repeat (first | exact Below.refl _ _ | refine al ?_ _ | refine Below.drew ?_ | refine sc ?_ (by simp) _))) HS.out).mono ?_
              rintro e wA ⟨qA, rfl, hbA, hlA⟩
              have HBA := Lib.hid (over (show Below wr.heap.size wr wr.drew from (by repeat (first | exact Below.refl _ _ | refine al ?_ _ | refine Below.drew ?_ | refine sc ?_ (by simp) _))) hbA)
              have HLA := Lib.hid hlA
              clear hbA hlA
              refine hK.out _ _ (by (try dsimp only); exact HS5.out _ HBA.out) (fun hHeld => ?_)
              clear hK K
              (try dsimp only); (try simp only [Act.put]); (try simp only [List.setIfInBounds_toArray]); (try simp only [List.set_cons_succ]); (try simp only [List.set_cons_zero])
              refine wpAnyH_ready (rs := [6]) (by kernel_rfl) (by simp) ?_
              refine AllReadyH.cons (o := _) rfl (fun K hK => ?_) AllReadyH.nil
              go_simp
              refine (HCv.out _ (HHw.out.later HBA.out)).mono ?_
              rintro e wB ⟨ya, yc, rfl, hbB, hrB⟩
              have HBB := Lib.hid (over HBA.out hbB)
              replace HLA := Lib.hid (HLA.out.later hbB)
              have HRB := Lib.hid hrB
              clear hbB hrB
              refine hK.out _ _ (by (try dsimp only); exact HS5.out _ HBB.out) (fun hHeld => ?_)
              clear hK K
              (try dsimp only); (try simp only [Act.put]); (try simp only [List.setIfInBounds_toArray]); (try simp only [List.set_cons_succ]); (try simp only [List.set_cons_zero])
              refine wpAnyH_ready (rs := [8]) (by kernel_rfl) (by simp) ?_
              refine AllReadyH.cons (o := _) rfl (fun K hK => ?_) AllReadyH.nil
              go_simp
              refine (rend_any q L _).mono ?_
              rintro e wC ⟨rfl, hbC⟩
              have HBC := Lib.hid (over HBB.out hbC)
              have HPx := Lib.hid (prove_hp (u := (L.sn.length : Int)) (c := yc) (HLA.out.later hbC) HS.out (HRB.out.later hbC) HL12.out HP1.out)
              rw [← HLn.out] at HPx
              clear hbC
              refine hK.out _ _ (by (try dsimp only); exact HS5.out _ HBC.out) (fun hHeld => ?_)
              clear hK K
              (try dsimp only); (try simp only [Act.put]); (try simp only [List.setIfInBounds_toArray]); (try simp only [List.set_cons_succ]); (try simp only [List.set_cons_zero])
              refine wpAnyH_ready (rs := [9]) (by kernel_rfl) (by simp) ?_
              refine AllReadyH.cons (o := _) rfl (fun K hK => ?_) AllReadyH.nil
              go_simp
              refine HPx.out.mono ?_
              rintro e wD ⟨rfl, hbD⟩
              have HBD := Lib.hid (over HBC.out hbD)
              clear hbD HPx
              refine hK.out _ _ (by (try dsimp only); exact HS5.out _ HBD.out) (fun hHeld => ?_)
              clear hK K
              (try dsimp only); (try simp only [Act.put]); (try simp only [List.setIfInBounds_toArray]); (try simp only [List.set_cons_succ]); (try simp only [List.set_cons_zero])
              refine wpAnyH_take (i := 10) (oi := _) (v := ?_) rfl (by kernel_rfl) (by kernel_rfl) (by kernel_rfl) (fun _ _ _ h => h) (Or.inl ⟨by rfl, ?_⟩) (by assumption) ?_
              rotate_left
              · (intro w hSw; (try dsimp only at hSw); go_simp; try with_reducible rfl)
              (try dsimp only); (try simp only [Act.put]); (try simp only [List.setIfInBounds_toArray]); (try simp only [List.set_cons_succ]); (try simp only [List.set_cons_zero])
              refine wpAnyH_take (i := 11) (oi := _) (v := ?_) rfl (by kernel_rfl) (by kernel_rfl) (by kernel_rfl) (fun _ _ _ h => h) (Or.inl ⟨by rfl, ?_⟩) (by assumption) ?_
              rotate_left
              · (intro w hSw; (try dsimp only at hSw); go_simp; try with_reducible rfl)
              (try dsimp only); (try simp only [Act.put]); (try simp only [List.setIfInBounds_toArray]); (try simp only [List.set_cons_succ]); (try simp only [List.set_cons_zero])
              refine wpAnyH_ready (rs := [12]) (by kernel_rfl) (by simp) ?_
              refine AllReadyH.cons (o := _) rfl (fun K hK => ?_) AllReadyH.nil
              go_simp
              refine (awake_any _).mono ?_
              rintro e wE ⟨rfl, hbE⟩
              have HBE := Lib.hid (over HBD.out hbE)
              clear hbE
              refine hK.out _ _ (by (try dsimp only); exact HS5.out _ HBE.out) (fun hHeld => ?_)
              clear hK K
              (try dsimp only); (try simp only [Act.put]); (try simp only [List.setIfInBounds_toArray]); (try simp only [List.set_cons_succ]); (try simp only [List.set_cons_zero])
              refine wpAnyH_take (i := 13) (oi := _) (v := ?_) rfl (by kernel_rfl) (by kernel_rfl) (by kernel_rfl) (fun _ _ _ h => h) (Or.inl ⟨by rfl, ?_⟩) (by assumption) ?_
              rotate_left
              · (intro w hSw; (try dsimp only at hSw); go_simp; try with_reducible rfl)
              (try dsimp only); (try simp only [Act.put]); (try simp only [List.setIfInBounds_toArray]); (try simp only [List.set_cons_succ]); (try simp only [List.set_cons_zero])
              refine wpAnyH_take (i := 14) (oi := _) (v := ?_) rfl (by kernel_rfl) (by kernel_rfl) (by kernel_rfl) (fun _ _ _ h => h) (Or.inl ⟨by rfl, ?_⟩) (by assumption) ?_
              rotate_left
              · (intro w hSw; (try dsimp only at hSw); go_simp; try with_reducible rfl)
              (try dsimp only); (try simp only [Act.put]); (try simp only [List.setIfInBounds_toArray]); (try simp only [List.set_cons_succ]); (try simp only [List.set_cons_zero])
              refine wpAnyH_done (by kernel_rfl) ?_ _
              refine NoPanic.normal ?_
              repeat (clear hHeld)
              (try simp only [List.getElem_toArray]); (try simp only [List.getElem_cons_succ]); (try simp only [List.getElem_cons_zero]); (try dsimp only); (try simp only [Act.put]); (try simp only [List.setIfInBounds_toArray]); (try simp only [List.set_cons_succ]); (try simp only [List.set_cons_zero])
              go_wp2_with fail
              go_ret
              exact ⟨rfl, over HBw.out HBE.out⟩
end Go.Proofs.YtfihdaoakfdlpaaGreat
