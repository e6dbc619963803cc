/- The statement on routes that work in a case, and on all cases: its walk. -/
import Derived.Test.YtfihdaoakfdlpaaGreatLR6
import Derived.Test.YtfihdaoakfdlpaaGreatLR2
import Derived.Test.YtfihdaoakfdlpaaGreatRB
import Derived.Test.YtfihdaoakfdlpaaGreatRE
open Go.RowKit
namespace Go.Proofs.YtfihdaoakfdlpaaGreat
open Go.Hill

theorem earlC_ok {L : Land} {f s k : Nat} (hc : L.chk = 0) (hf : f < L.st.length) (hs : s ≤ L.sn.length) (hk : k < L.cs.length) : Land.earlE L f s k = (Land.fins L f s k (-1), 0) := by
  unfold Land.earlE
  rw [if_pos (askr_ok hc hf hf hs hk)]; rfl
theorem stkC_ok {L : Land} {f t s : Nat} (hc : L.chk = 0) (hf : f < L.st.length) (ht : t < L.st.length) (hs : s ≤ L.sn.length) : Land.stkE L f t s = (L.stk f t s (-1), 0) := by
  unfold Land.stkE
  rw [if_pos (show L.askr f t s 0 = 0 from askr_ok (k := 0) hc hf ht hs (st_six hc).2.2.2.2.2)]; rfl
theorem take_mem {l : List Int} {j : Nat} {x y : Int} (hx : l[j]? = some x) : decide (y ∈ l.take (j + 1)) = (decide (y ∈ l.take j) || decide (x = y)) := by
  rw [List.take_add_one, hx]
  simp only [Option.toList_some, List.mem_append, List.mem_singleton]
  by_cases h1 : y ∈ l.take j <;> by_cases h2 : x = y <;> simp [h1, h2, eq_comm]
theorem surF_le2 (g : Nat → Int) (n : Nat) : (surF g n).2 ≤ n := by
  rcases surF_cases g n with ⟨h, _⟩ | ⟨h, _⟩
  · rw [h]; exact Nat.zero_le _
  · omega
set_option maxRecDepth 100000 in
set_option maxHeartbeats 8000000 in
theorem RelayCases_any (q : LV) (L : Land) (a b c : Nat) (wl : List Nat) (wa : Option Addr) (wc' : Nat) (w : World) (hL : LandAt w q L) (hs : Sane L) (ga : a < 256) (gb : b < 256) (gc : c < 256) (hw : WordsAt w wa wl) (hwl : wl.length ≤ 9223372036854775807) (hwb : ∀ n ∈ wl, n < 65536) :
    Calls Tryz.prog 5 #[landV q L, .int .u8 a, .int .u8 b, .int .u8 c, .slice wa wl.length wc'] w (Ret (.bool true) w) := by
  obtain ⟨tv, htv⟩ : ∃ tv, tv = ready3B L := ⟨_, rfl⟩
  have HReady : Hid (∀ W, Below w.heap.size w W → Calls Tryz.prog 27 #[landV q L] W (Ret (.bool tv) W)) := fun W hW => by rw [htv]; exact ready3_any q L W (hL.later hW) hs
  have HL := Lib.hid hL
  have HTv := Lib.hid htv
  have HLedA : Hid (∀ f s k W, Below w.heap.size w W → L.chk = 0 → f < L.st.length → s ≤ L.sn.length → k < L.cs.length → Calls Tryz.prog 29 #[landV q L, .int .i64 (f : Nat), .int .i64 (s : Nat), .int .i64 (k : Nat), .slice wa wl.length wc'] W (RetLed L f s k W)) := fun f s k W hW hc hf hs hk => Led_any q L f s k wl wa wc' W (hL.later hW) hc hf hs hk (RowAt.later hw hW) hwl hwb
  clear hL hs htv hw hwl hwb
  generalize wl.length = wn at *
  go_enter Tryz.func5, Tryz.ntmps5
  go_wp2_with fail
  refine named1 (p := fun W => Calls _ _ _ W _) ?_
  intro W hW B5
  refine (HReady.out W hW).mono ?_
  rintro e w1 ⟨rfl, hb1⟩
  replace hW := over hW hb1
  (try clear c5 t5); replace B5 := B5.later hb1; have c5 := B5.cell; have t5 := B5.lt
  clear hb1 HReady
  cases tv with
  | false =>
    go_wp2_with fail
    refine (awake_any _).mono ?_
    rintro e w2 ⟨rfl, hb2⟩
    replace hW := over hW hb2
    clear hb2
    go_wp2_with fail
    go_ret
    exact ⟨rfl, hW⟩
  | true =>
    have htv := HTv.out.symm
    unfold ready3B at htv
    simp only [Bool.and_eq_true, beq_iff_eq] at htv
    have HS := Lib.hid (thin_small htv.1)
    have hc := htv.2
    obtain ⟨n6, n0, e12, e0, m4, m0⟩ := st_six hc
    have HN1 := Lib.hid (fun W => numbers_any q L a b c W hc ga gb gc)
    have hf : a % L.st.length < L.st.length := Nat.mod_lt _ n0
    have hs : b % (L.sn.length + 1) ≤ L.sn.length := Nat.le_of_lt_succ (Nat.mod_lt _ (by omega))
    have hk : c % L.cs.length < L.cs.length := Nat.mod_lt _ m0
    generalize a % L.st.length = f at *
    generalize b % (L.sn.length + 1) = s at *
    generalize c % L.cs.length = k at *
    have HC := Lib.hid hc
    have HLd := Lib.hid (fun W hW => HLedA.out f s k W hW hc hf hs hk)
    clear htv HTv hc HLedA
    go_wp2_with fail
    refine (HN1.out _).mono ?_
    rintro e w2 ⟨rfl, hb2⟩
    replace hW := over hW hb2
    (try clear c5 t5); replace B5 := B5.later hb2; have c5 := B5.cell; have t5 := B5.lt
    clear hb2 HN1
    go_wp2_with fail
    refine (HLd.out _ hW).mono ?_
    rintro e w3 ⟨hl, ra, rc, rfl, hb3, hr3, hled⟩
    replace hW := over hW hb3
    (try clear c5 t5); replace B5 := B5.later hb3; have c5 := B5.cell; have t5 := B5.lt
    have HH3 := Lib.hid hr3
    have HLedR := Lib.hid hled
    have hlen := hled.len
    obtain ⟨n, hn⟩ : ∃ n, n = hl.length := ⟨_, rfl⟩
    rw [← hn] at hlen ⊢
    have HLn := Lib.hid hn
    have HIs := Lib.hid (rIsRoute_any q L f s (hl.map Hp.hi) ra rc w3 HC.out (hops_his hr3) (by rw [List.length_map]; omega))
    rw [List.length_map, ← hn, chain_lead hled.ch, isrV, show (some ((endR f hl : Nat) : Int)).getD 0 = ((endR f hl : Nat) : Int) from rfl, show (some ((endR f hl : Nat) : Int)).isSome = true from rfl, decide_eq_true hlen, Bool.and_self] at HIs
    have hta := chain_end hf hled.ch
    have hhat := chain_hat (k := k) hs hf (by rw [show L.hat f s k (-1) f = s from Rel.hat_from]; exact Int.le_refl _) hled.ch hled.can
    have harr := chain_arr hs hled.ch
    have HAr := Lib.hid (fun W (hb : Below w3.heap.size w3 W) => rArrives_any s (hl.map Hp.hi) ra rc W (hops_his (hr3.later hb)) (by rw [List.length_map]; omega) fun p hp => by
      obtain ⟨y, hy, rfl⟩ := List.mem_map.1 hp
      have := (chain_mem hf hled.ch y hy).2.2
      show (0 : Int) ≤ (y.hr : Int) ∧ (y.hr : Int) ≤ 1000
      omega)
    rw [List.length_map, ← hn, arrF_hp] at HAr
    generalize arrA s hl = av at *
    generalize endR f hl = ta at *
    have hfp := Go.Hill.fin_pos (t := ta) (k := k) (f := f) hs (by omega)
    have hfe := Go.Hill.fin_eq (t := ta) (k := k) (f := f) hs (by omega)
    have HTa : Hid ((Land.fins L f s k (-1))[ta]? = some (L.fin f s k (-1) ta)) := fins_at hta
    have HTf : Hid ((Land.fins L f s k (-1))[f]? = some (s : Int)) := by show _ = _; rw [fins_at hf, fin_from]
    rw [← hfe] at hhat
    have HE1 := Lib.hid (earlC_ok HC.out hf hs hk)
    have hfn : (Land.fins L f s k (-1)).length = L.st.length := fins_len
    obtain ⟨g, hg⟩ : ∃ g : Nat → Int, g = fun i => L.fin f s i (-1) ta := ⟨_, rfl⟩
    have HEo := Lib.hid (fun i hi => earlC_ok (k := i) HC.out hf hs hi)
    have HAt : Hid (∀ i, i < L.cs.length → (Land.fins L f s i (-1))[ta]? = some (g i)) := fun i _ => by rw [hg]; exact fins_at hta
    have HFl : Hid (∀ i, i < L.cs.length → (Land.fins L f s i (-1)).length = L.st.length) := fun i _ => fins_len
    have HMem : Hid (∀ i, i < L.cs.length → ((i : Int) ∈ L.stk f ta s (-1) ↔ g i < 0)) := fun i hi => by rw [hg]; exact (mem_stk hi).trans (fin_lt hs).symm
    have HSf : Hid ((L.sur f ta s (-1)).1 ≤ L.sn.length → surF g L.cs.length = L.sur f ta s (-1)) := fun h => by rw [hg]; exact surfin hs h
    have HSu := Lib.hid (sureE_ok HC.out hf hta hs)
    have HSk := Lib.hid (stkC_ok HC.out hf hta hs)
    have HNil := Lib.hid (stk_nil (L := L) (f := f) (t := ta) (s := s) (out := -1))
    have hsl4 : (L.stk f ta s (-1)).length ≤ L.cs.length := sel_len _ _
    generalize L.fin f s k (-1) ta = tv at *
    generalize Land.fins L f s k (-1) = f0 at *
    clear hn hfe hg HLd
    go_wp2_with fail
    refine HIs.out.mono ?_
    rintro e w4 ⟨rfl, hb4⟩
    replace hW := over hW hb4
    replace HAr := Lib.hid (fun W (hb : Below w4.heap.size w4 W) => HAr.out W (over hb4 hb))
    (try clear c5 t5); replace B5 := B5.later hb4; have c5 := B5.cell; have t5 := B5.lt
    clear hb4 HIs
    go_wp2_with fail
    refine (land_any q L w4 (HL.out.later hW) HS.out).mono ?_
    rintro e w5 ⟨q1, rfl, hbx, hlx⟩
    replace hW := over hW hbx
    (try clear c5 t5); replace B5 := B5.later hbx; have c5 := B5.cell; have t5 := B5.lt
    have HL5 := Lib.hid hlx
    clear hlx
    replace HAr := Lib.hid (fun W (hb : Below w5.heap.size w5 W) => HAr.out W (over hbx hb))
    clear hbx
    go_wp2_with fail
    refine (Earliest_any q1 L f s k w5 HL5.out HS.out).mono ?_
    rw [HE1.out]
    rintro e w6 ⟨ea, ec, rfl, hb6, hi6⟩
    replace hW := over hW hb6
    replace HAr := Lib.hid (fun W (hb : Below w6.heap.size w6 W) => HAr.out W (over hb6 hb))
    (try clear c5 t5); replace B5 := B5.later hb6; have c5 := B5.cell; have t5 := B5.lt
    simp only at hi6
    obtain ⟨p1, o1, rfl, hC1⟩ := RowAt.at hi6 (show f < f0.length by omega)
    have e1 := cells_one hC1 HTf.out
    have e2 := cells_one hC1 HTa.out
    have z1 := block_lt_of_cell e1
    have r1 : (0 : Int) ≤ (f : Int) := by omega
    have r2 : (f : Int) < (f0.length : Int) := by omega
    have r3 : (0 : Int) ≤ (ta : Int) := by omega
    have r4 : (ta : Int) < (f0.length : Int) := by omega
    have r5 : (f : Int) < (L.st.length : Int) := by omega
    have r6 : (ta : Int) < (L.st.length : Int) := by omega
    have d1 : decide (tv < 0) = false := by simp; omega
    have d2 : decide ((av : Int) < tv) = false := by simp; omega
    clear hb6 HL5 HE1 hi6 hC1 HTf HTa
    go_wp2_with fail
    refine Fat.wp_region_tail 39 (by kernel_rfl) (by kernel_rfl) ?_
    simp only [List.take_succ_cons, List.drop_succ_cons, List.take_nil, List.drop_nil]
    repeat (go_big_quiet_step (exact Calls.regrown_of (HAr.out _ (below_regrown _ _ _))))
    refine wpQuiet_nil ?_
    intro w7 hb7
    replace hW := over hW hb7
    (try clear c5 t5); replace B5 := B5.later hb7; have c5 := B5.cell; have t5 := B5.lt
    clear hb7 HAr e1 e2 z1 r1 r2 r3 r4 r5 r6 d1 d2 hfp hhat hfn
    go_wp2_with fail
    refine (land_any q L w7 (HL.out.later hW) HS.out).mono ?_
    rintro e w8 ⟨q2, rfl, hbx, hlx⟩
    replace hW := over hW hbx
    (try clear c5 t5); replace B5 := B5.later hbx; have c5 := B5.cell; have t5 := B5.lt
    have HL8 := Lib.hid hlx
    clear hbx hlx
    go_wp2_with fail
    obtain ⟨⟨sv, sk, se⟩, hsu⟩ : ∃ r, Land.sureE L f ta s = r := ⟨_, rfl⟩
    have HSu2 := Lib.hid hsu
    refine (Sure_any q2 L f ta s w8 HL8.out HS.out).mono ?_
    rw [HSu2.out]
    rintro e w9 ⟨rfl, hb9⟩
    replace hW := over hW hb9
    (try clear c5 t5); replace B5 := B5.later hb9; have c5 := B5.cell; have t5 := B5.lt
    rw [HSu.out] at hsu
    have HSu3 := Lib.hid hsu
    clear hb9 HL8 HSu HSu2 hsu
    go_wp2_with fail
    refine (land_any q L w9 (HL.out.later hW) HS.out).mono ?_
    rintro e w10 ⟨q3, rfl, hbx, hlx⟩
    replace hW := over hW hbx
    (try clear c5 t5); replace B5 := B5.later hbx; have c5 := B5.cell; have t5 := B5.lt
    have HL10 := Lib.hid hlx
    clear hbx hlx
    go_wp2_with fail
    refine (Stuck_any q3 L f ta s w10 HL10.out HS.out).mono ?_
    rw [HSk.out]
    rintro e w11 ⟨sa, sc, rfl, hb11, hi11⟩
    replace hW := over hW hb11
    (try clear c5 t5); replace B5 := B5.later hb11; have c5 := B5.cell; have t5 := B5.lt
    have HSl := Lib.hid (show IntsAt w11 sa (L.stk f ta s (-1)) from hi11)
    clear hb11 HL10 HSk hi11
    have HB5 := Lib.hid B5
    by_cases hst : (L.sn.length : Int) < (L.sur f ta s (-1)).1
    · have hsu := HSu3.out
      rw [if_pos hst] at hsu
      simp only [Prod.mk.injEq] at hsu
      obtain ⟨rfl, rfl, rfl⟩ := hsu
      have hpos : 0 < (L.stk f ta s (-1)).length := List.length_pos_iff.2 fun h => by have := HNil.out.1 h; omega
      generalize L.stk f ta s (-1) = sl at *
      have HSlen : Hid (sl.length = sl.length) := rfl
      have d1 : ((sl.length : Int) == 0) = false := by rw [beq_eq_false_iff_ne]; omega
      clear HNil HSu3 HSf hst hpos
      simp only
      go_wp2_with fail
      clear d1 B5 c5 t5
      go_loopw [24, 25, 26] (fun v1 v2 i' wr => ∃ i : Nat, i ≤ L.cs.length ∧ i' = .int .i64 i ∧ v1 = .int .i64 (surF g i).1 ∧ v2 = .int .i64 (((surF g i).2 : Nat) : Int) ∧ Below w.heap.size w wr ∧ Box wr w.heap.size (landC q L) 27 ∧ IntsAt wr sa sl) (fun _ _ i' _ => L.cs.length - (intOf i').toNat)
      case atStart => exact ⟨0, Nat.zero_le _, rfl, rfl, rfl, hW, HB5.out, HSl.out⟩
      case round =>
        clear HB5 HSl hW
        obtain ⟨i, hi, rfl, rfl, rfl, hW, B5, hsl⟩ := hrel
        have HSl := Lib.hid hsl
        have hsnd : (surF g i).2 ≤ i := surF_le2 g i
        have HSn : Hid (surF g (i + 1) = if (surF g i).1 < g i then (g i, i) else surF g i) := rfl
        obtain ⟨⟨lt, fs⟩, hsu⟩ : ∃ x, surF g i = x := ⟨_, rfl⟩
        rw [hsu] at HSn hsnd ⊢
        have HSu := Lib.hid hsu
        clear hsl hsu
        have c5 := B5.cell; have t5 := B5.lt
        by_cases hlt : i < L.cs.length
        · have r1 : (i : Int) < (L.cs.length : Int) := by omega
          have hE := HEo.out i hlt
          have HE := Lib.hid hE
          have hat := HAt.out i hlt
          have HMi := Lib.hid (HMem.out i hlt)
          have hln := HFl.out i hlt
          obtain ⟨fl, hfl⟩ : ∃ fl, fl = Land.fins L f s i (-1) := ⟨_, rfl⟩
          rw [← hfl] at HE hat hln
          obtain ⟨gv, hgv⟩ : ∃ gv, gv = g i := ⟨_, rfl⟩
          rw [← hgv] at hat HMi HSn
          have HHat := Lib.hid hat
          clear hE hat hfl hgv
          go_wp2_with fail
          refine (land_any q L wr (HL.out.later hW) HS.out).mono ?_
          rintro e wA ⟨qA, rfl, hbx, hlx⟩
          replace hW := over hW hbx
          (try clear c5 t5); replace B5 := B5.later hbx; have c5 := B5.cell; have t5 := B5.lt
          have HLA := Lib.hid hlx
          clear hlx
          go_wp2_with fail
          refine (Earliest_any qA L f s i wA HLA.out HS.out).mono ?_
          rw [HE.out]
          rintro e wB ⟨ea, ec, rfl, hbB, hiB⟩
          replace hW := over hW hbB
          (try clear c5 t5); replace B5 := B5.later hbB; have c5 := B5.cell; have t5 := B5.lt
          have HEa := Lib.hid (show IntsAt wB ea fl from hiB)
          replace HSl := Lib.hid ((HSl.out.later hbx).later hbB)
          clear hbB hiB HLA HE hbx
          have hne : ((fl.length : Int) != (L.st.length : Int)) = false := by simp; omega
          go_wp2_with fail
          clear hne
          have HBB := Lib.hid B5
          have HWB := Lib.hid hW
          clear B5 c5 t5 hW
          go_loopw [29, 30] (fun b' j' wx => ∃ j : Nat, j ≤ sl.length ∧ j' = .int .i64 j ∧ b' = .bool (decide ((i : Int) ∈ sl.take j)) ∧ Below wB.heap.size wB wx) (fun _ j' _ => sl.length - (intOf j').toNat)
          case atStart => exact ⟨0, Nat.zero_le _, rfl, by simp, Below.refl _ _⟩
          case round =>
            obtain ⟨j, hj, rfl, rfl, hbx⟩ := hrel
            by_cases hjl : j < sl.length
            · (try (exfalso; omega))
              all_goals
                obtain ⟨p1, o1, rfl, hC1⟩ := RowAt.at (HSl.out.later hbx) (show j < sl.length by have := HSlen.out; omega)
                obtain ⟨y, hy⟩ : ∃ y, sl[j]? = some y := ⟨sl[j]'(by have := HSlen.out; omega), by simp⟩
                have e1 := cells_one hC1 hy
                have z1 := block_lt_of_cell e1
                have HTk := Lib.hid (take_mem (y := (i : Int)) hy)
                obtain ⟨b, hb⟩ : ∃ b, b = decide ((i : Int) ∈ sl.take j) := ⟨_, rfl⟩
                rw [← hb] at HTk ⊢
                have r3 : (0 : Int) ≤ (j : Int) := by omega
                have r4 : (j : Int) < ((sl.length : Nat) : Int) := by omega
                clear hC1 hy hb
                cases b with
                | true =>
                  clear e1 z1
                  go_wp2_with fail
                  go_roundw
                  case rel => exact ⟨j + 1, by omega, by go_num, by rw [HTk.out]; rfl, hbx⟩
                  case measure => simp [intOf]; omega
                | false =>
                  obtain ⟨bq, hbq⟩ : ∃ bq, (y == (i : Int)) = bq := ⟨_, rfl⟩
                  have HBq := Lib.hid hbq
                  clear hbq
                  go_wp2_with fail
                  go_roundw
                  case rel => exact ⟨j + 1, by omega, by go_num, by rw [HTk.out, Bool.false_or]; rfl, hbx⟩
                  case measure => simp [intOf]; omega
            · obtain rfl : j = sl.length := by omega
              rw [List.take_of_length_le (show sl.length ≤ sl.length by have := HSlen.out; omega)]
              obtain ⟨b, hb⟩ : ∃ b, b = decide ((i : Int) ∈ sl) := ⟨_, rfl⟩
              rw [← hb]
              have hbg : b = decide (gv < 0) := by rw [hb]; exact decide_eq_decide.2 HMi.out
              subst hbg
              have B5 := HBB.out.later hbx
              have hW := over HWB.out hbx
              have hsl := HSl.out.later hbx
              have HSx := Lib.hid hsl
              have htl : ta < fl.length := by omega
              obtain ⟨p1, o1, rfl, hC1⟩ := RowAt.at (HEa.out.later hbx) htl
              have e1 := cells_one hC1 HHat.out
              have z1 := block_lt_of_cell e1
              have r3 : (0 : Int) ≤ (ta : Int) := by omega
              have r4 : (ta : Int) < (fl.length : Int) := by omega
              have HBx := Lib.hid B5
              clear hb hC1 hsl htl hjl HMi B5
              by_cases hgl : lt < gv
              · have hsn := HSn.out
                rw [if_pos hgl] at hsn
                have HS2 := Lib.hid hsn
                clear hsn HSn
                go_wp2_with fail
                go_roundw
                case rel => exact ⟨i + 1, by omega, by go_num, by rw [HS2.out], by rw [HS2.out], hW, HBx.out, HSx.out⟩
                case measure => simp [intOf]; omega
              · have hsn := HSn.out
                rw [if_neg hgl] at hsn
                have HS2 := Lib.hid hsn
                clear hsn HSn
                go_wp2_with fail
                go_roundw
                case rel => exact ⟨i + 1, by omega, by go_num, by rw [HS2.out], by rw [HS2.out], hW, HBx.out, HSx.out⟩
                case measure => simp [intOf]; omega
        · obtain rfl : i = L.cs.length := by omega
          clear B5 hlt
          skip
          clear HSn HSl
          go_wp2_with fail
          refine (awake_any _).mono ?_
          rintro e wz ⟨rfl, hbz⟩
          replace hW := over hW hbz
          clear hbz
          go_wp2_with fail
          go_ret
          exact ⟨rfl, hW⟩
    · have hsu := HSu3.out
      rw [if_neg hst] at hsu
      have hsf := HSf.out (by omega)
      rw [← hsf] at hsu
      have hnil := HNil.out.2 (by omega)
      have HF := Lib.hid hsu
      rw [hnil] at HSl HMem ⊢
      clear HNil HSu3 HSf hst hsu hnil hsf hsl4
      obtain ⟨sl, hsl⟩ : ∃ sl : List Int, sl = [] := ⟨_, rfl⟩
      rw [← hsl] at HSl HMem
      have HSlen : Hid (sl.length = 0) := by show _ = _; rw [hsl]; rfl
      clear hsl
      simp only [Prod.mk.injEq] at HF
      obtain ⟨rfl, rfl, rfl⟩ := HF.out
      simp only
      go_wp2_with fail
      clear B5 c5 t5
      go_loopw [24, 25, 26] (fun v1 v2 i' wr => ∃ i : Nat, i ≤ L.cs.length ∧ i' = .int .i64 i ∧ v1 = .int .i64 (surF g i).1 ∧ v2 = .int .i64 (((surF g i).2 : Nat) : Int) ∧ Below w.heap.size w wr ∧ Box wr w.heap.size (landC q L) 27 ∧ IntsAt wr sa sl) (fun _ _ i' _ => L.cs.length - (intOf i').toNat)
      case atStart => exact ⟨0, Nat.zero_le _, rfl, rfl, rfl, hW, HB5.out, HSl.out⟩
      case round =>
        clear HB5 HSl hW
        obtain ⟨i, hi, rfl, rfl, rfl, hW, B5, hsl⟩ := hrel
        have HSl := Lib.hid hsl
        have hsnd : (surF g i).2 ≤ i := surF_le2 g i
        have HSn : Hid (surF g (i + 1) = if (surF g i).1 < g i then (g i, i) else surF g i) := rfl
        obtain ⟨⟨lt, fs⟩, hsu⟩ : ∃ x, surF g i = x := ⟨_, rfl⟩
        rw [hsu] at HSn hsnd ⊢
        have HSu := Lib.hid hsu
        clear hsl hsu
        have c5 := B5.cell; have t5 := B5.lt
        by_cases hlt : i < L.cs.length
        · have r1 : (i : Int) < (L.cs.length : Int) := by omega
          have hE := HEo.out i hlt
          have HE := Lib.hid hE
          have hat := HAt.out i hlt
          have HMi := Lib.hid (HMem.out i hlt)
          have hln := HFl.out i hlt
          obtain ⟨fl, hfl⟩ : ∃ fl, fl = Land.fins L f s i (-1) := ⟨_, rfl⟩
          rw [← hfl] at HE hat hln
          obtain ⟨gv, hgv⟩ : ∃ gv, gv = g i := ⟨_, rfl⟩
          rw [← hgv] at hat HMi HSn
          have HHat := Lib.hid hat
          clear hE hat hfl hgv
          go_wp2_with fail
          refine (land_any q L wr (HL.out.later hW) HS.out).mono ?_
          rintro e wA ⟨qA, rfl, hbx, hlx⟩
          replace hW := over hW hbx
          (try clear c5 t5); replace B5 := B5.later hbx; have c5 := B5.cell; have t5 := B5.lt
          have HLA := Lib.hid hlx
          clear hlx
          go_wp2_with fail
          refine (Earliest_any qA L f s i wA HLA.out HS.out).mono ?_
          rw [HE.out]
          rintro e wB ⟨ea, ec, rfl, hbB, hiB⟩
          replace hW := over hW hbB
          (try clear c5 t5); replace B5 := B5.later hbB; have c5 := B5.cell; have t5 := B5.lt
          have HEa := Lib.hid (show IntsAt wB ea fl from hiB)
          replace HSl := Lib.hid ((HSl.out.later hbx).later hbB)
          clear hbB hiB HLA HE hbx
          have hne : ((fl.length : Int) != (L.st.length : Int)) = false := by simp; omega
          go_wp2_with fail
          clear hne
          have HBB := Lib.hid B5
          have HWB := Lib.hid hW
          clear B5 c5 t5 hW
          go_loopw [29, 30] (fun b' j' wx => ∃ j : Nat, j ≤ 0 ∧ j' = .int .i64 j ∧ b' = .bool (decide ((i : Int) ∈ sl.take j)) ∧ Below wB.heap.size wB wx) (fun _ j' _ => 0 - (intOf j').toNat)
          case atStart => exact ⟨0, Nat.zero_le _, rfl, by simp, Below.refl _ _⟩
          case round =>
            obtain ⟨j, hj, rfl, rfl, hbx⟩ := hrel
            by_cases hjl : j < 0
            · (try (exfalso; omega))
              all_goals
                obtain ⟨p1, o1, rfl, hC1⟩ := RowAt.at (HSl.out.later hbx) (show j < sl.length by have := HSlen.out; omega)
                obtain ⟨y, hy⟩ : ∃ y, sl[j]? = some y := ⟨sl[j]'(by have := HSlen.out; omega), by simp⟩
                have e1 := cells_one hC1 hy
                have z1 := block_lt_of_cell e1
                have HTk := Lib.hid (take_mem (y := (i : Int)) hy)
                obtain ⟨b, hb⟩ : ∃ b, b = decide ((i : Int) ∈ sl.take j) := ⟨_, rfl⟩
                rw [← hb] at HTk ⊢
                have r3 : (0 : Int) ≤ (j : Int) := by omega
                have r4 : (j : Int) < ((0 : Nat) : Int) := by omega
                clear hC1 hy hb
                cases b with
                | true =>
                  clear e1 z1
                  go_wp2_with fail
                  go_roundw
                  case rel => exact ⟨j + 1, by omega, by go_num, by rw [HTk.out]; rfl, hbx⟩
                  case measure => simp [intOf]; omega
                | false =>
                  obtain ⟨bq, hbq⟩ : ∃ bq, (y == (i : Int)) = bq := ⟨_, rfl⟩
                  have HBq := Lib.hid hbq
                  clear hbq
                  go_wp2_with fail
                  go_roundw
                  case rel => exact ⟨j + 1, by omega, by go_num, by rw [HTk.out, Bool.false_or]; rfl, hbx⟩
                  case measure => simp [intOf]; omega
            · obtain rfl : j = 0 := by omega
              rw [List.take_of_length_le (show sl.length ≤ 0 by have := HSlen.out; omega)]
              obtain ⟨b, hb⟩ : ∃ b, b = decide ((i : Int) ∈ sl) := ⟨_, rfl⟩
              rw [← hb]
              have hbg : b = decide (gv < 0) := by rw [hb]; exact decide_eq_decide.2 HMi.out
              subst hbg
              have B5 := HBB.out.later hbx
              have hW := over HWB.out hbx
              have hsl := HSl.out.later hbx
              have HSx := Lib.hid hsl
              have htl : ta < fl.length := by omega
              obtain ⟨p1, o1, rfl, hC1⟩ := RowAt.at (HEa.out.later hbx) htl
              have e1 := cells_one hC1 HHat.out
              have z1 := block_lt_of_cell e1
              have r3 : (0 : Int) ≤ (ta : Int) := by omega
              have r4 : (ta : Int) < (fl.length : Int) := by omega
              have HBx := Lib.hid B5
              clear hb hC1 hsl htl hjl HMi B5
              by_cases hgl : lt < gv
              · have hsn := HSn.out
                rw [if_pos hgl] at hsn
                have HS2 := Lib.hid hsn
                clear hsn HSn
                go_wp2_with fail
                go_roundw
                case rel => exact ⟨i + 1, by omega, by go_num, by rw [HS2.out], by rw [HS2.out], hW, HBx.out, HSx.out⟩
                case measure => simp [intOf]; omega
              · have hsn := HSn.out
                rw [if_neg hgl] at hsn
                have HS2 := Lib.hid hsn
                clear hsn HSn
                go_wp2_with fail
                go_roundw
                case rel => exact ⟨i + 1, by omega, by go_num, by rw [HS2.out], by rw [HS2.out], hW, HBx.out, HSx.out⟩
                case measure => simp [intOf]; omega
        · obtain rfl : i = L.cs.length := by omega
          clear B5 hlt
          rw [HSu.out]
          clear HSn HSl
          go_wp2_with fail
          refine (awake_any _).mono ?_
          rintro e wz ⟨rfl, hbz⟩
          replace hW := over hW hbz
          clear hbz
          go_wp2_with fail
          go_ret
          exact ⟨rfl, hW⟩
end Go.Proofs.YtfihdaoakfdlpaaGreat
