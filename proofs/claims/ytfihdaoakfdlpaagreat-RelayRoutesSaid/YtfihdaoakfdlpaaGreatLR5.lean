/- The statements on routes: the reference's IsRoute and Stick; routes compared. -/
import Derived.Test.YtfihdaoakfdlpaaGreatLR4
open Go.RowKit
namespace Go.Proofs.YtfihdaoakfdlpaaGreat
open Go.Hill

/-- What IsRoute returns. -/
def isrV (o : Option Int) (n : Nat) : Value := .tuple #[.int .i64 (o.getD 0), .bool (o.isSome && decide (n ≤ 12))]
set_option maxRecDepth 100000 in
set_option maxHeartbeats 8000000 in
theorem rIsRoute_any (q : LV) (L : Land) (f s : Nat) (l : List Hi) (a : Option Addr) (c : Nat) (w : World) (hc : L.chk = 0) (hl : HisAt w a l) (hll : l.length ≤ 1000) :
    Calls Tryz.prog 30 #[landV q L, .int .i64 f, .int .i64 s, .slice a l.length c] w (Ret (isrV (leadF L.st.length L.sn.length f s l) l.length) w) := by
  have HL := Lib.hid hl
  obtain ⟨n6, n0, e12, e0, m4, m0⟩ := st_six hc
  obtain ⟨o, ho⟩ : ∃ o, o = leadF L.st.length L.sn.length f s l := ⟨_, rfl⟩
  rw [← ho]
  have HO : Hid (o = leadF L.st.length L.sn.length f s (l.drop 0)) := by rw [List.drop_zero]; exact ho
  have HEn : Hid (∀ W, Calls Tryz.prog 35 #[landV q L] W (Ret (.int .i64 L.sn.length) W)) := fun W => rend_any q L W
  clear hl hc ho
  go_enter Tryz.func30, Tryz.ntmps30
  go_wp2_with fail
  refine named1 (p := Code.wp _ _ _ _) ?_
  intro W hW B4
  have HB4 := Lib.hid B4
  have HW := Lib.hid hW
  clear B4 hW
  go_loopw [10, 11, 12] (fun a' h' i' wr => ∃ (i : Nat) (av hv : Int), i ≤ l.length ∧ i' = .int .i64 i ∧ a' = .int .i64 av ∧ h' = .int .i64 hv ∧ (hv = s ∨ (0 ≤ hv ∧ hv ≤ 1000)) ∧ Below w.heap.size w wr ∧ Box wr w.heap.size (landC q L) 27 ∧ o = leadF L.st.length L.sn.length av hv (l.drop i)) (fun _ _ i' _ => l.length - (intOf i').toNat)
  case atStart => exact ⟨0, f, s, Nat.zero_le _, rfl, rfl, rfl, .inl rfl, HW.out, HB4.out, HO.out⟩
  case round =>
    clear HB4 HW HO
    obtain ⟨i, av, hv, hi, rfl, rfl, rfl, hvb, hW, B4, ho⟩ := hrel
    have HO := Lib.hid ho
    clear ho
    by_cases hlt : i < l.length
    · obtain ⟨p1, o1, rfl, hC1⟩ := RowAt.at (HL.out.later hW) hlt
      obtain ⟨p, hp⟩ : ∃ p, l[i]? = some p := ⟨l[i], by simp⟩
      obtain ⟨e0', e1, e2⟩ := cells_hi hC1 hp
      have z1 := block_lt_of_cell e0'
      have HAt := Lib.hid (lead_at (n := L.st.length) (e := L.sn.length) (a := av) (h := hv) hp)
      have r1 : (0 : Int) ≤ (i : Int) := by omega
      have r2 : (i : Int) < (l.length : Int) := by omega
      obtain ⟨pf, pt, ph⟩ := p
      simp only at e0' e1 e2 HAt
      clear hC1 hp
      go_upto_region 6 with fail
      refine named1 (p := Code.wp _ _ _ _) ?_
      intro W4 hb4 B13
      replace hW := over hW hb4
      replace B4 := B4.later hb4
      clear e0' e1 e2 z1 hb4
      obtain ⟨b2, hb2⟩ : ∃ b, b = inB pt 0 ((L.st.length : Int) - 1) := ⟨_, rfl⟩
      obtain ⟨b3, hb3⟩ : ∃ b, b = inB ph hv ((L.sn.length : Int) - 1) := ⟨_, rfl⟩
      have HSta : Hid (∀ W, Calls Tryz.prog 40 #[.int .i64 pt, .int .i64 0, .int .i64 ((L.st.length : Int) - 1)] W (Ret (.bool b2) W)) := fun W => by rw [hb2]; exact in_any _ _ _ _
      have HIn : Hid (∀ W, Calls Tryz.prog 40 #[.int .i64 ph, .int .i64 hv, .int .i64 ((L.sn.length : Int) - 1)] W (Ret (.bool b3) W)) := fun W => by rw [hb3]; exact in_any _ _ _ _
      have hat := HAt.out
      rw [← hb2, ← hb3] at hat
      have HAt2 := Lib.hid hat
      have hb3' : b3 = true → 0 ≤ ph + 1 ∧ ph + 1 ≤ 1000 := fun h => by
        rw [h] at hb3
        have h9 : hv ≤ ph ∧ ph ≤ (L.sn.length : Int) - 1 := of_decide_eq_true hb3.symm
        omega
      have HPh := Lib.hid hb3'
      have c4 := B4.cell; have t4 := B4.lt; have c13 := B13.cell; have t13 := B13.lt
      clear hat HAt hb2 hb3 hb3'
      by_cases h1 : pf = av
      case neg =>
        have d1 : (pf != av) = true := by simpa using h1
        have HX : Hid (o = none) := by show _ = _; rw [HO.out, HAt2.out, if_neg fun h => h1 h.1]
        clear h1 HO HAt2
        refine Fat.wp_region_tail 24 (by kernel_rfl) (by kernel_rfl) ?_
        simp only [List.take_succ_cons, List.drop_succ_cons, List.take_nil, List.drop_nil]
        repeat (go_big_quiet_step ((first | with_reducible exact Calls.regrown_of (HSta.out _) | with_reducible exact Calls.regrown_of (HEn.out _) | with_reducible exact Calls.regrown_of (HIn.out _))))
        refine wpQuiet_nil ?_
        intro w5 hb5
        replace hW := over hW hb5
        clear c4 t4 c13 t13 B4 B13
        go_wp2_with fail
        go_ret2
        rw [HX.out]
        exact ⟨rfl, hW⟩
      have d1 : (pf != av) = false := by simpa using h1
      have HE := Lib.hid h1
      clear h1
      cases b2 with
      | false =>
        have HX : Hid (o = none) := by show _ = _; rw [HO.out, HAt2.out, if_neg fun h => by cases h.2.1]
        clear HO HAt2
        refine Fat.wp_region_tail 24 (by kernel_rfl) (by kernel_rfl) ?_
        simp only [List.take_succ_cons, List.drop_succ_cons, List.take_nil, List.drop_nil]
        repeat (go_big_quiet_step ((first | with_reducible exact Calls.regrown_of (HSta.out _) | with_reducible exact Calls.regrown_of (HEn.out _) | with_reducible exact Calls.regrown_of (HIn.out _))))
        refine wpQuiet_nil ?_
        intro w5 hb5
        replace hW := over hW hb5
        clear c4 t4 c13 t13 B4 B13
        go_wp2_with fail
        go_ret2
        rw [HX.out]
        exact ⟨rfl, hW⟩
      | true =>
        cases b3 with
        | false =>
          have HX : Hid (o = none) := by show _ = _; rw [HO.out, HAt2.out, if_neg fun h => by cases h.2.2]
          clear HO HAt2
          refine Fat.wp_region_tail 24 (by kernel_rfl) (by kernel_rfl) ?_
          simp only [List.take_succ_cons, List.drop_succ_cons, List.take_nil, List.drop_nil]
          repeat (go_big_quiet_step ((first | with_reducible exact Calls.regrown_of (HSta.out _) | with_reducible exact Calls.regrown_of (HEn.out _) | with_reducible exact Calls.regrown_of (HIn.out _))))
          refine wpQuiet_nil ?_
          intro w5 hb5
          replace hW := over hW hb5
          clear c4 t4 c13 t13 B4 B13
          go_wp2_with fail
          go_ret2
          rw [HX.out]
          exact ⟨rfl, hW⟩
        | true =>
          have HX : Hid (o = leadF L.st.length L.sn.length pt (ph + 1) (l.drop (i + 1))) := by show _ = _; rw [HO.out, HAt2.out, if_pos ⟨HE.out, rfl, rfl⟩]
          have hphb := HPh.out rfl
          clear HO HAt2 HPh
          refine Fat.wp_region_tail 24 (by kernel_rfl) (by kernel_rfl) ?_
          simp only [List.take_succ_cons, List.drop_succ_cons, List.take_nil, List.drop_nil]
          repeat (go_big_quiet_step ((first | with_reducible exact Calls.regrown_of (HSta.out _) | with_reducible exact Calls.regrown_of (HEn.out _) | with_reducible exact Calls.regrown_of (HIn.out _))))
          refine wpQuiet_nil ?_
          intro w5 hb5
          replace hW := over hW hb5
          replace B4 := B4.later hb5
          replace B13 := B13.later hb5
          clear hb5 c4 t4 c13 t13
          have HWd := Lib.hid hW
          have HB4d := Lib.hid B4
          have c13 := B13.cell; have t13 := B13.lt
          clear B4 B13 hW
          go_wp2_with fail
          refine Fat.wp_region_tail 7 (by kernel_rfl) (by kernel_rfl) ?_
          simp only [List.take_succ_cons, List.drop_succ_cons, List.take_nil, List.drop_nil]
          repeat (go_big_quiet_step (fail))
          refine wpQuiet_nil ?_
          intro w6 hb6
          clear c13 t13
          go_wp2_with fail
          go_roundw
          case rel => exact ⟨i + 1, pt, ph + 1, by omega, by go_num, rfl, rfl, .inr hphb, over HWd.out hb6, HB4d.out.later hb6, HX.out⟩
          case measure => simp [intOf]; omega
    · obtain rfl : i = l.length := by omega
      have HX : Hid (o = some av) := by show _ = _; rw [HO.out, lead_end]
      clear HO B4
      have hv : isrV (some av) l.length = .tuple #[.int .i64 av, .bool (decide ((l.length : Int) ≤ 12))] := by
        show Value.tuple #[.int .i64 av, .bool (true && decide (l.length ≤ 12))] = _
        rw [Bool.true_and, show decide (l.length ≤ 12) = decide ((l.length : Int) ≤ 12) from decide_eq_decide.2 (by omega)]
      have HVx := Lib.hid hv
      clear hv
      go_wp2_with fail
      go_ret2
      rw [HX.out, HVx.out]
      exact ⟨rfl, hW⟩
def rstV (o : Option (Nat × Nat)) : Value := match o with
  | some (i, k) => .tuple #[.int .i64 i, .int .i64 k]
  | none => .tuple #[.int .i64 (-1), .int .i64 0]
set_option maxRecDepth 100000 in
set_option maxHeartbeats 8000000 in
theorem rStick_any (q : LV) (L : Land) (l : List Hp) (a : Option Addr) (c : Nat) (w : World) (hL : LandAt w q L) (hc : L.chk = 0) (hl : HopsAt w a l) (hll : l.length ≤ 1000) (hm : ∀ p ∈ l, p.fr < L.st.length ∧ p.ta < L.st.length ∧ p.hr < L.sn.length) :
    Calls Tryz.prog 41 #[landV q L, .slice a l.length c] w (Ret (rstV (stkF L l 0)) w) := by
  have HLd := Lib.hid hL
  have HC := Lib.hid hc
  have HL := Lib.hid hl
  have HM := Lib.hid hm
  obtain ⟨n6, n0, e12, e0, m4, m0⟩ := st_six hc
  obtain ⟨o, ho⟩ : ∃ o, o = stkF L l 0 := ⟨_, rfl⟩
  rw [← ho]
  have HO := Lib.hid ho
  clear hL hl hc hm ho
  go_enter Tryz.func41, Tryz.ntmps41
  go_wp2_with fail
  refine named1 (p := Code.wp _ _ _ _) ?_
  intro W hW B2
  have HB2 := Lib.hid B2
  have HW := Lib.hid hW
  clear B2 hW
  go_loopw [6] (fun i' wr => ∃ i : Nat, i ≤ l.length ∧ i' = .int .i64 i ∧ Below w.heap.size w wr ∧ Box wr w.heap.size (landC q L) 27 ∧ ∀ x p, x < i → l[x]? = some p → L.stick p.fr p.ta p.hr = L.cs.length) (fun i' _ => l.length - (intOf i').toNat)
  case atStart => exact ⟨0, Nat.zero_le _, rfl, HW.out, HB2.out, fun x p hx => by omega⟩
  case round =>
    clear HW HB2
    obtain ⟨i, hi, rfl, hW, B2, hno⟩ := hrel
    have HNo := Lib.hid hno
    have HWo := Lib.hid hW
    have HB2 := Lib.hid B2
    clear hno hW
    by_cases hlt : i < l.length
    · obtain ⟨p, hp⟩ : ∃ p, l[i]? = some p := ⟨l[i], by simp⟩
      have HP := Lib.hid hp
      obtain ⟨hp1, hp2, hp3⟩ := HM.out p (List.mem_of_getElem? hp)
      have r1 : (0 : Int) ≤ (i : Int) := by omega
      have r2 : (i : Int) < (l.length : Int) := by omega
      obtain ⟨p1, o1, rfl, _⟩ := RowAt.at (HL.out.later HWo.out) hlt
      obtain ⟨pf, pt, ph⟩ := p
      simp only at hp1 hp2 hp3
      clear hp B2
      go_wp2_with fail
      go_loopw [7] (fun k' wr => ∃ k : Nat, k ≤ L.cs.length ∧ k' = .int .i64 k ∧ Below w.heap.size w wr ∧ Box wr w.heap.size (landC q L) 27 ∧ ∀ x, x < k → L.can pf pt x ph = true) (fun k' _ => L.cs.length - (intOf k').toNat)
      case atStart => exact ⟨0, Nat.zero_le _, rfl, HWo.out, HB2.out, fun x hx => by omega⟩
      case round =>
        clear HWo HB2
        obtain ⟨k, hk, rfl, hW, B2, hcan⟩ := hrel
        have HCan := Lib.hid hcan
        clear hcan
        have c2 := B2.cell; have t2 := B2.lt
        by_cases hltk : k < L.cs.length
        · obtain ⟨p2, o2, hpp, hC1⟩ := RowAt.at (HL.out.later hW) hlt
          cases hpp
          obtain ⟨e0', e1, e2⟩ := cells_hp hC1 HP.out
          simp only at e0' e1 e2
          have z1 := block_lt_of_cell e0'
          obtain ⟨b, hb⟩ : ∃ b, L.can pf pt k ph = b := ⟨_, rfl⟩
          have HCk : Hid (∀ W', Below _ wr W' → Calls Tryz.prog 46 #[landV q L, .int .i64 pf, .int .i64 pt, .int .i64 k, .int .i64 ph] W' (Ret (.bool b) W')) := fun W' hW' => by rw [← hb]; exact rCan_any q L pf pt k ph W' (HLd.out.later (over hW hW')) HC.out hp1 hp2 hltk hp3
          have HB := Lib.hid hb
          have r3 : (k : Int) < (L.cs.length : Int) := by omega
          clear hb hC1
          go_wp2_with fail
          refine Fat.wp_region_tail 19 (by kernel_rfl) (by kernel_rfl) ?_
          simp only [List.take_succ_cons, List.drop_succ_cons, List.take_nil, List.drop_nil]
          repeat (go_big_quiet_step (exact Calls.regrown_of (HCk.out _ (below_regrown _ _ _))))
          refine wpQuiet_nil ?_
          intro w5 hb5
          replace hW := over hW hb5
          replace B2 := B2.later hb5
          clear HCk hb5 c2 t2 e0' e1 e2 z1
          cases b with
          | false =>
            have HX : Hid (o = some (i, k)) := by
              show _ = _
              have hs : L.stick pf pt ph = k := firstNot_at hltk HB.out HCan.out
              rw [HO.out, stkF_at HP.out HNo.out (by show L.stick pf pt ph ≠ _; omega)]
              show some (i, L.stick pf pt ph) = _
              rw [hs]
            clear HB HCan HNo HO B2
            go_wp2_with fail
            go_ret2
            rw [HX.out]
            exact ⟨rfl, hW⟩
          | true =>
            have HN : Hid (∀ x, x < k + 1 → L.can pf pt x ph = true) := fun x hx => by
              rcases Nat.lt_succ_iff_lt_or_eq.1 hx with h | rfl
              · exact HCan.out x h
              · exact HB.out
            clear HB HCan
            go_wp2_with fail
            go_roundw
            case rel => exact ⟨k + 1, by omega, by go_num, hW, B2, HN.out⟩
            case measure => simp [intOf]; omega
        · obtain rfl : k = L.cs.length := by omega
          have HN : Hid (∀ x p, x < i + 1 → l[x]? = some p → L.stick p.fr p.ta p.hr = L.cs.length) := fun x p hx hxp => by
            rcases Nat.lt_succ_iff_lt_or_eq.1 hx with h | rfl
            · exact HNo.out x p h hxp
            · have := HP.out
              rw [hxp] at this
              cases this
              exact firstNot_all HCan.out
          clear HCan HNo
          go_wp2_with fail
          go_roundw
          case rel => exact ⟨i + 1, by omega, by go_num, hW, B2, HN.out⟩
          case measure => simp [intOf]; omega
    · obtain rfl : i = l.length := by omega
      have HX : Hid (o = none) := by
        show _ = _
        rw [HO.out]
        exact stkF_none HNo.out
      clear HNo HO B2
      go_wp2_with fail
      go_ret2
      rw [HX.out]
      exact ⟨rfl, HWo.out⟩
end Go.Proofs.YtfihdaoakfdlpaaGreat
