/- Layer 3, the references, the walks: tables that prove. -/
import Derived.Test.YtfihdaoakfdlpaaGreatRE
import Derived.Test.YtfihdaoakfdlpaaGreatRPlain7
open Go.RowKit
namespace Go.Proofs.YtfihdaoakfdlpaaGreat
open Go.Hill

theorem list3_any (l : List Int) (a : Option Addr) (c : Nat) (w : World) (h : IntsAt w a l) (hl : l.length ≤ 900) : Calls Tryz.prog 33 #[.slice a l.length c] w (RetI l w) := by
  have HI := Lib.hid h
  obtain ⟨n, hn⟩ : ∃ n, n = l.length := ⟨_, rfl⟩
  rw [← hn]
  have HN := Lib.hid hn
  clear h hn
  go_enter Tryz.func33, Tryz.ntmps33
  go_wp2_with (at_builtin; refine wpList_append_row rfl (.const (.slice none 0 0)) (.tmp 3) 40 rfl elem_int (by decide) (Nat.le_refl _) (v := .slice none 0 0) (xs := []) rfl (Own.nil _ _ _ _) (ivs l) (ivs_one _) (ivs_cell _) rfl ?q1 HI.out ?q2 (by decide) ?_)
  case q1 => rw [HN.out, List.length_map]
  case q2 => have := HN.out; simp; omega
  intro v' w1 hb1 hg1 ho1
  obtain ⟨ra, rc, rfl, _, hr⟩ := ho1.row
  have HR := Lib.hid hr
  have HB := Lib.hid hb1
  clear hb1 hg1 ho1 hr
  go_wp2_with fail
  go_ret
  exact ⟨ra, rc, by simp, HB.out, by simpa using HR.out⟩
/-- The land lies in the first block. -/
structure AtL (q : LV) (L : Land) (w wx : World) : Prop where
  W : Below w.heap.size w wx
  B : Box wx w.heap.size (landC q L) 27
theorem AtL.later {q : LV} {L : Land} {w wx wy : World} (h : AtL q L w wx) (hb : Below wx.heap.size wx wy) : AtL q L w wy := ⟨over h.W hb, h.B.later hb⟩
set_option maxRecDepth 100000 in
set_option maxHeartbeats 8000000 in
theorem rProves_any (q : LV) (L : Land) (f s k : Nat) (tl : List Int) (ta : Option Addr) (tc : Nat) (w : World) (hL : LandAt w q L) (hc : L.chk = 0) (hf : f < L.st.length) (hk : k < L.cs.length) (hT : IntsAt w ta tl) (hl : tl.length ≤ 900) :
    Calls Tryz.prog 34 #[landV q L, .int .i64 f, .int .i64 s, .int .i64 k, .slice ta tl.length tc] w (Ret (.bool (L.prvB f s k tl)) w) := by
  have HL := Lib.hid hL
  have HC := Lib.hid hc
  have HT := Lib.hid hT
  obtain ⟨n6, n0, e12, e0, m4, m0⟩ := st_six hc
  obtain ⟨v, hv⟩ : ∃ v, v = L.prvB f s k tl := ⟨_, rfl⟩
  rw [← hv]
  have HV := Lib.hid hv
  clear hL hc hT hv
  by_cases hlen : tl.length = L.st.length
  case neg =>
    have hne : ((tl.length : Int) != (L.st.length : Int)) = true := by simp; omega
    have HE : Hid (v = false) := by show _ = _; rw [HV.out, prv_len hlen]
    clear hlen
    go_enter Tryz.func34, Tryz.ntmps34
    go_wp2_with fail
    go_ret
    exact ⟨by rw [HE.out]; rfl, (by repeat (first | exact Below.refl _ _ | refine al ?_ _ | refine Below.drew ?_ | refine sc ?_ (by simp) _))⟩
  have hne : ((tl.length : Int) != (L.st.length : Int)) = false := by simp; omega
  have HLen := Lib.hid hlen
  have HAt : Hid (∀ x, x < tl.length → tl[x]? = some (tbl tl x)) := fun x hx => tbl_at hx
  have HNo : Hid (∀ x, x < tl.length → inB (tbl tl x) 0 ((L.sn.length : Int) + 1) = false → v = false) := fun x hx h => by
    rw [HV.out]
    refine prv_all ?_
    cases ha : tl.all fun x => inB x 0 ((L.sn.length : Int) + 1) with
    | false => rfl
    | true => have := List.all_eq_true.1 ha _ (List.mem_of_getElem? (tbl_at hx)); rw [h] at this; cases this
  have HBad : Hid (∀ a h b : Nat, a < L.st.length → tbl tl a ≤ h → h < L.sn.length → b < L.st.length → L.can a b k h = true → ¬ tbl tl b ≤ h + 1 → v = false) := fun a h b h0 h1 h2 h3 h4 h5 => by
    rw [HV.out]; exact prv_clos (closB_no h0 h1 h2 h3 h4 h5)
  have HEnd : Hid ((∀ x, x < tl.length → inB (tbl tl x) 0 ((L.sn.length : Int) + 1) = true) → closB (fun a b h => L.can a b k h) L.st.length L.sn.length (tbl tl) = true → v = decide (tbl tl f ≤ s)) := fun h1 h2 => by
    rw [HV.out]
    refine prv_end HLen.out (List.all_eq_true.2 fun y hy => ?_) h2
    obtain ⟨x, hx⟩ := List.getElem?_of_mem hy
    have hxl := (List.getElem?_eq_some_iff.1 hx).1
    have := h1 x hxl
    rw [tbl_at hxl] at hx
    cases hx
    exact this
  generalize tbl tl = tb at *
  clear hlen HV
  go_enter Tryz.func34, Tryz.ntmps34
  go_wp2_with fail
  refine named1 (p := Code.wp _ _ _ _) ?_
  intro W hW B5
  have HB5 := Lib.hid B5
  clear B5 hne
  go_loopw [11] (fun i' wr => ∃ i : Nat, i ≤ tl.length ∧ i' = .int .i64 i ∧ Below W.heap.size W wr ∧ ∀ x, x < i → inB (tb x) 0 ((L.sn.length : Int) + 1) = true) (fun i' _ => tl.length - (intOf i').toNat)
  case atStart => exact ⟨0, Nat.zero_le _, rfl, Below.refl _ _, fun x hx => by omega⟩
  case round =>
    obtain ⟨i, hi, rfl, hb, hall⟩ := hrel
    have HAll := Lib.hid hall
    clear hall
    have B5 := HB5.out.later hb
    by_cases hlt : i < tl.length
    · obtain ⟨p1, o1, rfl, hC1⟩ := RowAt.at ((HT.out.later hW).later hb) hlt
      have e1 := cells_one hC1 (HAt.out i hlt)
      have z1 := block_lt_of_cell e1
      have r1 : (0 : Int) ≤ (i : Int) := by omega
      have r2 : (i : Int) < (tl.length : Int) := by omega
      obtain ⟨bv, hbv⟩ : ∃ bv, bv = inB (tb i) 0 ((L.sn.length : Int) + 1) := ⟨_, rfl⟩
      have HIn : Hid (∀ w, Calls Tryz.prog 40 #[.int .i64 (tb i), .int .i64 0, .int .i64 ((L.sn.length : Int) + 1)] w (Ret (.bool bv) w)) := fun w => by rw [hbv]; exact in_any _ _ _ _
      have HBv := Lib.hid hbv
      generalize hti : tb i = ti at *
      have HTi := Lib.hid hti
      have c5 := B5.cell; have t5 := B5.lt
      clear hC1 hbv hti
      go_wp2_with fail
      refine Fat.wp_region_tail 9 (by kernel_rfl) (by kernel_rfl) ?_
      simp only [List.take_succ_cons, List.drop_succ_cons, List.take_nil, List.drop_nil]
      repeat (go_big_quiet_step ((first | with_reducible exact Calls.regrown_of (rend_any _ _ _) | with_reducible exact Calls.regrown_of (HIn.out _))))
      refine wpQuiet_nil ?_
      intro w1 hb1
      have hb2 := over hb hb1
      clear hb1 hb e1 z1 c5 t5 B5 HIn
      cases bv with
      | false =>
        have HE : Hid (v = false) := HNo.out i hlt (by rw [HTi.out]; exact HBv.out.symm)
        have hWb := over hW hb2
        go_wp2_with fail
        go_ret
        exact ⟨by rw [HE.out]; rfl, hWb⟩
      | true =>
        have HAll2 : Hid (∀ x, x < i + 1 → inB (tb x) 0 ((L.sn.length : Int) + 1) = true) := fun x hx => by
          rcases Nat.lt_succ_iff_lt_or_eq.1 hx with h | rfl
          · exact HAll.out x h
          · rw [HTi.out]; exact HBv.out.symm
        clear HAll
        go_wp2_with fail
        go_roundw
        case rel => exact ⟨i + 1, by omega, by go_num, hb2, HAll2.out⟩
        case measure => simp [intOf]; omega
    · obtain rfl : i = tl.length := by omega
      have HBd : Hid (∀ x, x < tl.length → 0 ≤ tb x ∧ tb x ≤ (L.sn.length : Int) + 1) := fun x hx => by have := HAll.out x hx; simpa [inB] using this
      have HX : Hid (AtL q L w wr) := ⟨over hW hb, B5⟩
      clear B5 hb HB5 hW
      go_wp2_with fail
      go_loopw [12] (fun a' wx => ∃ a : Nat, a ≤ tl.length ∧ a' = .int .i64 a ∧ AtL q L w wx ∧ ∀ x, x < a → okA (fun a b h => L.can a b k h) L.st.length L.sn.length tb x) (fun a' _ => tl.length - (intOf a').toNat)
      case atStart => exact ⟨0, Nat.zero_le _, rfl, HX.out, fun x hx => by omega⟩
      case round =>
        clear HX
        obtain ⟨a, ha, rfl, hx, hok⟩ := hrel
        have HX := Lib.hid hx
        have HOk := Lib.hid hok
        clear hx hok
        by_cases hal : a < tl.length
        · have han : a < L.st.length := by have := HLen.out; omega
          have r1 : (0 : Int) ≤ (a : Int) := by omega
          have r2 : (a : Int) < (tl.length : Int) := by omega
          go_wp2_with fail
          go_loopw [13] (fun b' wx => ∃ b : Nat, b ≤ tl.length ∧ b' = .int .i64 b ∧ AtL q L w wx ∧ ∀ y, y < b → ∀ h, tb a ≤ (h : Nat) → h < L.sn.length → L.can a y k h = true → tb y ≤ (h : Int) + 1) (fun b' _ => tl.length - (intOf b').toNat)
          case atStart => exact ⟨0, Nat.zero_le _, rfl, HX.out, fun x hx => by omega⟩
          case round =>
            clear HX
            obtain ⟨b, hb, rfl, hx, hok⟩ := hrel
            have HX := Lib.hid hx
            have HOkb := Lib.hid hok
            clear hx hok
            by_cases hbl : b < tl.length
            · have hbn : b < L.st.length := by have := HLen.out; omega
              obtain ⟨p1, o1, rfl, hC1⟩ := RowAt.at (HT.out.later HX.out.W) hal
              have e1 := cells_one hC1 (HAt.out a hal)
              have z1 := block_lt_of_cell e1
              obtain ⟨t0, ht0⟩ : ∃ t0 : Nat, (t0 : Int) = tb a := ⟨(tb a).toNat, by have := (HBd.out a hal).1; omega⟩
              have ht0e : t0 ≤ L.sn.length + 1 := by have := (HBd.out a hal).2; omega
              have HT0 := Lib.hid ht0
              rw [← ht0] at e1
              have r3 : (0 : Int) ≤ (b : Int) := by omega
              have r4 : (b : Int) < (tl.length : Int) := by omega
              clear hC1 ht0
              go_wp2_with fail
              clear e1 z1
              go_loopw [14] (fun h' wx => ∃ h : Nat, t0 ≤ h ∧ h ≤ L.sn.length + 1 ∧ h' = .int .i64 h ∧ AtL q L w wx ∧ ∀ h1 : Nat, t0 ≤ h1 → h1 < h → L.can a b k h1 = true → tb b ≤ (h1 : Int) + 1) (fun h' _ => L.sn.length + 1 - (intOf h').toNat)
              case atStart => exact ⟨t0, Nat.le_refl _, ht0e, rfl, HX.out, fun h1 h2 h3 => by omega⟩
              case round =>
                clear HX
                obtain ⟨h, hh0, hh1, rfl, hx, hok⟩ := hrel
                have HX := Lib.hid hx
                have HOkh := Lib.hid hok
                have B5 := hx.B
                clear hx hok
                have c5 := B5.cell; have t5 := B5.lt
                go_wp2_with fail
                refine (rend_any q L _).mono ?_
                rintro e w7 ⟨rfl, hb7⟩
                have HX7 := Lib.hid (HX.out.later hb7)
                clear HX B5 c5 t5 hb7
                by_cases hhl : h < L.sn.length
                · have r5 : (h : Int) < (L.sn.length : Int) := by omega
                  have B5 := HX7.out.B
                  obtain ⟨cv, hcv⟩ : ∃ cv, cv = L.can a b k h := ⟨_, rfl⟩
                  have HCall := rCan_any q L a b k h w7 (HL.out.later HX7.out.W) HC.out han hbn hk hhl
                  rw [← hcv] at HCall
                  replace HCall := Lib.hid HCall
                  have HCv := Lib.hid hcv
                  have c5 := B5.cell; have t5 := B5.lt
                  clear hcv
                  go_wp2_with fail
                  refine HCall.out.mono ?_
                  rintro e w8 ⟨rfl, hb8⟩
                  have HX8 := Lib.hid (HX7.out.later hb8)
                  clear HX7 B5 c5 t5 hb8 HCall
                  cases cv with
                  | false =>
                    have HOk2 : Hid (∀ h1 : Nat, t0 ≤ h1 → h1 < h + 1 → L.can a b k h1 = true → tb b ≤ (h1 : Int) + 1) := fun h1 h2 h3 h4 => by
                      rcases Nat.lt_succ_iff_lt_or_eq.1 h3 with h5 | rfl
                      · exact HOkh.out h1 h2 h5 h4
                      · rw [← HCv.out] at h4; cases h4
                    clear HOkh
                    go_wp2_with fail
                    go_roundw
                    case rel => exact ⟨h + 1, by omega, by omega, by go_num, HX8.out, HOk2.out⟩
                    case measure => simp [intOf]; omega
                  | true =>
                    obtain ⟨p2, o2, hp2, hC2⟩ := RowAt.at (HT.out.later HX8.out.W) hbl
                    cases hp2
                    have e2 := cells_one hC2 (HAt.out b hbl)
                    have z2 := block_lt_of_cell e2
                    clear hC2
                    by_cases hle : tb b ≤ (h : Int) + 1
                    · have HOk2 : Hid (∀ h1 : Nat, t0 ≤ h1 → h1 < h + 1 → L.can a b k h1 = true → tb b ≤ (h1 : Int) + 1) := fun h1 h2 h3 h4 => by
                        rcases Nat.lt_succ_iff_lt_or_eq.1 h3 with h5 | rfl
                        · exact HOkh.out h1 h2 h5 h4
                        · exact hle
                      clear HOkh
                      go_wp2_with fail
                      go_roundw
                      case rel => exact ⟨h + 1, by omega, by omega, by go_num, HX8.out, HOk2.out⟩
                      case measure => simp [intOf]; omega
                    · have HE : Hid (v = false) := HBad.out a h b han (by rw [← HT0.out]; omega) hhl hbn HCv.out.symm (by omega)
                      go_wp2_with fail
                      go_ret
                      exact ⟨by rw [HE.out]; rfl, HX8.out.W⟩
                · have HOk2 : Hid (∀ y, y < b + 1 → ∀ h, tb a ≤ (h : Nat) → h < L.sn.length → L.can a y k h = true → tb y ≤ (h : Int) + 1) := fun y hy h1 h2 h3 h4 => by
                    rcases Nat.lt_succ_iff_lt_or_eq.1 hy with h5 | rfl
                    · exact HOkb.out y h5 h1 h2 h3 h4
                    · rw [← HT0.out] at h2
                      exact HOkh.out h1 (by omega) (by omega) h4
                  clear HOkh HOkb
                  go_wp2_with fail
                  go_roundw
                  case rel => exact ⟨b + 1, by omega, by go_num, HX7.out, HOk2.out⟩
                  case measure => simp [intOf]; omega
            · obtain rfl : b = tl.length := by omega
              have HOk2 : Hid (∀ x, x < a + 1 → okA (fun a b h => L.can a b k h) L.st.length L.sn.length tb x) := fun x hx => by
                rcases Nat.lt_succ_iff_lt_or_eq.1 hx with h | rfl
                · exact HOk.out x h
                · exact fun h b h1 h2 h3 h4 => HOkb.out b (by have := HLen.out; omega) h h1 h2 h4
              clear HOk HOkb
              go_wp2_with fail
              go_roundw
              case rel => exact ⟨a + 1, by omega, by go_num, HX.out, HOk2.out⟩
              case measure => simp [intOf]; omega
        · obtain rfl : a = tl.length := by omega
          have hfl : f < tl.length := by have := HLen.out; omega
          obtain ⟨p1, o1, rfl, hC1⟩ := RowAt.at (HT.out.later HX.out.W) hfl
          have e1 := cells_one hC1 (HAt.out f hfl)
          have z1 := block_lt_of_cell e1
          have r1 : (0 : Int) ≤ (f : Int) := by omega
          have r2 : (f : Int) < (tl.length : Int) := by omega
          have HVv : Hid (v = decide (tb f ≤ (s : Int))) := HEnd.out HAll.out (closB_iff.2 fun x hx => HOk.out x (by have := HLen.out; omega))
          clear hC1 HOk
          go_wp2_with fail
          go_ret
          exact ⟨by rw [HVv.out]; rfl, HX.out.W⟩
end Go.Proofs.YtfihdaoakfdlpaaGreat
