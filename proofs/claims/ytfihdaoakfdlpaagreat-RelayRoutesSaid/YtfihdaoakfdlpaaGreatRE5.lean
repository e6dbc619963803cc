/- Layer 3, the references, the walks: the best route. -/
import Derived.Test.YtfihdaoakfdlpaaGreatRE4
import Derived.Test.YtfihdaoakfdlpaaGreatRD
open Go.RowKit
namespace Go.Proofs.YtfihdaoakfdlpaaGreat
open Go.Hill

def RetRt (o : Option (List Hp × Nat)) (w : World) (e : Ending) (w' : World) : Prop := match o with
  | none => e = .returned (.tuple #[.slice none 0 0, .bool false]) ∧ Below w.heap.size w w'
  | some (l, _) => ∃ a c, e = .returned (.tuple #[.slice a l.length c, .bool true]) ∧ Below w.heap.size w w' ∧ HopsAt w' a l
/-- The next hop on the way. -/
structure NextS (W9 : World) (a : Nat) (x y : Int) (wr : World) : Prop where
  W : Below W9.heap.size W9 wr
  B : Box wr W9.heap.size #[.int .i64 a, .int .i64 x, .int .i64 y] 82
theorem NextS.later {W9 : World} {a : Nat} {x y : Int} {wr wr' : World} (h : NextS W9 a x y wr) (hb : Below wr.heap.size wr wr') : NextS W9 a x y wr' := ⟨over h.W hb, h.B.later hb⟩
theorem hopN_le {al : Nat → Nat → Nat → Bool} {n ta u : Nat} (d a : Nat) : hopN al n ta u d a ≤ 99 := by
  cases d with
  | zero => unfold hopN; split <;> omega
  | succ d =>
    unfold hopN
    refine Nat.le_trans (hopS_z _) ?_
    split <;> omega
set_option maxRecDepth 100000 in
set_option maxHeartbeats 8000000 in
theorem rRoute_any (q : LV) (L : Land) (f t s : Nat) (w : World) (hL : LandAt w q L) (hc : L.chk = 0) (hf : f < L.st.length) (hs : s ≤ L.sn.length) :
    Calls Tryz.prog 42 #[landV q L, .int .i64 f, .int .i64 t, .int .i64 s] w (RetRt (L.route f t s) w) := by
  have HL := Lib.hid hL
  have HC := Lib.hid hc
  obtain ⟨n6, n0, e12, e0, m4, m0⟩ := st_six hc
  obtain ⟨o, ho⟩ : ∃ o, o = L.route f t s := ⟨_, rfl⟩
  rw [← ho]
  have HO := Lib.hid ho
  clear hL hc ho
  go_enter Tryz.func42, Tryz.ntmps42
  go_wp2_with fail
  refine named1 (p := Code.wp _ _ _ _) ?_
  intro W hW B4
  have HW := Lib.hid hW
  have HB4 := Lib.hid B4
  clear hW B4
  go_loopw [10] (fun i' wr => ∃ j : Nat, s + j ≤ L.sn.length + 1 ∧ i' = .int .i64 ((s + j : Nat) : Int) ∧ Below w.heap.size w wr ∧ Box wr w.heap.size (landC q L) 27 ∧ ∀ i, i < j → L.best f t s (s + i) = none) (fun i' _ => L.sn.length + 1 - (intOf i').toNat)
  case atStart => exact ⟨0, by omega, by simp, HW.out, HB4.out, fun i hi => by omega⟩
  case round =>
    clear HW HB4
    obtain ⟨j, hj, rfl, hW, B4, hno⟩ := hrel
    have HNo := Lib.hid hno
    clear hno
    have c4 := B4.cell; have t4 := B4.lt
    go_wp2_with fail
    refine (rend_any q L wr).mono ?_
    rintro e w1 ⟨rfl, hb1⟩
    replace hW := over hW hb1
    (try clear c4 t4); replace B4 := B4.later hb1; have c4 := B4.cell; have t4 := B4.lt
    clear hb1
    by_cases hlt : s + j ≤ L.sn.length
    case neg =>
      obtain rfl : j = L.sn.length + 1 - s := by omega
      have r1 : (((s + (L.sn.length + 1 - s) : Nat) : Int) ≤ (L.sn.length : Int)) = False := by simp only [eq_iff_iff, iff_false]; omega
      have hv := HO.out
      rw [route_miss hs HNo.out] at hv
      subst hv
      clear HNo HO B4 c4 t4
      go_wp2_with fail
      go_ret2
      exact ⟨rfl, hW⟩
    obtain ⟨u, hu⟩ : ∃ u, u = s + j := ⟨_, rfl⟩
    have r1 : ((s + j : Nat) : Int) ≤ (L.sn.length : Int) := by omega
    have HHop := Lib.hid (rHops_any q L t (s + j) w1 (HL.out.later hW) HC.out hlt)
    have hall := best_all (al := L.alws) (n := L.st.length) (ta := t) (u := s + j) (s + j - s) f (by omega) (by omega)
    have HBe : Hid (L.best f t s (s + j) = bestF L.alws L.st.length t (s + j) (s + j - s) f) := rfl
    rw [← hu] at r1 hlt hall HHop HBe ⊢
    have HU := Lib.hid hu
    have hsu : s ≤ u := by omega
    clear hu
    go_wp2_with fail
    refine HHop.out.mono ?_
    rintro e w2 ⟨g, bk, rfl, hb2, hg2⟩
    have HW2 := Lib.hid (over hW hb2)
    have HB2 := Lib.hid (B4.later hb2)
    have HG := Lib.hid hg2
    have g1 := hg2.outer (Nat.zero_le s) hsu
    have g2 := hg2.inner (x := f) (Nat.zero_le s) hsu hf
    have t1 := hg2.O.lt
    have t2 := (hg2.R s (Nat.zero_le s) hsu).lt
    have r2 : (0 : Int) ≤ (s : Int) := by omega
    have r3 : (s : Int) < (u : Int) + 1 := by omega
    have r4 : (0 : Int) ≤ (f : Int) := by omega
    have r5 : (f : Int) < (L.st.length : Int) := by omega
    unfold hopI at g2
    clear HHop hb2 hg2 hW B4 c4 t4
    cases hbe : bestF L.alws L.st.length t u (u - s) f with
    | none =>
      have h99 := hall.1 hbe
      obtain ⟨hn, hhn⟩ : ∃ hn, hn = hopN L.alws L.st.length t u (u - s) f := ⟨_, rfl⟩
      rw [← hhn] at h99 g2
      have HN : Hid (∀ i, i < j + 1 → L.best f t s (s + i) = none) := fun i hi => by
        rcases Nat.lt_succ_iff_lt_or_eq.1 hi with h | rfl
        · exact HNo.out i h
        · rw [← HU.out, HBe.out]; exact hbe
      have d1 : (99 : Int) ≤ (hn : Int) := by omega
      have HHj : Hid (s + (j + 1) ≤ L.sn.length + 1) := by have := HU.out; show _ ≤ _; omega
      have HMs : Hid (L.sn.length + 1 - (u + 1) < L.sn.length + 1 - u) := by show _ < _; omega
      have HUe : Hid ((u : Int) + 1 = ((s + (j + 1) : Nat) : Int)) := by have := HU.out; show _ = _; omega
      clear hall hbe hhn HNo HBe HG
      go_wp2_with fail
      go_roundw
      case rel => exact ⟨j + 1, HHj.out, by rw [← HUe.out], HW2.out, HB2.out, HN.out⟩
      case measure =>
        have := HU.out
        simp [intOf]; omega
    | some l =>
      obtain ⟨hl1, hl2, _, _, _⟩ := hall.2 l hbe
      have hrt : o = some (l, u) := by
        have h1 := HU.out
        rw [HO.out, h1]
        refine route_at hs (by omega) ?_ HNo.out
        rw [← h1, HBe.out]; exact hbe
      subst hrt
      rw [hl1] at g2
      have d1 : ¬ (99 : Int) ≤ (l.length : Int) := by omega
      have HBf := Lib.hid hbe
      clear hall hbe HNo HBe HO hl1
      go_wp2_with fail
      clear g1 g2 t1 t2 r1 r2 r3 r4 r5 d1
      go_loopw [12, 13, 14] (fun v a' h' wr => ∃ (pre rest : List Hp) (av hv : Nat), l = pre ++ rest ∧ a' = .int .i64 av ∧ h' = .int .i64 hv ∧ s ≤ hv ∧ hv ≤ u ∧ av < L.st.length ∧ bestF L.alws L.st.length t u (u - hv) av = some rest ∧ Below w2.heap.size w2 wr ∧ Own wr w2.heap.size 82 3 v (pre.map Hp.vs)) (fun _ _ h' _ => u + 1 - (intOf h').toNat)
      case atStart => exact ⟨[], l, f, s, rfl, rfl, rfl, Nat.le_refl _, hsu, hf, HBf.out, Below.refl _ _, Own.nil _ _ _ _⟩
      case round =>
        clear HBf
        rename World => w9
        obtain ⟨pre, rest, av, hv, hlp, rfl, rfl, hsv, hvu, hav, hbf, hb, hO⟩ := hrel
        have HO := Lib.hid hO
        have HBw := Lib.hid hb
        have HLp := Lib.hid hlp
        have hplen : pre.length ≤ 12 := by have := congrArg List.length hlp; rw [List.length_append] at this; omega
        obtain ⟨hn1, hn2, hn3, hn4, hF⟩ := (best_all (al := L.alws) (n := L.st.length) (ta := t) (u := u) (u - hv) av (by omega) (by omega)).2 rest hbf
        obtain ⟨va, vc, rfl, _, hrow⟩ := hO.row
        obtain ⟨pn, hpn⟩ : ∃ pn, pn = pre.length := ⟨_, rfl⟩
        rw [List.length_map, ← hpn] at HO ⊢
        have HPn := Lib.hid hpn
        by_cases hat : av = t
        · have hr := hn4 hat
          have d1 : ((av : Int) != (t : Int)) = false := by simp [hat]
          have HRow : Hid (HopsAt w9 va pre) := hrow
          have HLe : Hid (l = pre) := by show _ = _; rw [hlp, hr, List.append_nil]
          clear hlp hn1 hn2 hn3 hn4 hF hO hrow hpn hbf hat hr
          go_wp2_with fail
          go_ret2
          show ∃ a c, _ ∧ _ ∧ _
          rw [HLe.out]
          exact ⟨va, vc, by rw [← HPn.out]; rfl, over HW2.out hb, HRow.out⟩
        · have d1 : ((av : Int) != (t : Int)) = true := by simp; omega
          cases rest with
          | nil => exact absurd (hn3 rfl) hat
          | cons p rest =>
            have hFi := hF p rest rfl
            obtain ⟨pf, pt, pr⟩ := p
            obtain ⟨ffr, flo, fhi, fto, fyes, frest, fn1, fn2⟩ := hFi
            simp only at ffr flo fhi fto fyes frest fn1 fn2
            subst ffr
            have flo' : hv ≤ pr := by omega
            have hrl := (best_all (al := L.alws) (n := L.st.length) (ta := t) (u := u) (u - (pr + 1)) pt (by omega) (by omega)).2 rest frest
            have HHit : Hid (hopN L.alws L.st.length t u (u - (pr + 1)) pt = rest.length) := hrl.1
            have HYes := Lib.hid fyes
            have HRest := Lib.hid frest
            have HN1 : Hid (∀ h b, hv ≤ h → h < pr → b < L.st.length → L.alws pf b h = true → hopN L.alws L.st.length t u (u - (h + 1)) b ≠ rest.length) := fun h b k1 k2 k3 k4 => fn1 h b (by omega) k2 k3 k4
            have HN2 := Lib.hid fn2
            obtain ⟨rn, hrn⟩ : ∃ rn, rn = rest.length := ⟨_, rfl⟩
            have hrn12 : rn ≤ 12 := by rw [hrn]; have := hrl.2.1; omega
            rw [List.length_cons, ← hrn] at hn1
            rw [← hrn] at HHit HN1 HN2
            have HTop := Lib.hid hn1
            have HRn := Lib.hid hrn
            have HLt : Hid (∀ k, (Value.slice va pn vc).ownBlock = some k → k < w9.heap.size) := fun k hk => (HO.out.1.lt k hk).2
            clear hlp hn1 hn2 hn3 hn4 hF hO hrow hpn hbf hat fyes frest fn1 fn2 hrl hrn flo
            go_upto_region 10 with fail
            refine named1 (p := Code.wp _ _ _ _) ?_
            intro W3 hb3 B15
            have HS : Hid (NextS w9 pf (-1) 0 W3) := ⟨hb3, B15⟩
            obtain ⟨b15, hb15⟩ : ∃ b15, b15 = w9.heap.size := ⟨_, rfl⟩
            rw [← hb15]
            have HB15 := Lib.hid hb15
            clear hb3 B15 hb15 hb d1
            go_wp2_with fail
            go_loopw [16] (fun h' wx => ∃ hh : Nat, h' = .int .i64 hh ∧ hv ≤ hh ∧ hh ≤ pr + 1 ∧ ((hh ≤ pr ∧ NextS w9 pf (-1) 0 wx) ∨ (hh = pr + 1 ∧ NextS w9 pf pt pr wx))) (fun h' _ => pr + 2 - (intOf h').toNat)
            case atStart => exact ⟨hv, rfl, Nat.le_refl _, by omega, .inl ⟨flo', HS.out⟩⟩
            case round =>
              clear HS
              rename World => wx
              obtain ⟨hh, rfl, hh1, hh2, hcase⟩ := hrel
              rcases hcase with ⟨hle, hS⟩ | ⟨hfo, hS⟩
              · have HS := Lib.hid hS
                have B15 := hS.B
                rw [← HB15.out] at B15
                have r1 : (hh : Int) < (u : Int) := by omega
                have c15 := B15.cell; have t15 := B15.lt
                clear hS
                go_wp2_with fail
                clear B15 c15 t15
                go_loopw [17] (fun b' wy => ∃ b : Nat, b' = .int .i64 b ∧ b ≤ L.st.length ∧ ((NextS w9 pf (-1) 0 wy ∧ (hh = pr → b ≤ pt)) ∨ (hh = pr ∧ b = pt + 1 ∧ NextS w9 pf pt pr wy))) (fun b' _ => L.st.length - (intOf b').toNat)
                case atStart => exact ⟨0, rfl, Nat.zero_le _, .inl ⟨HS.out, fun _ => Nat.zero_le _⟩⟩
                case round =>
                  clear HS
                  rename World => wy
                  obtain ⟨b, rfl, hbn, hcase⟩ := hrel
                  rcases hcase with ⟨hS, hbp⟩ | ⟨he, hbe2, hS⟩
                  · have HS := Lib.hid hS
                    have hW2y : Below w2.heap.size w2 wy := HBw.out.trans (hS.W.mono (by have := HBw.out.size; omega))
                    have B4 := HB2.out.later hW2y
                    have B15 := hS.B
                    rw [← HB15.out] at B15
                    by_cases hbl : b < L.st.length
                    · have hG := HG.out.later hW2y
                      have g1 := hG.outer (i := hh + 1) (Nat.zero_le _) (by omega)
                      have g2 := hG.inner (i := hh + 1) (x := b) (Nat.zero_le _) (by omega) hbl
                      have g3 := hG.outer (i := hv) (Nat.zero_le _) hvu
                      have g4 := hG.inner (i := hv) (x := pf) (Nat.zero_le _) hvu hav
                      have t1 := hG.O.lt
                      have t2 := (hG.R (hh + 1) (Nat.zero_le _) (by omega)).lt
                      have t3 := (hG.R hv (Nat.zero_le _) hvu).lt
                      unfold hopI at g2 g4
                      rw [HTop.out] at g4
                      push_cast at g4
                      obtain ⟨yn, hyn⟩ : ∃ yn, yn = hopN L.alws L.st.length t u (u - (hh + 1)) b := ⟨_, rfl⟩
                      have hy99 : yn ≤ 99 := by rw [hyn]; exact hopN_le _ _
                      rw [← hyn] at g2
                      have HYn := Lib.hid hyn
                      have q0 : (0 : Int) ≤ (b : Int) := by omega
                      have q1 : (b : Int) < (L.st.length : Int) := by omega
                      have q2 : (0 : Int) ≤ (hh : Int) + 1 := by omega
                      have q3 : (hh : Int) + 1 < (u : Int) + 1 := by omega
                      have q4 : (0 : Int) ≤ (hv : Int) := by omega
                      have q5 : (hv : Int) < (u : Int) + 1 := by omega
                      have q6 : (0 : Int) ≤ (pf : Int) := by omega
                      have q7 : (pf : Int) < (L.st.length : Int) := by omega
                      have HAl := Lib.hid (fun W' (hW' : Below wy.heap.size wy W') => rAlways_any q L pf b hh W' (HL.out.later (over (over HW2.out hW2y) hW')) HC.out hav hbl (by omega))
                      obtain ⟨al, hal⟩ : ∃ al, al = L.alws pf b hh := ⟨_, rfl⟩
                      rw [← hal] at HAl
                      have c4 := B4.cell; have t4 := B4.lt; have c15 := B15.cell; have t15 := B15.lt
                      clear hS hG hyn
                      by_cases hm : hh = pr ∧ b = pt
                      · obtain ⟨hm1, hm2⟩ := hm
                        have hal1 : al = true := by rw [hal, hm1, hm2]; exact HYes.out
                        have hyr : yn = rn := by rw [HYn.out, hm1, hm2]; exact HHit.out
                        subst hal1
                        have d2 : ((1 : Int) + (yn : Int) == (rn : Int) + 1) = true := by simp; omega
                        have HM1 := Lib.hid hm1
                        have HM2 := Lib.hid hm2
                        clear hal hyr hm1 hm2 hbp
                        go_wp2_with fail
                        refine Fat.wp_region_tail 24 (by kernel_rfl) (by kernel_rfl) ?_
                        simp only [List.take_succ_cons, List.drop_succ_cons, List.take_nil, List.drop_nil]
                        repeat (go_big_quiet_step (exact Calls.regrown_of (HAl.out _ (below_regrown _ _ _))))
                        refine wpQuiet_nil ?_
                        intro wz hbz
                        have HSz := Lib.hid (HS.out.later hbz)
                        have B15z := HSz.out.B
                        rw [← HB15.out] at B15z
                        have hset := setCells_box (cells := #[.int .i64 pf, .int .i64 b, .int .i64 hh]) B15z rfl
                        have HSet := Lib.hid hset
                        clear c4 t4 B4 c15 t15 B15 g1 g2 g3 g4 t1 t2 t3 hset d2 hbz HS HAl hW2y
                        have c15 := B15z.cell
                        have t15 := B15z.lt
                        have f15 := B15z.frozen
                        clear B15z
                        go_wp2_with fail
                        go_roundw
                        case rel =>
                          refine ⟨b + 1, by go_num, by omega, .inr ⟨HM1.out, by rw [HM2.out], ?_, ?_⟩⟩
                          · exact HSet.out.2.below HSz.out.W (by rw [HB15.out]; exact Nat.le_refl _)
                          · have h1 := HSet.out.1
                            rw [HM2.out, HM1.out] at h1
                            rw [← HB15.out]
                            rw [HM2.out, HM1.out]
                            exact h1
                        case measure => simp [intOf]; omega
                      · have hbp' : hh = pr → b + 1 ≤ pt := fun h => by have := hbp h; have : b ≠ pt := fun h2 => hm ⟨h, h2⟩; omega
                        have HBp := Lib.hid hbp'
                        cases al with
                        | false =>
                          clear hbp' hbp hm hal
                          go_wp2_with fail
                          refine Fat.wp_region_tail 24 (by kernel_rfl) (by kernel_rfl) ?_
                          simp only [List.take_succ_cons, List.drop_succ_cons, List.take_nil, List.drop_nil]
                          repeat (go_big_quiet_step (exact Calls.regrown_of (HAl.out _ (below_regrown _ _ _))))
                          refine wpQuiet_nil ?_
                          intro wz hbz
                          have HSz := Lib.hid (HS.out.later hbz)
                          clear c4 t4 B4 c15 t15 B15 g1 g2 g3 g4 t1 t2 t3 hbz HS HAl hW2y
                          go_wp2_with fail
                          go_roundw
                          case rel => exact ⟨b + 1, by go_num, by omega, .inl ⟨HSz.out, HBp.out⟩⟩
                          case measure => simp [intOf]; omega
                        | true =>
                          have hne : yn ≠ rn := by
                            rw [HYn.out]
                            by_cases h1 : hh = pr
                            · have h2 := hbp' h1
                              rw [h1]
                              exact HN2.out b (by omega) (by rw [← h1]; exact hal.symm)
                            · exact HN1.out hh b hh1 (by omega) hbl hal.symm
                          have d2 : ((1 : Int) + (yn : Int) == (rn : Int) + 1) = false := by rw [beq_eq_false_iff_ne]; omega
                          clear hbp' hbp hm hne hal
                          go_wp2_with fail
                          refine Fat.wp_region_tail 24 (by kernel_rfl) (by kernel_rfl) ?_
                          simp only [List.take_succ_cons, List.drop_succ_cons, List.take_nil, List.drop_nil]
                          repeat (go_big_quiet_step (exact Calls.regrown_of (HAl.out _ (below_regrown _ _ _))))
                          refine wpQuiet_nil ?_
                          intro wz hbz
                          have HSz := Lib.hid (HS.out.later hbz)
                          clear c4 t4 B4 c15 t15 B15 g1 g2 g3 g4 t1 t2 t3 hbz HS HAl hW2y d2
                          go_wp2_with fail
                          go_roundw
                          case rel => exact ⟨b + 1, by go_num, by omega, .inl ⟨HSz.out, HBp.out⟩⟩
                          case measure => simp [intOf]; omega
                    · obtain rfl : b = L.st.length := by omega
                      have hlt2 : hh + 1 ≤ pr := by
                        refine Nat.lt_of_le_of_ne hle fun h => ?_
                        have := hbp h
                        omega
                      have c4 := B4.cell; have t4 := B4.lt; have c15 := B15.cell; have t15 := B15.lt
                      clear hS hbp hbl B4 B15 hW2y
                      go_wp2_with fail
                      go_roundw
                      case rel => exact ⟨hh + 1, by go_num, by omega, by omega, .inl ⟨hlt2, HS.out⟩⟩
                      case measure => simp [intOf]; omega
                  · have HS := Lib.hid hS
                    have hW2y : Below w2.heap.size w2 wy := HBw.out.trans (hS.W.mono (by have := HBw.out.size; omega))
                    have B4 := HB2.out.later hW2y
                    have B15 := hS.B
                    rw [← HB15.out] at B15
                    have d2 : decide ((pt : Int) < 0) = false := by simp
                    have hpe : hh + 1 = pr + 1 := by omega
                    have HPe := Lib.hid hpe
                    have c4 := B4.cell; have t4 := B4.lt; have c15 := B15.cell; have t15 := B15.lt
                    clear hS B4 B15 hW2y he hpe
                    by_cases hbl : b < L.st.length
                    · go_wp2_with fail
                      go_roundw
                      case rel => exact ⟨hh + 1, by go_num, by omega, by have := HPe.out; omega, .inr ⟨HPe.out, HS.out⟩⟩
                      case measure => simp [intOf]; omega
                    · go_wp2_with fail
                      go_roundw
                      case rel => exact ⟨hh + 1, by go_num, by omega, by have := HPe.out; omega, .inr ⟨HPe.out, HS.out⟩⟩
                      case measure => simp [intOf]; omega
              · have HS := Lib.hid hS
                have hW2x : Below w2.heap.size w2 wx := HBw.out.trans (hS.W.mono (by have := HBw.out.size; omega))
                have B15 := hS.B
                rw [← HB15.out] at B15
                have d2 : decide ((pt : Int) < 0) = false := by simp
                have hsz2 : w2.heap.size ≤ wx.heap.size := hW2x.size
                have HW2x := Lib.hid hW2x
                have HOx := Lib.hid (HO.out.later hS.W)
                have HFo := Lib.hid hfo
                have c15 := B15.cell; have t15 := B15.lt
                clear hS hfo hW2x
                by_cases hbl : hh < u
                · go_wp2_with (at_builtin; refine named1 (p := wpList _ _ _ _ _) ?_; intro w6 hb6 B97; have hO := HOx.out.later hb6; have B15b := B15.later hb6; refine wpList_grow rfl (.tmp 95) (.tmp 97) 55 rfl elem_hi rfl hO rfl B97 rfl (by omega) rfl (n := pn) (by have := HPn.out; simp; omega) (by have := HPn.out; omega) (by omega) (Nat.le_trans hsz2 hb6.size) ?_; intro a' c' W' hO' hb' hg'; have B15c : Box W' b15 #[.int .i64 pf, .int .i64 pt, .int .i64 pr] 82 := (hg'.block b15 B15b.lt (fun h => by have := HLt.out b15 h.symm; have := HB15.out; omega)).trans B15b; have HW6 := Lib.hid ((over HW2x.out hb6).trans hb'); have c15c := B15c.cell; have t15c := B15c.lt; clear hg' hO B97 hb' hb6 B15b c15 t15 B15)
                  refine Fat.wp_region_tail 7 (by kernel_rfl) (by kernel_rfl) ?_
                  simp only [List.take_succ_cons, List.drop_succ_cons, List.take_nil, List.drop_nil]
                  repeat (go_big_quiet_step (fail))
                  refine wpQuiet_nil ?_
                  intro w7 hb7
                  have HO7 : Hid (Own w7 w2.heap.size 82 3 (.slice a' (pn + 1) c') ((pre ++ [(⟨pf, pt, pr⟩ : Hp)]).map Hp.vs)) := by
                    rw [Hid, List.map_append]; exact hO'.later hb7
                  have HW7 := Lib.hid (over HW6.out hb7)
                  clear hO' B15c c15c t15c hb7 HW6
                  go_wp2_with fail
                  go_roundw
                  case rel => exact ⟨pre ++ [⟨pf, pt, pr⟩], rest, pt, pr + 1, by rw [HLp.out]; simp, rfl, by go_num, by omega, by omega, fto, HRest.out, HW7.out, HO7.out⟩
                  case measure => simp [intOf]; omega
                · go_wp2_with (at_builtin; refine named1 (p := wpList _ _ _ _ _) ?_; intro w6 hb6 B97; have hO := HOx.out.later hb6; have B15b := B15.later hb6; refine wpList_grow rfl (.tmp 95) (.tmp 97) 55 rfl elem_hi rfl hO rfl B97 rfl (by omega) rfl (n := pn) (by have := HPn.out; simp; omega) (by have := HPn.out; omega) (by omega) (Nat.le_trans hsz2 hb6.size) ?_; intro a' c' W' hO' hb' hg'; have B15c : Box W' b15 #[.int .i64 pf, .int .i64 pt, .int .i64 pr] 82 := (hg'.block b15 B15b.lt (fun h => by have := HLt.out b15 h.symm; have := HB15.out; omega)).trans B15b; have HW6 := Lib.hid ((over HW2x.out hb6).trans hb'); have c15c := B15c.cell; have t15c := B15c.lt; clear hg' hO B97 hb' hb6 B15b c15 t15 B15)
                  refine Fat.wp_region_tail 7 (by kernel_rfl) (by kernel_rfl) ?_
                  simp only [List.take_succ_cons, List.drop_succ_cons, List.take_nil, List.drop_nil]
                  repeat (go_big_quiet_step (fail))
                  refine wpQuiet_nil ?_
                  intro w7 hb7
                  have HO7 : Hid (Own w7 w2.heap.size 82 3 (.slice a' (pn + 1) c') ((pre ++ [(⟨pf, pt, pr⟩ : Hp)]).map Hp.vs)) := by
                    rw [Hid, List.map_append]; exact hO'.later hb7
                  have HW7 := Lib.hid (over HW6.out hb7)
                  clear hO' B15c c15c t15c hb7 HW6
                  go_wp2_with fail
                  go_roundw
                  case rel => exact ⟨pre ++ [⟨pf, pt, pr⟩], rest, pt, pr + 1, by rw [HLp.out]; simp, rfl, by go_num, by omega, by omega, fto, HRest.out, HW7.out, HO7.out⟩
                  case measure => simp [intOf]; omega
end Go.Proofs.YtfihdaoakfdlpaaGreat
