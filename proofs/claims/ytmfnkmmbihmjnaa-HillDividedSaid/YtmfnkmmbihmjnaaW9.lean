/- Layer 1, the walks: the error of a land (the reference's). -/
import Derived.Test.YtmfnkmmbihmjnaaW8
open Go.RowKit
namespace Go.Proofs.Ytmfnkmmbihmjnaa
open Go.Hill

theorem take_all {α : Type} {p : α → Bool} {l : List α} {k : Nat} {x : α} (h : (l.take k).all p = true) (hx : l[k]? = some x) (hp : p x = true) : (l.take (k + 1)).all p = true := by
  obtain ⟨hk, rfl⟩ := List.getElem?_eq_some_iff.1 hx
  rw [List.take_succ_eq_append_getElem hk, List.all_append, h]; simp [hp]
theorem all_false {α : Type} {p : α → Bool} {l : List α} {k : Nat} {x : α} (hx : l[k]? = some x) (hp : p x = false) : l.all p = false := by
  rw [List.all_eq_false]; exact ⟨x, List.mem_of_getElem? hx, by simp [hp]⟩
theorem take_full {α : Type} {p : α → Bool} {l : List α} {k : Nat} (h : (l.take k).all p = true) (hk : l.length ≤ k) : l.all p = true := by
  rwa [List.take_of_length_le hk] at h

theorem chk_one {L : Land} (hl : L.lim = false) (ha : L.arg = true) : L.chk = 1 := by simp [Land.chk, hl, ha]
theorem arg_empty {L : Land} (h : L.st.length = 0 ∨ L.cs.length = 0 ∨ L.sn.length = 0) : L.arg = true := by
  unfold Land.arg
  rcases h with h | h | h <;> rw [h] <;> simp
theorem chk_zero {L : Land} (hl : L.lim = false) (ha : L.arg = false) : L.chk = 0 := by simp [Land.chk, hl, ha]

set_option maxRecDepth 100000 in
set_option maxHeartbeats 4000000 in
theorem fault_any (q : LV) (L : Land) (w : World) (hL : LandAt w q L) (l1 : L.st.length ≤ 1000) (l2 : L.rd.length ≤ 1000) (l3 : L.cs.length ≤ 1000) (l4 : L.sn.length ≤ 1000) (l5 : ∀ c ∈ L.cs, c.length ≤ 1000) :
    Calls Try.prog 51 #[.agg #[.slice q.a1 L.st.length q.c1, .slice q.a2 L.rd.length q.c2, .slice q.a3 L.cs.length q.c3, .slice q.a4 L.sn.length q.c4]] w (Ret (.int .i64 L.chk) w) := by
  obtain ⟨cl, hcl, hrow, hcs⟩ := hL.cs
  have hcll : cl.length = L.cs.length := by rw [← hcl]; simp
  have HL := Lib.hid hL
  have HRow := Lib.hid hrow
  have HCs := Lib.hid hcs
  have HCl := Lib.hid hcl
  have HCll := Lib.hid hcll
  have H5 := Lib.hid l5
  have HM : Hid (∀ c ∈ cl, c.cs.length ≤ 1000) := fun c hc => l5 c.cs (by rw [← hcl]; exact List.mem_map_of_mem hc)
  have E4 : Hid ((cl.all fun x => decide (x.cs.length ≤ 4)) = L.cs.all fun c => decide (c.length ≤ 4)) := by rw [Hid, ← hcl]; simp [List.all_map, Function.comp_def]
  have E5 : Hid ((cl.all fun x => x.cs.all (·.ok L.sn.length)) = L.cs.all fun c => c.all (·.ok L.sn.length)) := by rw [Hid, ← hcl]; simp [List.all_map, Function.comp_def]
  clear hL hrow hcs hcl hcll l5
  by_cases hv : L.st.length ≤ 6 ∧ L.rd.length ≤ 6 ∧ L.cs.length ≤ 4 ∧ L.sn.length ≤ 12
  case neg =>
    go_enter Try.func51, Try.ntmps51
    go_wp2_with fail
    all_goals first
      | (go_ret; exact ⟨ret_int (by simp [Land.chk, Land.lim]; omega), (by repeat (first | exact Below.refl _ _ | refine al ?_ _ | refine Below.drew ?_ | refine sc ?_ (by simp) _))⟩)
      | (exfalso; omega)
  obtain ⟨v1, v2, v3, v4⟩ := hv
  have d1 : decide ((6 : Int) < (L.st.length : Int)) = false := by simp; omega
  have d2 : decide ((6 : Int) < (L.rd.length : Int)) = false := by simp; omega
  have d3 : decide ((4 : Int) < (L.cs.length : Int)) = false := by simp; omega
  have d4 : decide ((12 : Int) < (L.sn.length : Int)) = false := by simp; omega
  go_enter Try.func51, Try.ntmps51
  go_wp2_with fail
  clear d1 d2 d3 d4
  refine named1 (p := Code.wp _ _ _ _) ?_
  intro W hW B1
  go_loopw [3] (fun i wr => ∃ k : Nat, k ≤ L.cs.length ∧ i = .int .i64 k ∧ Below W.heap.size W wr ∧ ((cl.take k).all fun x => decide (x.cs.length ≤ 4)) = true) (fun i _ => L.cs.length - (intOf i).toNat)
  case atStart => exact ⟨0, Nat.zero_le _, rfl, Below.refl _ _, rfl⟩
  case round =>
    obtain ⟨k, hk, rfl, hb, hp⟩ := hrel
    have HP := Lib.hid hp
    clear hp
    (try clear c1 t1); replace B1 := B1.later hb; have c1 := B1.cell; have t1 := B1.lt
    by_cases hlt : k < L.cs.length
    · obtain ⟨b3, o3, ea, hC⟩ := RowAt.at (k := k) HRow.out (by rw [HCll.out]; exact hlt)
      obtain ⟨x, hx⟩ : ∃ x, cl[k]? = some x := ⟨cl[k]'(by rw [HCll.out]; exact hlt), by simp⟩
      have e0 := cells_one ((hC.later hW).later hb) hx
      have hxl := HM.out x (List.mem_of_getElem? hx)
      have HX := Lib.hid hx
      rw [ea] at c1
      clear hx hC ea
      by_cases hx4 : x.cs.length ≤ 4
      · go_wp2_with fail
        go_roundw
        case rel => exact ⟨k + 1, by omega, by go_num, hb, take_all HP.out HX.out (by simpa using hx4)⟩
        case measure => simp [intOf]; omega
      · go_wp2_with fail
        go_ret
        exact ⟨ret_int (by rw [Land.chk, if_pos]; rw [Land.lim, ← E4.out, all_false HX.out (by simpa using hx4)]; simp), over hW hb⟩
    · have HLim : Hid (L.lim = false) := by
        have := take_full HP.out (by rw [HCll.out]; omega)
        rw [E4.out] at this
        rw [Hid, Land.lim, this]; simp; omega
      clear HP
      by_cases he : L.st.length = 0 ∨ L.cs.length = 0 ∨ L.sn.length = 0
      · have HE := Lib.hid he
        clear he
        go_wp2_with fail
        all_goals first
          | (go_ret; exact ⟨ret_int (chk_one HLim.out (arg_empty HE.out)).symm, over hW hb⟩)
          | (exfalso; have := HE.out; simp_all; done)
      have HE0 : Hid (L.st.length ≠ 0 ∧ L.cs.length ≠ 0 ∧ L.sn.length ≠ 0) := by unfold Hid; omega
      have d1 : ((L.st.length : Int) == 0) = false := by simp; intro h; simp [h] at he
      have d2 : ((L.cs.length : Int) == 0) = false := by simp; intro h; simp [h] at he
      have d3 : ((L.sn.length : Int) == 0) = false := by simp; intro h; simp [h] at he
      clear he
      go_wp2_with fail
      clear d1 d2 d3
      clear hlt hk
      replace hW := over hW hb
      obtain ⟨W2, rfl⟩ : ∃ W2 : World, W2 = wr := ⟨_, rfl⟩
      clear hb
      go_loopw [4] (fun i wr => ∃ k : Nat, k ≤ L.st.length ∧ i = .int .i64 k ∧ Below W2.heap.size W2 wr ∧ (L.st.take k).all Stn.ok = true ∧ apartTo L.st k = true) (fun i _ => L.st.length - (intOf i).toNat)
      case atStart => exact ⟨0, Nat.zero_le _, rfl, Below.refl _ _, rfl, rfl⟩
      case round =>
        obtain ⟨k, hk, rfl, hb, hp, hap⟩ := hrel
        have HP := Lib.hid hp
        have HA := Lib.hid hap
        clear hp hap
        (try clear c1 t1); replace B1 := B1.later hb; have c1 := B1.cell; have t1 := B1.lt
        by_cases hlt : k < L.st.length
        · obtain ⟨b3, o3, ea, hC⟩ := RowAt.at (k := k) HL.out.st hlt
          obtain ⟨x, hx⟩ : ∃ x, L.st[k]? = some x := ⟨L.st[k], by simp⟩
          obtain ⟨e0, e1, e2, e3⟩ := cells_st ((hC.later hW).later hb) hx
          have HX := Lib.hid hx
          have HC := Lib.hid hC
          rw [ea] at c1 B1
          clear hx hC ea
          go_wp2_with fail
          obtain ⟨wo, rfl⟩ : ∃ wo : World, wo = wr := ⟨_, rfl⟩
          refine named1 (p := fun W => Calls _ _ _ W _) ?_
          intro w1 hb1 B5
          replace hb := over hb hb1
          (try clear c1 t1); replace B1 := B1.later hb1; have c1 := B1.cell; have t1 := B1.lt
          have c5 := B5.cell; have t5 := B5.lt
          clear hb1 e0 e1 e2 e3
          have HO : Hid (x.ok = (inB x.X 0 100 && inB x.Y 0 100 && inB x.Z 0 1000 && inB x.M 1 2)) := rfl
          go_wp2_with (go_at_call 23; refine (in_any _ _ _ _).mono ?_; rintro e w' ⟨rfl, hb'⟩; replace hb := over hb hb'; (try clear c1 t1 c5 t5); replace B1 := B1.later hb'; replace B5 := B5.later hb'; have c1 := B1.cell; have t1 := B1.lt; have c5 := B5.cell; have t5 := B5.lt; clear hb')
          all_goals first
            | (go_ret; exact ⟨ret_int (chk_one HLim.out (by rw [Land.arg, all_false HX.out (show x.ok = false by rw [HO.out]; simp_all)]; simp)).symm, over hW hb⟩)
            | skip
          have HXk : Hid (x.ok = true) := by rw [Hid, HO.out]; simp_all
          clear HO
          rename World => w2
          go_loopw [6] (fun i wi => ∃ m : Nat, m ≤ k ∧ i = .int .i64 m ∧ Below w2.heap.size w2 wi ∧ ∀ j, j < m → sameAt L.st j k = false) (fun i _ => k - (intOf i).toNat)
          case atStart => exact ⟨0, Nat.zero_le _, rfl, Below.refl _ _, fun j hj => by omega⟩
          case round =>
            obtain ⟨m, hm, rfl, hb2, hno⟩ := hrel
            have HN := Lib.hid hno
            clear hno
            (try clear c1 t1 c5 t5); replace B1 := B1.later hb2; replace B5 := B5.later hb2; have c1 := B1.cell; have t1 := B1.lt; have c5 := B5.cell; have t5 := B5.lt
            by_cases hlm : m < k
            · obtain ⟨y, hy⟩ : ∃ y, L.st[m]? = some y := ⟨L.st[m]'(by omega), by simp⟩
              obtain ⟨e0, e1, e2, e3⟩ := cells_st ((HC.out.later hW).later (over hb hb2)) hy
              have z1 : b3 < wr.heap.size := block_lt_of_cell e0
              have HS : Hid (sameAt L.st m k = (y.X == x.X && y.Y == x.Y)) := by simp [Hid, sameAt, hy, HX.out]
              clear hy
              have y1 : (0 : Int) ≤ (m : Int) := by omega
              have y2 : (m : Int) < (L.st.length : Int) := by omega
              by_cases hXX : y.X = x.X
              · have hXB : (y.X == x.X) = true := by simpa using hXX
                by_cases hYY : y.Y = x.Y
                · have hYB : (y.Y == x.Y) = true := by simpa using hYY
                  have HSS : Hid (sameAt L.st m k = true) := by rw [Hid, HS.out, hXB, hYB]; rfl
                  clear HS hXX hYY
                  go_wp2_with fail
                  refine Fat.wp_region_tail 20 (by kernel_rfl) (by kernel_rfl) ?_
                  simp only [List.take_succ_cons, List.drop_succ_cons, List.take_nil, List.drop_nil]
                  repeat (go_big_quiet_step (fail))
                  refine wpQuiet_nil ?_
                  intro w4 hb4
                  replace hb2 := over hb2 hb4
                  clear hb4
                  go_wp2_with fail
                  go_ret
                  exact ⟨ret_int (chk_one HLim.out (by rw [Land.arg, not_apart hlm hlt HSS.out]; simp)).symm, over hW (over hb hb2)⟩
                · have hYB : (y.Y == x.Y) = false := by simpa using hYY
                  have HSS : Hid (sameAt L.st m k = false) := by rw [Hid, HS.out, hXB, hYB]; rfl
                  clear HS hXX hYY
                  go_wp2_with fail
                  refine Fat.wp_region_tail 20 (by kernel_rfl) (by kernel_rfl) ?_
                  simp only [List.take_succ_cons, List.drop_succ_cons, List.take_nil, List.drop_nil]
                  repeat (go_big_quiet_step (fail))
                  refine wpQuiet_nil ?_
                  intro w4 hb4
                  replace hb2 := over hb2 hb4
                  clear hb4
                  go_wp2_with fail
                  go_roundw
                  case rel =>
                    refine ⟨m + 1, by omega, by go_num, hb2, fun j hj => ?_⟩
                    rcases Nat.lt_succ_iff_lt_or_eq.1 hj with h | h
                    · exact HN.out j h
                    · subst h; exact HSS.out
                  case measure => simp [intOf]; omega
              · have hXB : (y.X == x.X) = false := by simpa using hXX
                have HSS : Hid (sameAt L.st m k = false) := by rw [Hid, HS.out, hXB]; rfl
                clear HS hXX
                go_wp2_with fail
                refine Fat.wp_region_tail 20 (by kernel_rfl) (by kernel_rfl) ?_
                simp only [List.take_succ_cons, List.drop_succ_cons, List.take_nil, List.drop_nil]
                repeat (go_big_quiet_step (fail))
                refine wpQuiet_nil ?_
                intro w4 hb4
                replace hb2 := over hb2 hb4
                clear hb4
                go_wp2_with fail
                go_roundw
                case rel =>
                  refine ⟨m + 1, by omega, by go_num, hb2, fun j hj => ?_⟩
                  rcases Nat.lt_succ_iff_lt_or_eq.1 hj with h | h
                  · exact HN.out j h
                  · subst h; exact HSS.out
                case measure => simp [intOf]; omega
            · go_wp2_with fail
              go_roundw
              case rel =>
                refine ⟨k + 1, by omega, by go_num, over hb hb2, take_all HP.out HX.out HXk.out, ?_⟩
                rw [apartTo_succ, HA.out, all_range fun j hj => by rw [HN.out j (by omega)]; rfl]
                rfl
              case measure => simp [intOf]; omega
        · have HSt := Lib.hid (take_full HP.out (by omega))
          have HAp : Hid (apartTo L.st L.st.length = true) := by
            obtain rfl : k = L.st.length := by omega
            exact HA.out
          clear HP HA
          replace hW := over hW hb
          clear hb
          go_wp2_with fail
          obtain ⟨W3, rfl⟩ : ∃ W3 : World, W3 = wr := ⟨_, rfl⟩
          clear hlt hk
          go_loopw [7] (fun i wr => ∃ k : Nat, k ≤ L.rd.length ∧ i = .int .i64 k ∧ Below W3.heap.size W3 wr ∧ (L.rd.take k).all Wl.rg = true) (fun i _ => L.rd.length - (intOf i).toNat)
          case atStart => exact ⟨0, Nat.zero_le _, rfl, Below.refl _ _, rfl⟩
          case round =>
            obtain ⟨k, hk, rfl, hb, hp⟩ := hrel
            have HP := Lib.hid hp
            clear hp
            (try clear c1 t1); replace B1 := B1.later hb; have c1 := B1.cell; have t1 := B1.lt
            by_cases hlt : k < L.rd.length
            · obtain ⟨b3, o3, ea, hC⟩ := RowAt.at (k := k) HL.out.rd hlt
              obtain ⟨x, hx⟩ : ∃ x, L.rd[k]? = some x := ⟨L.rd[k], by simp⟩
              have HX := Lib.hid hx
              have HC := Lib.hid hC
              obtain ⟨e0, e1, e2, e3, e4, e5⟩ := cells_wl ((hC.later hW).later hb) hx
              rw [ea] at c1 B1
              clear hx hC ea
              go_wp2_with fail
              refine (iswall_any x _).mono ?_
              rintro e w1 ⟨rfl, hb1⟩
              replace hb := over hb hb1
              (try clear c1 t1); replace B1 := B1.later hb1; have c1 := B1.cell; have t1 := B1.lt
              clear hb1 e0 e1 e2 e3 e4 e5
              obtain ⟨_, _, _, _, e4, _⟩ := cells_wl ((HC.out.later hW).later hb) HX.out
              obtain ⟨xo, hxo⟩ : ∃ b, b = x.ok := ⟨_, rfl⟩
              rw [← hxo]
              have HXo := Lib.hid hxo
              clear hxo
              cases xo with
              | false =>
                go_wp2_with fail
                go_ret
                exact ⟨ret_int (chk_one HLim.out (by rw [Land.arg, all_false HX.out (show x.rg = false by rw [Wl.rg, ← HXo.out]; rfl)]; simp)).symm, over hW hb⟩
              | true =>
                by_cases hB0 : x.B = 0
                · have hBB : (x.B != 0) = false := by simp [hB0]
                  have HB0 := Lib.hid hB0
                  clear hB0
                  go_wp2_with fail
                  go_roundw
                  case rel => exact ⟨k + 1, by omega, by go_num, hb, take_all HP.out HX.out (show x.rg = true by rw [Wl.rg, ← HXo.out, HB0.out]; rfl)⟩
                  case measure => simp [intOf]; omega
                · have hBB : (x.B != 0) = true := by simpa using hB0
                  have HB0 := Lib.hid hB0
                  clear hB0
                  go_wp2_with fail
                  go_ret
                  exact ⟨ret_int (chk_one HLim.out (by rw [Land.arg, all_false HX.out (show x.rg = false by rw [Wl.rg, ← HXo.out]; simpa using HB0.out)]; simp)).symm, over hW hb⟩
            · have HRd := Lib.hid (take_full HP.out (by omega))
              clear HP
              replace hW := over hW hb
              clear hb
              go_wp2_with fail
              obtain ⟨W4, rfl⟩ : ∃ W4 : World, W4 = wr := ⟨_, rfl⟩
              clear hlt hk
              go_loopw [8] (fun i wr => ∃ k : Nat, k ≤ L.cs.length ∧ i = .int .i64 k ∧ Below W4.heap.size W4 wr ∧ ((cl.take k).all fun x => x.cs.all (·.ok L.sn.length)) = true) (fun i _ => L.cs.length - (intOf i).toNat)
              case atStart => exact ⟨0, Nat.zero_le _, rfl, Below.refl _ _, rfl⟩
              case round =>
                obtain ⟨k, hk, rfl, hb, hp⟩ := hrel
                have HP := Lib.hid hp
                clear hp
                (try clear c1 t1); replace B1 := B1.later hb; have c1 := B1.cell; have t1 := B1.lt
                by_cases hlt : k < L.cs.length
                · obtain ⟨b3, o3, ea, hC⟩ := RowAt.at (k := k) HRow.out (by rw [HCll.out]; exact hlt)
                  obtain ⟨x, hx⟩ : ∃ x, cl[k]? = some x := ⟨cl[k]'(by rw [HCll.out]; exact hlt), by simp⟩
                  have hxl := HM.out x (List.mem_of_getElem? hx)
                  have HX := Lib.hid hx
                  have HC := Lib.hid hC
                  rw [ea] at c1 B1
                  clear hx hC ea
                  go_wp2_with fail
                  obtain ⟨W5, rfl⟩ : ∃ W5 : World, W5 = wr := ⟨_, rfl⟩
                  go_loopw [9] (fun i wi => ∃ m : Nat, m ≤ x.cs.length ∧ i = .int .i64 m ∧ Below W5.heap.size W5 wi ∧ ((x.cs.take m).all (·.ok L.sn.length)) = true) (fun i _ => x.cs.length - (intOf i).toNat)
                  case atStart => exact ⟨0, Nat.zero_le _, rfl, Below.refl _ _, rfl⟩
                  case round =>
                    obtain ⟨m, hm, rfl, hb2, hp2⟩ := hrel
                    have HP2 := Lib.hid hp2
                    clear hp2
                    (try clear c1 t1); replace B1 := B1.later hb2; have c1 := B1.cell; have t1 := B1.lt
                    have e0 := cells_one ((HC.out.later hW).later (over hb hb2)) HX.out
                    by_cases hlm : m < x.cs.length
                    · obtain ⟨b4, o4, ea, hC⟩ := RowAt.at (k := m) (HCs.out x (List.mem_of_getElem? HX.out)) hlm
                      obtain ⟨y, hy⟩ : ∃ y, x.cs[m]? = some y := ⟨x.cs[m], by simp⟩
                      obtain ⟨f0, f1, f2, f3, f4, f5, f6, f7⟩ := cells_cd ((hC.later hW).later (over hb hb2)) hy
                      have HY := Lib.hid hy
                      rw [ea] at e0
                      clear hy hC ea
                      have HO : Hid (y.ok L.sn.length = (y.wl.ok && inB y.fr 0 y.to && decide (y.to < L.sn.length))) := rfl
                      go_wp2_with fail
                      obtain ⟨wo, rfl⟩ : ∃ wo : World, wo = wr := ⟨_, rfl⟩
                      refine named1 (p := fun W => Calls _ _ _ W _) ?_
                      intro w1 hb1 B10
                      replace hb2 := over hb2 hb1
                      (try clear c1 t1); replace B1 := B1.later hb1; have c1 := B1.cell; have t1 := B1.lt
                      clear hb1 e0 f0 f1 f2 f3 f4 f5 f6 f7
                      refine (iswall_any y.wl _).mono ?_
                      rintro e w3 ⟨rfl, hb3⟩
                      replace hb2 := over hb2 hb3
                      (try clear c1 t1 c10 t10); replace B1 := B1.later hb3; replace B10 := B10.later hb3; have c1 := B1.cell; have t1 := B1.lt; have c10 := B10.cell; have t10 := B10.lt
                      clear hb3
                      obtain ⟨yo, hyo⟩ : ∃ b, b = y.wl.ok := ⟨_, rfl⟩
                      rw [← hyo]
                      have HYo := Lib.hid hyo
                      clear hyo
                      cases yo with
                      | false =>
                        go_wp2_with fail
                        go_ret
                        exact ⟨ret_int (chk_one HLim.out (by rw [Land.arg, ← E5.out, all_false HX.out (all_false HY.out (by rw [HO.out, ← HYo.out]; rfl))]; simp)).symm, over hW (over hb hb2)⟩
                      | true =>
                        go_wp2_with fail
                        refine (in_any _ _ _ _).mono ?_
                        rintro e w4 ⟨rfl, hb4⟩
                        replace hb2 := over hb2 hb4
                        (try clear c1 t1 c10 t10); replace B1 := B1.later hb4; replace B10 := B10.later hb4; have c1 := B1.cell; have t1 := B1.lt; have c10 := B10.cell; have t10 := B10.lt
                        clear hb4
                        obtain ⟨yi, hyi⟩ : ∃ b, b = inB y.fr 0 y.to := ⟨_, rfl⟩
                        rw [← hyi]
                        have HYi := Lib.hid hyi
                        clear hyi
                        cases yi with
                        | false =>
                          go_wp2_with fail
                          go_ret
                          exact ⟨ret_int (chk_one HLim.out (by rw [Land.arg, ← E5.out, all_false HX.out (all_false HY.out (by rw [HO.out, ← HYi.out, Bool.and_false]; rfl))]; simp)).symm, over hW (over hb hb2)⟩
                        | true =>
                          by_cases hto : y.to < L.sn.length
                          · have HT : Hid (y.ok L.sn.length = true) := by rw [Hid, HO.out, ← HYo.out, ← HYi.out]; simpa using hto
                            go_wp2_with fail
                            go_roundw
                            case rel => exact ⟨m + 1, by omega, by go_num, hb2, take_all HP2.out HY.out HT.out⟩
                            case measure => simp [intOf]; omega
                          · have HT : Hid (y.ok L.sn.length = false) := by rw [Hid, HO.out, ← HYo.out, ← HYi.out]; simpa using hto
                            go_wp2_with fail
                            go_ret
                            exact ⟨ret_int (chk_one HLim.out (by rw [Land.arg, ← E5.out, all_false HX.out (all_false HY.out HT.out)]; simp)).symm, over hW (over hb hb2)⟩
                    · have HT := Lib.hid (take_full HP2.out (by omega))
                      go_wp2_with fail
                      go_roundw
                      case rel => exact ⟨k + 1, by omega, by go_num, over hb hb2, take_all HP.out HX.out HT.out⟩
                      case measure => simp [intOf]; omega
                · have HCd : Hid ((L.cs.all fun c => c.all (·.ok L.sn.length)) = true) := by rw [Hid, ← E5.out]; exact take_full HP.out (by rw [HCll.out]; omega)
                  clear HP
                  replace hW := over hW hb
                  clear hb
                  go_wp2_with fail
                  obtain ⟨W6, rfl⟩ : ∃ W6 : World, W6 = wr := ⟨_, rfl⟩
                  clear hlt hk
                  go_loopw [11] (fun i wr => ∃ k : Nat, k ≤ L.sn.length ∧ i = .int .i64 k ∧ Below W6.heap.size W6 wr ∧ (L.sn.take k).all Sn.ok = true) (fun i _ => L.sn.length - (intOf i).toNat)
                  case atStart => exact ⟨0, Nat.zero_le _, rfl, Below.refl _ _, rfl⟩
                  case round =>
                    obtain ⟨k, hk, rfl, hb, hp⟩ := hrel
                    have HP := Lib.hid hp
                    clear hp
                    (try clear c1 t1); replace B1 := B1.later hb; have c1 := B1.cell; have t1 := B1.lt
                    by_cases hlt : k < L.sn.length
                    · obtain ⟨b3, o3, ea, hC⟩ := RowAt.at (k := k) HL.out.sn hlt
                      obtain ⟨x, hx⟩ : ∃ x, L.sn[k]? = some x := ⟨L.sn[k], by simp⟩
                      obtain ⟨e0, e1, e2⟩ := cells_sn ((hC.later hW).later hb) hx
                      have HX := Lib.hid hx
                      rw [ea] at c1 B1
                      clear hx hC ea
                      go_wp2_with fail
                      obtain ⟨wo, rfl⟩ : ∃ wo : World, wo = wr := ⟨_, rfl⟩
                      refine named1 (p := fun W => Calls _ _ _ W _) ?_
                      intro w1 hb1 B12
                      replace hb := over hb hb1
                      (try clear c1 t1); replace B1 := B1.later hb1; have c1 := B1.cell; have t1 := B1.lt
                      have c12 := B12.cell; have t12 := B12.lt
                      clear hb1 e0 e1 e2
                      have HO : Hid (x.ok = (inB x.E (-100) 100 && inB x.N (-100) 100 && inB x.U (-100) 100)) := rfl
                      go_wp2_with (go_at_call 23; refine (in_any _ _ _ _).mono ?_; rintro e w' ⟨rfl, hb'⟩; replace hb := over hb hb'; (try clear c1 t1 c12 t12); replace B1 := B1.later hb'; replace B12 := B12.later hb'; have c1 := B1.cell; have t1 := B1.lt; have c12 := B12.cell; have t12 := B12.lt; clear hb')
                      all_goals first
                        | (go_ret; exact ⟨ret_int (chk_one HLim.out (by rw [Land.arg, all_false HX.out (show x.ok = false by rw [HO.out]; simp_all)]; simp)).symm, over hW hb⟩)
                        | skip
                      have HXk : Hid (x.ok = true) := by rw [Hid, HO.out]; simp_all
                      go_roundw
                      case rel => exact ⟨k + 1, by omega, by go_num, hb, take_all HP.out HX.out HXk.out⟩
                      case measure => simp [intOf]; omega
                    · have HSn := Lib.hid (take_full HP.out (by omega))
                      go_wp2_with fail
                      go_ret
                      exact ⟨ret_int (chk_zero HLim.out (by have := HE0.out; rw [Land.arg, HSt.out, HAp.out, HRd.out, HCd.out, HSn.out]; simp at this ⊢; exact ⟨⟨this.1, this.2.1⟩, this.2.2⟩)).symm, over hW hb⟩
end Go.Proofs.Ytmfnkmmbihmjnaa
