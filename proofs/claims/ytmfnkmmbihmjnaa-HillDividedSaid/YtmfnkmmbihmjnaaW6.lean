/- Layer 1, the walks: no two stations at one place; the error of a land. -/
import Derived.Test.YtmfnkmmbihmjnaaW5
open Go.RowKit
namespace Go.Proofs.Ytmfnkmmbihmjnaa
open Go.Hill

theorem apartTo_succ (l : List Stn) (k : Nat) : apartTo l (k + 1) = (apartTo l k && (List.range k).all fun j => !sameAt l j k) := by
  simp [apartTo, List.range_succ]
theorem all_range {p : Nat → Bool} {k : Nat} (h : ∀ j, j < k → p j = true) : (List.range k).all p = true := by
  rw [List.all_eq_true]; intro j hj; exact h j (by simpa using hj)
theorem not_apart {l : List Stn} {j k : Nat} (hj : j < k) (hk : k < l.length) (h : sameAt l j k = true) : apartTo l l.length = false := by
  unfold apartTo
  rw [List.all_eq_false]
  refine ⟨k, by simpa using hk, ?_⟩
  rw [Bool.not_eq_true, List.all_eq_false]
  exact ⟨j, by simpa using hj, by simp [h]⟩

set_option maxRecDepth 100000 in
set_option maxHeartbeats 1000000 in
theorem apart_any (q : LV) (n2 n3 n4 : Nat) (l : List Stn) (w : World) (hR : RowAt w q.a1 4 (l.map Stn.vs)) (hk : l.length ≤ q.c1) (hlen : l.length ≤ 1000) :
    Calls Try.prog 71 #[.agg #[.slice q.a1 l.length q.c1, .slice q.a2 n2 q.c2, .slice q.a3 n3 q.c3, .slice q.a4 n4 q.c4]] w (Ret (.bool (apartTo l l.length)) w) := by
  have HR := Lib.hid hR
  clear hR
  generalize q.a1 = a1 at *
  generalize q.c1 = cc1 at *
  go_enter Try.func71, Try.ntmps71
  go_wp2_with fail
  refine named1 (p := Code.wp _ _ _ _) ?_
  intro W hW B1
  have c1 := B1.cell; have t1 := B1.lt
  go_wp2_with fail
  go_loopw [10] (fun i wr => ∃ k : Nat, k ≤ l.length ∧ i = .int .i64 k ∧ Below W.heap.size W wr ∧ apartTo l k = true) (fun i _ => l.length - (intOf i).toNat)
  case atStart => exact ⟨0, Nat.zero_le _, rfl, Below.refl _ _, rfl⟩
  case round =>
    obtain ⟨k, hk', rfl, hb, hap⟩ := hrel
    have HA := Lib.hid hap
    clear hap
    by_cases hlt : k < l.length
    · obtain ⟨b, o, rfl, hC⟩ := RowAt.at HR.out hlt
      replace hC := hC.later hW
      obtain ⟨x, hx⟩ : ∃ x, l[k]? = some x := ⟨l[k], by simp [hlt]⟩
      have HC := Lib.hid hC
      have HX := Lib.hid hx
      obtain ⟨e0, e1, e2, e3⟩ := cells_st (hC.later hb) hx
      clear hx hC
      (try clear c1 t1); replace B1 := B1.later hb; have c1 := B1.cell; have t1 := B1.lt
      go_wp2_with fail
      obtain ⟨wo, rfl⟩ : ∃ wo : World, wo = wr := ⟨_, rfl⟩
      refine named1 (p := Code.wp _ _ _ _) ?_
      intro w1 hb1 B4
      replace hb := over hb hb1
      (try clear c1 t1); replace B1 := B1.later hb1; have c1 := B1.cell; have t1 := B1.lt
      clear e0 e1 e2 e3
      go_loopw [20] (fun i wi => ∃ m : Nat, m ≤ k ∧ i = .int .i64 m ∧ Below w1.heap.size w1 wi ∧ ∀ j, j < m → sameAt l j k = false) (fun i _ => k - (intOf i).toNat)
      case atStart => exact ⟨0, Nat.zero_le _, rfl, Below.refl _ _, fun j hj => by omega⟩
      case round =>
        obtain ⟨m, hm, rfl, hb2, hno⟩ := hrel
        have HN := Lib.hid hno
        clear hno
        (try clear c1 t1 c4 t4); replace B1 := B1.later hb2; replace B4 := B4.later hb2; have c1 := B1.cell; have t1 := B1.lt; have c4 := B4.cell; have t4 := B4.lt
        by_cases hlm : m < k
        · obtain ⟨y, hy⟩ : ∃ y, l[m]? = some y := ⟨l[m]'(by omega), by simp⟩
          obtain ⟨e0, e1, e2, e3⟩ := cells_st (HC.out.later (over hb hb2)) hy
          have HS : Hid (sameAt l m k = (y.X == x.X && y.Y == x.Y)) := by simp [Hid, sameAt, hy, HX.out]
          clear hy
          go_wp2_with fail
          refine named1 (p := Code.wp _ _ _ _) ?_
          intro w3 hb3 B6
          replace hb2 := over hb2 hb3
          (try clear c1 t1 c4 t4); replace B1 := B1.later hb3; replace B4 := B4.later hb3; have c1 := B1.cell; have t1 := B1.lt; have c4 := B4.cell; have t4 := B4.lt
          have c6 := B6.cell; have t6 := B6.lt
          clear hb3 e0 e1 e2 e3
          refine Fat.wp_region_tail 5 (by kernel_rfl) (by kernel_rfl) ?_
          simp only [List.take_succ_cons, List.drop_succ_cons, List.take_nil, List.drop_nil]
          repeat (go_big_quiet_step (exact Calls.regrown_of (place_any _ _)))
          refine wpQuiet_nil ?_
          intro w4 hb4
          replace hb2 := over hb2 hb4
          clear hb4 B6 c6 t6 c1 t1 c4 t4 B1 B4
          go_wp2_with fail
          · rename_i hyx
            go_ret
            exact ⟨ret_bool (not_apart hlm hlt (by rw [HS.out]; simpa using hyx)).symm, over hW (over hb hb2)⟩
          · rename_i hyx
            go_roundw
            case rel =>
              refine ⟨m + 1, by omega, by go_num, hb2, fun j hj => ?_⟩
              rcases Nat.lt_succ_iff_lt_or_eq.1 hj with h | h
              · exact HN.out j h
              · subst h; rw [HS.out]; simp at hyx ⊢; omega
            case measure => simp [intOf]; omega
        · go_wp2_with fail
          go_roundw
          case rel =>
            refine ⟨k + 1, by omega, by go_num, over hb hb2, ?_⟩
            rw [apartTo_succ, HA.out, all_range fun j hj => by rw [HN.out j (by omega)]; rfl]
            rfl
          case measure => simp [intOf]; omega
    · go_wp2_with fail
      go_ret
      obtain rfl : k = l.length := by omega
      exact ⟨ret_bool HA.out.symm, over hW hb⟩

set_option maxRecDepth 100000 in
set_option maxHeartbeats 1000000 in
theorem check_any (q : LV) (L : Land) (w : World) (hL : LandAt w q L) (l1 : L.st.length ≤ 1000) (l2 : L.rd.length ≤ 1000) (l3 : L.cs.length ≤ 1000) (l4 : L.sn.length ≤ 1000) (l5 : ∀ c ∈ L.cs, c.length ≤ 1000) :
    Calls Try.prog 38 #[.agg #[.slice q.a1 L.st.length q.c1, .slice q.a2 L.rd.length q.c2, .slice q.a3 L.cs.length q.c3, .slice q.a4 L.sn.length q.c4]] w (Ret (.int .i64 L.chk) w) := by
  obtain ⟨cl, hcl, hrow, hcs⟩ := hL.cs
  have hcll : cl.length = L.cs.length := by rw [← hcl]; simp
  obtain ⟨b1, hb1⟩ : ∃ b, b = L.st.all Stn.ok := ⟨_, rfl⟩
  obtain ⟨b2, hb2⟩ : ∃ b, b = apartTo L.st L.st.length := ⟨_, rfl⟩
  obtain ⟨b3, hb3⟩ : ∃ b, b = L.rd.all Wl.rg := ⟨_, rfl⟩
  obtain ⟨b4, hb4⟩ : ∃ b, b = L.cs.all fun c => c.all (·.ok L.sn.length) := ⟨_, rfl⟩
  obtain ⟨b5, hb5⟩ : ∃ b, b = L.sn.all Sn.ok := ⟨_, rfl⟩
  obtain ⟨b6, hb6⟩ : ∃ b, b = L.cs.all fun c => decide (c.length ≤ 4) := ⟨_, rfl⟩
  have HG : Hid (L.chk = if decide (6 < L.st.length) || decide (6 < L.rd.length) || decide (4 < L.cs.length) || decide (12 < L.sn.length) || !b6 then 3
      else if L.st.length == 0 || L.cs.length == 0 || L.sn.length == 0 || !b1 || !b2 || !b3 || !b4 || !b5 then 1 else 0) := by
    rw [hb1, hb2, hb3, hb4, hb5, hb6]; rfl
  have C1 : Hid (∀ W, Below w.heap.size w W → Calls Try.prog 69 #[.slice q.a1 L.st.length q.c1, .func (.func 70) #[] #[]] W (Ret (.bool b1) W)) := fun W hW => by
    rw [hb1]; exact all_st L.st q.a1 q.c1 W (hL.later hW).st _ #[] #[] Stn.ok (fun _ _ => by kernel_rfl) l1 (fun x _ w' _ => stn_valid x w')
  have C2 : Hid (∀ W, Below w.heap.size w W → Calls Try.prog 71 #[.agg #[.slice q.a1 L.st.length q.c1, .slice q.a2 L.rd.length q.c2, .slice q.a3 L.cs.length q.c3, .slice q.a4 L.sn.length q.c4]] W (Ret (.bool b2) W)) := fun W hW => by
    rw [hb2]; exact apart_any q _ _ _ L.st W (hL.later hW).st hL.k1 l1
  have C3 : Hid (∀ W, Below w.heap.size w W → Calls Try.prog 54 #[.slice q.a2 L.rd.length q.c2, .func (.func 72) #[] #[]] W (Ret (.bool b3) W)) := fun W hW => by
    rw [hb3]; exact all_wl L.rd q.a2 q.c2 W (hL.later hW).rd _ #[] #[] Wl.rg (fun _ _ => by kernel_rfl) l2 (fun x _ w' _ => ridge_any x w')
  have C5 : Hid (∀ W, Below w.heap.size w W → Calls Try.prog 73 #[.slice q.a4 L.sn.length q.c4, .func (.func 74) #[] #[]] W (Ret (.bool b5) W)) := fun W hW => by
    rw [hb5]; exact all_sn L.sn q.a4 q.c4 W (hL.later hW).sn _ #[] #[] Sn.ok (fun _ _ => by kernel_rfl) l4 (fun x _ w' _ => sn_valid x w')
  have C6 : Hid (∀ W, Below w.heap.size w W → Calls Try.prog 68 #[.slice q.a3 L.cs.length q.c3, .func (.func 65) #[] #[]] W (Ret (.bool b6) W)) := fun W hW => by
    have e4 : (cl.all fun x => decide (x.cs.length ≤ 4)) = L.cs.all fun c => decide (c.length ≤ 4) := by rw [← hcl]; simp [List.all_map, Function.comp_def]
    have h := all_cv cl q.a3 q.c3 W (hrow.later hW) 65 #[] #[] (fun x => decide (x.cs.length ≤ 4)) (fun _ _ => by kernel_rfl) (by omega)
      (fun x hx w' _ => few_any x.a x.cs.length x.c w' (l5 x.cs (by rw [← hcl]; exact List.mem_map_of_mem hx)))
    rw [hcll, e4] at h
    rw [hb6]; exact h
  have C4 : Hid (∀ W b, Below w.heap.size w W → Box W b #[.func (.func 64) #[.agg #[.slice q.a1 L.st.length q.c1, .slice q.a2 L.rd.length q.c2, .slice q.a3 L.cs.length q.c3, .slice q.a4 L.sn.length q.c4]] #[]] 111 →
      Calls Try.prog 68 #[.slice q.a3 L.cs.length q.c3, .func (.func 66) #[] #[.pointer (some ⟨b, 0, none⟩)]] W (Ret (.bool b4) W)) := fun W b hW hB => by
    have e4 : (cl.all fun x => x.cs.all (·.ok L.sn.length)) = L.cs.all fun c => c.all (·.ok L.sn.length) := by rw [← hcl]; simp [List.all_map, Function.comp_def]
    have h := all_cv cl q.a3 q.c3 W (hrow.later hW) 66 #[] #[.pointer (some ⟨b, 0, none⟩)] (fun x => x.cs.all (·.ok L.sn.length)) (fun _ _ => by kernel_rfl) (by omega)
      (fun x hx w' hb' => cloudy_any q _ _ _ _ x b w' l4 (l5 x.cs (by rw [← hcl]; exact List.mem_map_of_mem hx)) (((hcs x hx).later hW).later hb') (hB.later hb'))
    rw [hcll, e4] at h
    rw [hb4]; exact h
  clear hb1 hb2 hb3 hb4 hb5 hb6 hL hrow hcs hcl l5 hcll
  go_enter Try.func38, Try.ntmps38
  go_wp2_with fail
  rotate_left
  iterate 4 (go_ret; exact ⟨ret_int (by rw [HG.out, if_pos (by simp; omega)]), (by repeat (first | exact Below.refl _ _ | refine al ?_ _ | refine Below.drew ?_ | refine sc ?_ (by simp) _))⟩)
  refine named2 (p := fun W => Calls _ _ _ W _) ?_
  intro W hW B1 B3
  refine (C6.out _ hW).mono ?_
  rintro e w1 ⟨rfl, hb1⟩
  replace hW := over hW hb1
  (try clear c1 t1 c3 t3); replace B1 := B1.later hb1; replace B3 := B3.later hb1; have c1 := B1.cell; have t1 := B1.lt; have c3 := B3.cell; have t3 := B3.lt
  clear hb1
  go_wp2_with (first
    | (go_at_call 69; refine (C1.out _ hW).mono ?_; rintro e w' ⟨rfl, hb⟩; replace hW := over hW hb; (try clear c1 t1 c3 t3); replace B1 := B1.later hb; replace B3 := B3.later hb; have c1 := B1.cell; have t1 := B1.lt; have c3 := B3.cell; have t3 := B3.lt; clear hb)
    | (go_at_call 71; refine (C2.out _ hW).mono ?_; rintro e w' ⟨rfl, hb⟩; replace hW := over hW hb; (try clear c1 t1 c3 t3); replace B1 := B1.later hb; replace B3 := B3.later hb; have c1 := B1.cell; have t1 := B1.lt; have c3 := B3.cell; have t3 := B3.lt; clear hb)
    | (go_at_call 54; refine (C3.out _ hW).mono ?_; rintro e w' ⟨rfl, hb⟩; replace hW := over hW hb; (try clear c1 t1 c3 t3); replace B1 := B1.later hb; replace B3 := B3.later hb; have c1 := B1.cell; have t1 := B1.lt; have c3 := B3.cell; have t3 := B3.lt; clear hb)
    | (go_at_call 68; refine (C4.out _ _ hW B3).mono ?_; rintro e w' ⟨rfl, hb⟩; replace hW := over hW hb; (try clear c1 t1 c3 t3); replace B1 := B1.later hb; replace B3 := B3.later hb; have c1 := B1.cell; have t1 := B1.lt; have c3 := B3.cell; have t3 := B3.lt; clear hb)
    | (go_at_call 73; refine (C5.out _ hW).mono ?_; rintro e w' ⟨rfl, hb⟩; replace hW := over hW hb; (try clear c1 t1 c3 t3); replace B1 := B1.later hb; replace B3 := B3.later hb; have c1 := B1.cell; have t1 := B1.lt; have c3 := B3.cell; have t3 := B3.lt; clear hb))
  · rename_i h
    go_ret
    refine ⟨ret_int ?_, hW⟩
    rw [HG.out, if_pos]
    rcases h with h | h
    · exfalso; omega
    · simp at h; simp [h]
  all_goals
    go_ret
    refine ⟨ret_int ?_, hW⟩
    rw [HG.out]
    simp_all
  all_goals omega
end Go.Proofs.Ytmfnkmmbihmjnaa
