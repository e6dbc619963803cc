/- A land at work, the walks: the clouds that block, yielded one by one. -/
import Derived.Test.YtmfnkmmbihmjnaaWork1
import Derived.Test.YtmfnkmmbihmjnaaFatIn
import Derived.RangeFuncNested
import Derived.RangeFuncBound
import Derived.RangeFuncCalls
import Derived.RangeFuncLeaves
import Derived.Shelf.Abstract
import Derived.Shelf.RegionOpen
import Derived.OwnWalkIn
import Derived.TacticsInMore
import Derived.LoopNIn
import Derived.LoopIn
open Go.RowKit Go.Shelf
namespace Go.Proofs.Ytmfnkmmbihmjnaa
open Go.Hill
attribute [local go_sem] Oper.semAt_some

/-- The numbers below n that pass. -/
def selN (p : Nat → Bool) (n : Nat) : List Nat := (List.range n).filter p
theorem selN_yes {p : Nat → Bool} {n : Nat} (h : p n = true) : selN p (n + 1) = selN p n ++ [n] := by simp [selN, List.range_succ, List.filter_append, h]
theorem selN_no {p : Nat → Bool} {n : Nat} (h : p n = false) : selN p (n + 1) = selN p n := by simp [selN, List.range_succ, List.filter_append, h]
theorem selN_len (p : Nat → Bool) (n : Nat) : (selN p n).length ≤ n := Nat.le_trans (List.length_filter_le _ _) (by simp)
theorem selN_pre (p : Nat → Bool) {k n : Nat} (h : k ≤ n) : selN p k <+: selN p n := by
  obtain ⟨d, rfl⟩ := Nat.le.dest h
  rw [selN, selN, List.range_add, List.filter_append]
  exact List.prefix_append _ _
theorem sel_eq (p : Nat → Bool) (n : Nat) : sel p n = (selN p n).map fun i : Nat => (i : Int) := rfl

def RetSeq (bw : Nat) (i j k t : Nat) (w : World) (e : Ending) (w' : World) : Prop :=
  ∃ b4 b5 b6 b7 : Nat, e = .returned (.func (.func 106) #[] #[.pointer (some ⟨b4, 0, none⟩), .pointer (some ⟨b6, 0, none⟩), .pointer (some ⟨b7, 0, none⟩), .pointer (some ⟨b5, 0, none⟩)]) ∧ Below w.heap.size w w' ∧
    Box w' b4 #[.pointer (some ⟨bw, 0, none⟩)] 90 ∧ Box w' b5 #[.int .i64 i, .int .i64 j] 95 ∧ Box w' b6 #[.int .i64 k] 3 ∧ Box w' b7 #[.int .i64 t] 3

theorem clouds_mk (bw : Nat) (i j k t : Nat) (w : World) : Calls Try.prog 78 #[.pointer (some ⟨bw, 0, none⟩), pairV i j, .int .i64 k, .int .i64 t] w (RetSeq bw i j k t w) := by
  go_enter Try.func78, Try.ntmps78
  go_wp2_with fail
  go_ret
  refine named4 (p := RetSeq bw i j k t w _) ?_
  intro W hW B4 B5 B6 B7
  exact ⟨_, _, _, _, rfl, hW, B4, B5, B6, B7⟩

set_option maxRecDepth 100000 in
set_option maxHeartbeats 4000000 in
theorem clouds_stops (m : Nat) (b4 b5 b6 b7 bw bm : Nat) (q : LV) (L : Land) (av : Nat → Prop) (i j k t : Nat) (a b : Stn) (cs : List Cd) (w : World) (hw : WorkAt w bw bm q L av) (hF : Fits L) (hk : L.cs[k]? = some cs) (hcl : cs.length ≤ 1000) (_l1 : L.st.length ≤ 1000) (_l3 : L.cs.length ≤ 1000)
    (hi : L.st[i]? = some a) (hj : L.st[j]? = some b)
    (B4 : Box w b4 #[.pointer (some ⟨bw, 0, none⟩)] 90) (B5 : Box w b5 #[.int .i64 i, .int .i64 j] 95) (B6 : Box w b6 #[.int .i64 k] 3) (B7 : Box w b7 #[.int .i64 t] 3) :
    SeqStopsK Fence.wide (m + 1) Try.prog 106 #[.pointer (some ⟨b4, 0, none⟩), .pointer (some ⟨b6, 0, none⟩), .pointer (some ⟨b7, 0, none⟩), .pointer (some ⟨b5, 0, none⟩)]
      (fun x : Nat => #[.int .i64 x]) (Below w.heap.size) (fun ys => ys = selN (L.cb i j k t) cs.length) (fun pre => pre <+: selN (L.cb i j k t) cs.length ∧ pre ≠ []) cs.length w := by
  intro l J Jx W hW hJ hJx hY h0
  have HY := Lib.hid hY
  have HJ := Lib.hid hJ
  clear hY hJ hJx
  have B1 := hw.box
  obtain ⟨cl, hcl1, hrow, hcs⟩ := hw.land.cs
  obtain ⟨⟨xa, xc, xs⟩, hx, hxc⟩ : ∃ x, cl[k]? = some x ∧ x.cs = cs := by
    rw [← hcl1, List.getElem?_map] at hk
    cases hc : cl[k]? with
    | none => rw [hc] at hk; cases hk
    | some x => rw [hc] at hk; exact ⟨x, rfl, by simpa using hk⟩
  obtain rfl : xs = cs := hxc
  have hkl : k < cl.length := (List.getElem?_eq_some_iff.1 hx).1
  have hcll : cl.length = L.cs.length := by rw [← hcl1]; simp
  obtain ⟨p3, o3, ea3, hC3⟩ := hrow.at hkl
  have k1 : i < L.st.length := (List.getElem?_eq_some_iff.1 hi).1
  have k2 : j < L.st.length := (List.getElem?_eq_some_iff.1 hj).1
  obtain ⟨p1, o1, ea1, hC1⟩ := hw.land.st.at k1
  have HC1 := Lib.hid hC1
  have HX : Hid (RowAt w xa 8 (xs.map Cd.vs)) := hcs _ (List.mem_of_getElem? hx)
  have d0 : w.cell? ⟨p3, o3 + k, none⟩ = some (.slice xa xs.length xc) := cells_one (f := fun x : CV => Value.slice x.a x.cs.length x.c) hC3 hx
  rw [ea1, ea3] at B1
  have HI := Lib.hid hi
  have HJ' := Lib.hid hj
  have ha := hF.st a (List.mem_of_getElem? hi)
  have hbb := hF.st b (List.mem_of_getElem? hj)
  have HCd : Hid (∀ c ∈ xs, c.wl.In) := hF.cs xs (List.mem_of_getElem? hk)
  have HK : Hid (L.kase k = xs) := by unfold Hid Land.kase; rw [hk]; rfl
  have r1 : (0 : Int) ≤ (i : Int) := by omega
  have r2 : (i : Int) < (L.st.length : Int) := by omega
  have r3 : (0 : Int) ≤ (j : Int) := by omega
  have r4 : (j : Int) < (L.st.length : Int) := by omega
  have r5 : (0 : Int) ≤ (k : Int) := by omega
  have r6 : (k : Int) < (L.cs.length : Int) := by omega
  have y0 := block_lt_of_cell d0
  have d1 : W.cell? ⟨p3, o3 + k, none⟩ = some (.slice xa xs.length xc) := (hW.cell (p := ⟨p3, o3 + k, none⟩) y0).trans d0
  have y1 := block_lt_of_cell d1
  clear hrow hcs hcl1 hC3 hx hkl ea1 ea3 hC1 hi hj hF hk hw d0 y0 hcll k1 k2
  have HB1 := Lib.hid B1
  have HB4 := Lib.hid B4
  have HB5 := Lib.hid B5
  have HB6 := Lib.hid B6
  have HB7 := Lib.hid B7
  (try clear c1 t1 c4 t4 c5 t5 c6 t6 c7 t7); replace B1 := B1.later hW; replace B4 := B4.later hW; replace B5 := B5.later hW; replace B6 := B6.later hW; replace B7 := B7.later hW; have c1 := B1.cell; have t1 := B1.lt; have c4 := B4.cell; have t4 := B4.lt; have c5 := B5.cell; have t5 := B5.lt; have c6 := B6.cell; have t6 := B6.lt; have c7 := B7.cell; have t7 := B7.lt
  refine callsIn_of_wp Try.func106 rfl trivial ?_ rfl
  simp only [Try.ntmps106, List.size_toArray, List.length_cons, List.length_nil, Nat.reduceAdd, Nat.reduceSub, Array.replicate_succ, Array.replicate_zero, List.push_toArray, List.append_toArray, List.nil_append, List.cons_append]
  gi_wp2
  refine Fat.wpIn_region_tail 10 (by kernel_rfl) (by kernel_rfl) ?_
  simp only [List.take_succ_cons, List.drop_succ_cons, List.take_nil, List.drop_nil]
  repeat (go_big_quiet_step (fail))
  refine wpQuiet_nil ?_
  intro W2 hb2
  have h2 : J [] W2 := HJ.out _ _ _ none h0 (Below.grown hb2 none) (fun r e => by cases e)
  have HS : Hid (W.heap.size ≤ W2.heap.size) := hb2.size
  replace hW := over hW hb2
  (try clear c1 t1 c4 t4 c5 t5 c6 t6 c7 t7); replace B1 := B1.later hb2; replace B4 := B4.later hb2; replace B5 := B5.later hb2; replace B6 := B6.later hb2; replace B7 := B7.later hb2; have c1 := B1.cell; have t1 := B1.lt; have c4 := B4.cell; have t4 := B4.lt; have c5 := B5.cell; have t5 := B5.lt; have c6 := B6.cell; have t6 := B6.lt; have c7 := B7.cell; have t7 := B7.lt
  clear hb2 d1 y1 h0
  gi_wp2
  gi_loopw [17] (fun i' wr => ∃ n : Nat, n ≤ xs.length ∧ i' = .int .i64 n ∧ Below w.heap.size w wr ∧ J (selN (L.cb i j k t) n) wr) (fun i' _ => xs.length - (intOf i').toNat)
  case atStart => exact ⟨0, Nat.zero_le _, rfl, hW, h2⟩
  case round =>
    obtain ⟨n, hn, rfl, hb, hj⟩ := hrel
    clear hW h2 c1 t1 c4 t4 c5 t5 c6 t6 c7 t7 B1 B4 B5 B6 B7
    have B1 := HB1.out.later hb
    have B4 := HB4.out.later hb
    have B5 := HB5.out.later hb
    have B6 := HB6.out.later hb
    have B7 := HB7.out.later hb
    have c1 := B1.cell; have t1 := B1.lt; have c4 := B4.cell; have t4 := B4.lt; have c5 := B5.cell; have t5 := B5.lt; have c6 := B6.cell; have t6 := B6.lt; have c7 := B7.cell; have t7 := B7.lt
    by_cases hlt : n < xs.length
    · obtain ⟨p2, o2, rfl, hC2⟩ := RowAt.at HX.out hlt
      obtain ⟨c, hc⟩ : ∃ c, xs[n]? = some c := ⟨xs[n], by simp⟩
      obtain ⟨e0, e1, e2, e3, e4, e5, e6, e7⟩ := cells_cd (hC2.later hb) hc
      have y2 := block_lt_of_cell e0
      have hcw := HCd.out c (List.mem_of_getElem? hc)
      have hcb : L.cb i j k t n = (inB t c.fr c.to && blk c.wl a b) := by unfold Land.cb; rw [HK.out, hc, HI.out, HJ'.out]
      have HCB := Lib.hid hcb
      obtain ⟨v1, hv1⟩ : ∃ v1, v1 = inB t c.fr c.to := ⟨_, rfl⟩
      obtain ⟨v2, hv2⟩ : ∃ v2, v2 = blk c.wl a b := ⟨_, rfl⟩
      have HV1 : Hid (∀ w', Calls Try.prog 79 #[.int .i64 t, .int .i64 c.fr, .int .i64 c.to] w' (Ret (.bool v1) w')) := fun w' => by rw [hv1]; exact within_any _ _ _ w'
      have HV2 : Hid (∀ w', Calls Try.prog 56 #[.agg #[.int .i64 c.wl.X1, .int .i64 c.wl.Y1, .int .i64 c.wl.X2, .int .i64 c.wl.Y2, .int .i64 c.wl.B, .int .i64 c.wl.T], .agg #[.int .i64 a.X, .int .i64 a.Y, .int .i64 a.Z, .int .i64 a.M], .agg #[.int .i64 b.X, .int .i64 b.Y, .int .i64 b.Z, .int .i64 b.M]] w' (Ret (.bool v2) w')) := fun w' => by rw [hv2]; exact blocks_any c.wl a b w' ha hbb hcw
      have HCv : Hid (L.cb i j k t n = (v1 && v2)) := by rw [hv1, hv2]; exact hcb
      clear hc hC2 hcb hv1 hv2 hcw
      gi_wp2
      obtain ⟨wo, rfl⟩ : ∃ wo : World, wo = wr := ⟨_, rfl⟩
      refine named1 (p := Code.wpIn _ _ _ _ _ _) ?_
      intro w4 hb4 B8
      have hj4 : J (selN (L.cb i j k t) n) w4 := HJ.out _ _ _ none hj (Below.grown hb4 none) (fun r e => by cases e)
      replace hb := over hb hb4
      (try clear c1 t1 c4 t4 c5 t5 c6 t6 c7 t7); replace B1 := B1.later hb4; replace B4 := B4.later hb4; replace B5 := B5.later hb4; replace B6 := B6.later hb4; replace B7 := B7.later hb4; have c1 := B1.cell; have t1 := B1.lt; have c4 := B4.cell; have t4 := B4.lt; have c5 := B5.cell; have t5 := B5.lt; have c6 := B6.cell; have t6 := B6.lt; have c7 := B7.cell; have t7 := B7.lt
      have c8 := B8.cell; have t8 := B8.lt
      clear e0 e1 e2 e3 e4 e5 e6 e7 y2 hb4 hj
      obtain ⟨e0, e1, e2, e3⟩ := cells_st (HC1.out.later hb) HI.out
      obtain ⟨f0, f1, f2, f3⟩ := cells_st (HC1.out.later hb) HJ'.out
      have z1 := block_lt_of_cell e0
      cases v1 with
      | false =>
        refine Fat.wpIn_region_tail 32 (by kernel_rfl) (by kernel_rfl) ?_
        simp only [List.take_succ_cons, List.drop_succ_cons, List.take_zero, List.drop_zero]
        repeat (go_big_quiet_step ((first | with_reducible exact Calls.regrown_of (HV1.out _) | with_reducible exact Calls.regrown_of (HV2.out _))))
        refine wpQuiet_nil ?_
        intro w5 hb5
        have hj5 : J (selN (L.cb i j k t) n) w5 := HJ.out _ _ _ none hj4 (Below.grown hb5 none) (fun r e => by cases e)
        replace hb := over hb hb5
        clear hb5 e0 e1 e2 e3 f0 f1 f2 f3 z1 c8 t8 B8 hj4 c1 t1 c4 t4 c5 t5 c6 t6 c7 t7 B1 B4 B5 B6 B7
        gi_wp2
        refine ⟨fun _ h => (by cases h), ?_⟩
        gi_wp2
        go_roundw
        case rel => exact ⟨n + 1, by omega, by go_num, hb, by rw [selN_no HCv.out]; exact hj5⟩
        case measure => simp [intOf]; omega
      | true =>
        cases v2 with
        | false =>
          refine Fat.wpIn_region_tail 32 (by kernel_rfl) (by kernel_rfl) ?_
          simp only [List.take_succ_cons, List.drop_succ_cons, List.take_zero, List.drop_zero]
          repeat (go_big_quiet_step ((first | with_reducible exact Calls.regrown_of (HV1.out _) | with_reducible exact Calls.regrown_of (HV2.out _))))
          refine wpQuiet_nil ?_
          intro w5 hb5
          have hj5 : J (selN (L.cb i j k t) n) w5 := HJ.out _ _ _ none hj4 (Below.grown hb5 none) (fun r e => by cases e)
          replace hb := over hb hb5
          clear hb5 e0 e1 e2 e3 f0 f1 f2 f3 z1 c8 t8 B8 hj4 c1 t1 c4 t4 c5 t5 c6 t6 c7 t7 B1 B4 B5 B6 B7
          gi_wp2
          refine ⟨fun _ h => (by cases h), ?_⟩
          gi_wp2
          go_roundw
          case rel => exact ⟨n + 1, by omega, by go_num, hb, by rw [selN_no HCv.out]; exact hj5⟩
          case measure => simp [intOf]; omega
        | true =>
          refine Fat.wpIn_region_tail 32 (by kernel_rfl) (by kernel_rfl) ?_
          simp only [List.take_succ_cons, List.drop_succ_cons, List.take_zero, List.drop_zero]
          repeat (go_big_quiet_step ((first | with_reducible exact Calls.regrown_of (HV1.out _) | with_reducible exact Calls.regrown_of (HV2.out _))))
          refine wpQuiet_nil ?_
          intro w5 hb5
          have hj5 : J (selN (L.cb i j k t) n) w5 := HJ.out _ _ _ none hj4 (Below.grown hb5 none) (fun r e => by cases e)
          replace hb := over hb hb5
          clear hb5 e0 e1 e2 e3 f0 f1 f2 f3 z1 c8 t8 B8 hj4 c1 t1 c4 t4 c5 t5 c6 t6 c7 t7 B1 B4 B5 B6 B7
          obtain ⟨fn, tmps, assign, body, hy, hR⟩ := HY.out _ n w5 hj5 (Nat.lt_of_le_of_lt (selN_len _ _) hlt)
          gi_wp2
          refine hR.mono ?_
          rintro e w6 (⟨rfl, hj6, hb6⟩ | ⟨rfl, hjx⟩)
          · clear hy hR
            gi_wp2
            go_roundw
            case rel => exact ⟨n + 1, by omega, by go_num, hb.trans hb6, by rw [selN_yes HCv.out]; exact hj6⟩
            case measure => simp [intOf]; omega
          · clear hy hR
            gi_wp2
            refine bodyPost_ret (results_none rfl _ _ _) rfl ?_
            exact ⟨⟨_, rfl⟩, .inr ⟨_, ⟨by rw [← selN_yes HCv.out]; exact selN_pre _ (by omega), by simp⟩, hjx⟩⟩
    · obtain rfl : n = xs.length := by omega
      gi_wp2
      go_end0
      exact ⟨⟨_, rfl⟩, .inl ⟨_, rfl, hj⟩⟩
end Go.Proofs.Ytmfnkmmbihmjnaa
