import Derived.Test.YtfihdaoakfdlpaaGreatMB
section
/- The reference, the walks: the walls that block. -/
open Go.RowKit
namespace Go.Proofs.YtfihdaoakfdlpaaGreat
open Go.Hill

/-- Two stations go into two new variables. -/
def twoSt (T : TypeId) (a b : Stn) (i : Nat) : Fat.Spec := if i = 12 then setSpec T #[.int .i64 a.X, .int .i64 a.Y, .int .i64 a.Z, .int .i64 a.M] else if i = 13 then setSpec T #[.int .i64 b.X, .int .i64 b.Y, .int .i64 b.Z, .int .i64 b.M] else newSpec T 4
theorem twoSt_lasting {T : TypeId} {a b : Stn} (i : Nat) : Fat.Lasting (twoSt T a b i) := by unfold twoSt; (repeat' split) <;> first | exact setSpec_lasting _ _ | exact newSpec_lasting _ _
theorem twoSt_local {T : TypeId} {a b : Stn} (i : Nat) : Fat.Local (twoSt T a b i) := by unfold twoSt; (repeat' split) <;> first | exact setSpec_local _ _ | exact newSpec_local _ _

def RetTwo (l m : List Int) (w : World) (e : Ending) (w' : World) : Prop :=
  ∃ a1 c1 a2 c2, e = .returned (.tuple #[.slice a1 l.length c1, .slice a2 m.length c2]) ∧ Below w.heap.size w w' ∧ IntsAt w' a1 l ∧ IntsAt w' a2 m

set_option maxRecDepth 100000 in
set_option maxHeartbeats 4000000 in
theorem rWalls_any (q : LV) (L : Land) (i j k t : Nat) (w : World) (hL : LandAt w q L) (hc : L.chk = 0) (hi : i < L.st.length) (hj : j < L.st.length) (hk : k < L.cs.length) :
    Calls Tryz.prog 81 #[landV q L, .int .i64 i, .int .i64 j, .int .i64 k, .int .i64 t] w (RetTwo (L.rbs i j) (L.cbs i j k t) w) := by
  have HL := Lib.hid hL
  have hm := small_of hc
  have hF := fits hc
  obtain ⟨a, ha⟩ := some_of hi
  obtain ⟨b, hb⟩ := some_of hj
  have HI := Lib.hid ha
  have HJ := Lib.hid hb
  have hia := hF.st a (List.mem_of_getElem? ha)
  have hib := hF.st b (List.mem_of_getElem? hb)
  have HRd : Hid (∀ s ∈ L.rd, s.In) := fun s hs => (hF.rd s hs).1
  have l1 := hm.l1
  have l2 := hm.l2
  have l3 := hm.l3
  obtain ⟨p1, o1, ea1, hC1⟩ := hL.st.at hi
  have HC1 := Lib.hid hC1
  have r1 : (0 : Int) ≤ (i : Int) := by omega
  have r2 : (i : Int) < (L.st.length : Int) := by omega
  have r3 : (0 : Int) ≤ (j : Int) := by omega
  have r4 : (j : Int) < (L.st.length : Int) := by omega
  have r5 : (0 : Int) ≤ (k : Int) := by omega
  have r6 : (k : Int) < (L.cs.length : Int) := by omega
  have HEA := Lib.hid ea1
  obtain ⟨cl, hcl1, hrow, hcs⟩ := hL.cs
  obtain ⟨cs, hkc⟩ := some_of hk
  obtain ⟨⟨xa, xc, xs⟩, hx, hxc⟩ : ∃ x, cl[k]? = some x ∧ x.cs = cs := by
    rw [← hcl1, List.getElem?_map] at hkc
    cases hc : cl[k]? with
    | none => rw [hc] at hkc; cases hkc
    | some x => rw [hc] at hkc; exact ⟨x, rfl, by simpa using hkc⟩
  obtain rfl : xs = cs := hxc
  have hkl : k < cl.length := (List.getElem?_eq_some_iff.1 hx).1
  obtain ⟨p3, o3, ea3, hC3⟩ := hrow.at hkl
  have HX : Hid (RowAt w xa 8 (xs.map Cd.vs)) := hcs _ (List.mem_of_getElem? hx)
  have d0 : w.cell? ⟨p3, o3 + k, none⟩ = some (.slice xa xs.length xc) := cells_one (f := fun x : CV => Value.slice x.a x.cs.length x.c) hC3 hx
  have HD0 := Lib.hid d0
  have HEA3 := Lib.hid ea3
  have HK : Hid (L.kase k = xs) := by unfold Hid Land.kase; rw [hkc]; rfl
  have HCd : Hid (∀ c ∈ xs, c.wl.In) := hF.cs xs (List.mem_of_getElem? hkc)
  have hcl := hm.l5 xs (List.mem_of_getElem? hkc)
  clear hL hm hF ha hb hC1 hc ea1 hrow hcs hcl1 hC3 hx hkl ea3 d0 hkc cl
  go_enter Tryz.func81, Tryz.ntmps81
  go_wp2_with fail
  refine named1 (p := Code.wp _ _ _ _) ?_
  intro W hW B5
  rw [HEA.out, HEA3.out] at B5
  have c5 := B5.cell; have t5 := B5.lt
  obtain ⟨e0, e1, e2, e3⟩ := cells_st (HC1.out.later hW) HI.out
  obtain ⟨f0, f1, f2, f3⟩ := cells_st (HC1.out.later hW) HJ.out
  have z1 := block_lt_of_cell e0
  refine Fat.wp_region 14 [10, 11, 12, 13] [(12, 10), (13, 11)] (twoSt 91 a b) twoSt_lasting twoSt_local (by kernel_rfl) (by kernel_rfl) ?_
  simp only [List.take_succ_cons, List.take_nil, Fat.pick, List.contains_cons, List.contains_nil, Nat.reduceAdd, Nat.reduceBEq]
  repeat (first | simp only [Bool.or_false] | simp only [Bool.or_true] | simp only [Bool.true_or] | simp only [Bool.false_eq_true] | simp only [if_true] | simp only [if_false])
  repeat (go_big_quiet_step (fail))
  refine wpQuiet_nil ?_
  refine ⟨?_, ?_, ?_⟩
  · intro i o hi hown ho vals lo hi' W hW hdep
    simp only [List.contains_cons, List.contains_nil, Bool.or_false] at hi
    (try simp only [Bool.or_eq_true] at hi)
    simp only [beq_iff_eq] at hi
    rcases hi with rfl | rfl | rfl | rfl
    all_goals first
      | exact absurd hown (by decide)
      | (simp only [List.getElem?_cons_succ, List.getElem?_cons_zero, Option.some.injEq] at ho; subst ho; refine .inl ⟨rfl, ?_⟩; simp only [Fat.putN, Fat.dstOf, Act.put, List.getElem?_toArray, List.getElem?_cons_succ, List.getElem?_cons_zero, Option.bind_some, List.setIfInBounds_toArray, List.set_cons_succ, List.set_cons_zero])
    · go_simp
      exact newSpec_new _ _ _
    · go_simp
      exact newSpec_new _ _ _
  · intro i o hi hown ho vals lo hi' W hW hdep
    simp only [List.contains_cons, List.contains_nil, Bool.or_false] at hi
    (try simp only [Bool.or_eq_true] at hi)
    simp only [beq_iff_eq] at hi
    rcases hi with rfl | rfl | rfl | rfl
    all_goals first
      | exact absurd (by decide) hown
      | (simp only [List.getElem?_cons_succ, List.getElem?_cons_zero, Option.some.injEq] at ho; subst ho; refine ⟨rfl, ?_⟩; simp only [Fat.putN, Fat.dstOf, Act.put, List.getElem?_toArray, List.getElem?_cons_succ, List.getElem?_cons_zero, Option.bind_some, List.setIfInBounds_toArray, List.set_cons_succ, List.set_cons_zero]; (try simp only [Option.bind_none]))
    · obtain ⟨_, _, _, hn⟩ := hdep 10 rfl (by kernel_rfl)
      exact gives_fill (x := .tmp 12) (y := .tmp 23) rfl hn #[.int .i64 a.X, .int .i64 a.Y, .int .i64 a.Z, .int .i64 a.M] rfl rfl rfl (by kernel_rfl) rfl
    · obtain ⟨_, _, _, hn⟩ := hdep 11 rfl (by kernel_rfl)
      exact gives_fill (x := .tmp 13) (y := .tmp 28) rfl hn #[.int .i64 b.X, .int .i64 b.Y, .int .i64 b.Z, .int .i64 b.M] rfl rfl rfl (by kernel_rfl) rfl
  · intro vals lo hi' w5 hb5 hphi hdis htied
    obtain ⟨ua, ub, uc, (q10 : vals 10 = _), ud⟩ := hphi 10 rfl; clear ua ub uc ud
    obtain ⟨ua, ub, uc, (q11 : vals 11 = _), ud⟩ := hphi 11 rfl; clear ua ub uc ud
    obtain ⟨ua, ub, uc, ud, (BA : Box w5 (lo 12) _ _)⟩ := hphi 12 rfl; clear ua ub uc ud
    obtain ⟨ua, ub, uc, ud, (BB : Box w5 (lo 13) _ _)⟩ := hphi 13 rfl; clear ua ub uc ud
    rw [(htied 12 rfl (by decide)).1] at BA
    rw [(htied 13 rfl (by decide)).1] at BB
    simp only [Fat.putN, Fat.dstOf, Act.put, List.getElem?_toArray, List.getElem?_cons_succ, List.getElem?_cons_zero, Option.bind_some, List.setIfInBounds_toArray, List.set_cons_succ, List.set_cons_zero, List.drop_succ_cons, List.drop_nil]
    (try simp only [Option.bind_none])
    rw [q10, q11]
    clear q10 q11 hphi hdis htied vals
    replace BA : Box w5 (lo 10) _ _ := BA
    replace BB : Box w5 (lo 11) _ _ := BB
    generalize lo 10 = ba at *
    generalize lo 11 = bb at *
    replace hW := over hW hb5
    (try clear c5 t5); replace B5 := B5.later hb5; have c5 := B5.cell; have t5 := B5.lt
    clear hb5 e0 e1 e2 e3 f0 f1 f2 f3 z1 W
    obtain ⟨W, rfl⟩ : ∃ W : World, W = w5 := ⟨_, rfl⟩
    go_wp2_with fail
    go_loopw [14, 16] (fun v i' wr => ∃ n : Nat, n ≤ L.rd.length ∧ i' = .int .i64 n ∧ Below W.heap.size W wr ∧ Own wr W.heap.size 3 1 v (ivs (sel (L.rb i j) n))) (fun _ i' _ => L.rd.length - (intOf i').toNat)
    case atStart => exact ⟨0, Nat.zero_le _, rfl, Below.refl _ _, Own.nil _ _ _ _⟩
    case round =>
      obtain ⟨n, hn, rfl, hb, ho⟩ := hrel
      have HO := Lib.hid ho
      clear ho
      clear c5 t5
      have D5 := B5.later hb
      have DA := BA.later hb
      have DB := BB.later hb
      have c5 := D5.cell
      have t5 := D5.lt
      have cA := DA.cell
      have tA := DA.lt
      have cB := DB.cell
      have tB := DB.lt
      by_cases hlt : n < L.rd.length
      · obtain ⟨p2, o2, ea2, hC2⟩ := RowAt.at HL.out.rd hlt
        obtain ⟨x, hx⟩ : ∃ x, L.rd[n]? = some x := ⟨L.rd[n], by simp⟩
        obtain ⟨e0, e1, e2, e3, e4, e5⟩ := cells_wl ((hC2.later hW).later hb) hx
        have z2 := block_lt_of_cell e0
        rw [ea2] at c5
        have hrb : L.rb i j n = blk x a b := by unfold Land.rb; rw [hx, HI.out, HJ.out]
        have hxi := HRd.out x (List.mem_of_getElem? hx)
        obtain ⟨rb, hrbv⟩ : ∃ rb, rb = L.rb i j n := ⟨_, rfl⟩
        have HCall : Hid (∀ w', Calls Tryz.prog 100 #[.agg #[.int .i64 x.X1, .int .i64 x.Y1, .int .i64 x.X2, .int .i64 x.Y2, .int .i64 x.B, .int .i64 x.T], .agg #[.int .i64 a.X, .int .i64 a.Y, .int .i64 a.Z, .int .i64 a.M], .agg #[.int .i64 b.X, .int .i64 b.Y, .int .i64 b.Z, .int .i64 b.M]] w' (Ret (.bool rb) w')) := fun w' => by rw [hrbv, hrb]; exact rblocks_any x a b w' hia hib hxi
        have HRb := Lib.hid hrbv
        have s1 : (0 : Int) ≤ (n : Int) := by omega
        have s2 : (n : Int) < (L.rd.length : Int) := by omega
        clear hx hC2 hrb hrbv hxi ea2
        go_wp2_with fail
        refine Fat.wp_region_tail 8 (by kernel_rfl) (by kernel_rfl) ?_
        simp only [List.take_succ_cons, List.drop_succ_cons, List.take_nil, List.drop_nil]
        repeat (go_big_quiet_step (exact Calls.regrown_of (HCall.out _)))
        refine wpQuiet_nil ?_
        intro w6 hb6
        have HO5 := Lib.hid (HO.out.later hb6)
        have hb' := over hb hb6
        clear HO hb hb6 e0 e1 e2 e3 e4 e5 z2 c5 t5 cA tA cB tB D5 DA DB HCall
        cases rb with
        | false =>
          go_wp2_with fail
          go_roundw
          case rel => exact ⟨n + 1, by omega, by go_num, hb', by rw [sel_no HRb.out.symm]; exact HO5.out⟩
          case measure => simp [intOf]; omega
        | true =>
          have hnl := sel_len (L.rb i j) n
          go_wp2_with (at_builtin; refine named1 (p := wpList _ _ _ _ _) ?_; intro w7 hb7 B53; have hO := HO5.out.later hb7; refine wpList_grow rfl (.tmp 44) (.tmp 46) 40 rfl elem_int rfl hO rfl B53 rfl (by omega) rfl (n := (sel (L.rb i j) n).length) (by simp) (by omega) (by omega) (Nat.le_trans hb'.size hb7.size) ?_; intro a' c' W' hO' hb9 hg'; have hb := (over hb' hb7).trans hb9; clear hg' hO B53 hb9 hb7)
          have HN : Hid (Own W' W.heap.size 3 1 (.slice a' ((sel (L.rb i j) n).length + 1) c') (ivs (sel (L.rb i j) (n + 1)))) := by
            rw [Hid, sel_yes HRb.out.symm, ivs, List.map_append]; exact hO'
          clear hO'
          go_roundw
          case rel => exact ⟨n + 1, by omega, by go_num, hb, HN.out⟩
          case measure => simp [intOf]; omega
      · obtain rfl : n = L.rd.length := by omega
        obtain ⟨ra, rc, rfl, _, hr⟩ := HO.out.row
        rw [List.length_map]
        have HR := Lib.hid hr
        clear hr HO hlt hn
        replace hW := over hW hb
        clear hb B5 BA BB
        go_wp2_with fail
        clear c5 t5 cA tA cB tB
        obtain ⟨W2, rfl⟩ : ∃ W2 : World, W2 = wr := ⟨_, rfl⟩
        go_loopw [15, 17] (fun v i' wr => ∃ n : Nat, n ≤ xs.length ∧ i' = .int .i64 n ∧ Below W2.heap.size W2 wr ∧ Own wr W2.heap.size 3 1 v (ivs (sel (L.cb i j k t) n))) (fun _ i' _ => xs.length - (intOf i').toNat)
        case atStart => exact ⟨0, Nat.zero_le _, rfl, Below.refl _ _, Own.nil _ _ _ _⟩
        case round =>
          obtain ⟨n, hn, rfl, hb, ho⟩ := hrel
          have HO := Lib.hid ho
          clear ho
          have E5 := D5.later hb
          have EA := DA.later hb
          have EB := DB.later hb
          have c5 := E5.cell
          have t5 := E5.lt
          have cA := EA.cell
          have tA := EA.lt
          have cB := EB.cell
          have tB := EB.lt
          have y0 := block_lt_of_cell HD0.out
          have d1 : wr.cell? ⟨p3, o3 + k, none⟩ = some (.slice xa xs.length xc) := ((over hW hb).cell (p := ⟨p3, o3 + k, none⟩) y0).trans HD0.out
          have y1 := block_lt_of_cell d1
          clear y0
          by_cases hlt : n < xs.length
          · obtain ⟨p2, o2, rfl, hC2⟩ := RowAt.at HX.out hlt
            obtain ⟨c, hc⟩ : ∃ c, xs[n]? = some c := ⟨xs[n], by simp⟩
            obtain ⟨e0, e1, e2, e3, e4, e5, e6, e7⟩ := cells_cd ((hC2.later hW).later hb) hc
            have y2 := block_lt_of_cell e0
            have hcw := HCd.out c (List.mem_of_getElem? hc)
            have hcb : L.cb i j k t n = (inB t c.fr c.to && blk c.wl a b) := by unfold Land.cb; rw [HK.out, hc, HI.out, HJ.out]
            obtain ⟨v1, hv1⟩ : ∃ v1, v1 = inB t c.fr c.to := ⟨_, rfl⟩
            obtain ⟨v2, hv2⟩ : ∃ v2, v2 = blk c.wl a b := ⟨_, rfl⟩
            have HV1 : Hid (∀ w', Calls Tryz.prog 40 #[.int .i64 t, .int .i64 c.fr, .int .i64 c.to] w' (Ret (.bool v1) w')) := fun w' => by rw [hv1]; exact in_any _ _ _ w'
            have HV2 : Hid (∀ w', Calls Tryz.prog 100 #[.agg #[.int .i64 c.wl.X1, .int .i64 c.wl.Y1, .int .i64 c.wl.X2, .int .i64 c.wl.Y2, .int .i64 c.wl.B, .int .i64 c.wl.T], .agg #[.int .i64 a.X, .int .i64 a.Y, .int .i64 a.Z, .int .i64 a.M], .agg #[.int .i64 b.X, .int .i64 b.Y, .int .i64 b.Z, .int .i64 b.M]] w' (Ret (.bool v2) w')) := fun w' => by rw [hv2]; exact rblocks_any c.wl a b w' hia hib hcw
            have HCv : Hid (L.cb i j k t n = (v1 && v2)) := by rw [hv1, hv2]; exact hcb
            clear hc hC2 hcb hv1 hv2 hcw
            go_wp2_with fail
            obtain ⟨wo, rfl⟩ : ∃ wo : World, wo = wr := ⟨_, rfl⟩
            refine named1 (p := fun W => Calls _ _ _ W _) ?_
            intro w4 hb4 B18
            clear c5 t5 cA tA cB tB d1 y1 e0 e1 e2 e3 e4 e5 e6 e7 y2
            have hb' := over hb hb4
            have HO4 := Lib.hid (HO.out.later hb4)
            refine (HV1.out _).mono ?_
            rintro e w5 ⟨rfl, hb5⟩
            have hb6 := over hb' hb5
            have HO5 := Lib.hid (HO4.out.later hb5)
            have GA := (EA.later hb4).later hb5
            have GB := (EB.later hb4).later hb5
            have G18 := B18.later hb5
            have cA := GA.cell
            have tA := GA.lt
            have cB := GB.cell
            have tB := GB.lt
            have c18 := G18.cell
            have t18 := G18.lt
            clear hb4 hb5 hb' hb HO HO4 E5 EA EB B18
            have hnl := sel_len (L.cb i j k t) n
            cases v1 with
            | false =>
              clear cA tA cB tB c18 t18 GA GB G18
              go_wp2_with fail
              go_roundw
              case rel => exact ⟨n + 1, by omega, by go_num, hb6, by rw [sel_no HCv.out]; exact HO5.out⟩
              case measure => simp [intOf]; omega
            | true =>
              go_wp2_with fail
              refine (HV2.out _).mono ?_
              rintro e w6 ⟨rfl, hb7⟩
              have hb8 := over hb6 hb7
              have HO6 := Lib.hid (HO5.out.later hb7)
              clear cA tA cB tB c18 t18 GA GB G18 hb6 hb7 HO5
              cases v2 with
              | false =>
                go_wp2_with fail
                go_roundw
                case rel => exact ⟨n + 1, by omega, by go_num, hb8, by rw [sel_no HCv.out]; exact HO6.out⟩
                case measure => simp [intOf]; omega
              | true =>
                go_wp2_with (at_builtin; refine named1 (p := wpList _ _ _ _ _) ?_; intro w7 hb7 B53; have hO := HO6.out.later hb7; refine wpList_grow rfl (.tmp 79) (.tmp 81) 40 rfl elem_int rfl hO rfl B53 rfl (by omega) rfl (n := (sel (L.cb i j k t) n).length) (by simp) (by omega) (by omega) (Nat.le_trans hb8.size hb7.size) ?_; intro a' c' W' hO' hb9 hg'; have hb := (over hb8 hb7).trans hb9; clear hg' hO B53 hb9 hb7)
                have HN : Hid (Own W' W2.heap.size 3 1 (.slice a' ((sel (L.cb i j k t) n).length + 1) c') (ivs (sel (L.cb i j k t) (n + 1)))) := by
                  rw [Hid, sel_yes HCv.out, ivs, List.map_append]; exact hO'
                clear hO'
                go_roundw
                case rel => exact ⟨n + 1, by omega, by go_num, hb, HN.out⟩
                case measure => simp [intOf]; omega
          · obtain rfl : n = xs.length := by omega
            obtain ⟨ra2, rc2, rfl, _, hr2⟩ := HO.out.row
            rw [List.length_map]
            have HR2 := Lib.hid hr2
            clear hr2 HO hn
            go_wp2_with fail
            go_ret2
            refine ⟨ra, rc, ra2, rc2, ?_, over hW hb, HR.out.later hb, ?_⟩
            · unfold Land.rbs Land.cbs; rw [HK.out]; rfl
            · unfold Land.cbs; rw [HK.out]; exact HR2.out
end Go.Proofs.YtfihdaoakfdlpaaGreat
end

section
/- The reference, the walks: why; whether a station can flash. -/
open Go.RowKit
namespace Go.Proofs.YtfihdaoakfdlpaaGreat
open Go.Hill

set_option maxRecDepth 100000 in
set_option maxHeartbeats 4000000 in
theorem rWhy_any (q : LV) (L : Land) (i j k t : Nat) (w : World) (hL : LandAt w q L) (hc : L.chk = 0) (hi : i < L.st.length) (hj : j < L.st.length) (hk : k < L.cs.length) (ht : t < L.sn.length) (r : Int × Int) (hr : L.why i j k t = r) :
    Calls Tryz.prog 67 #[landV q L, .int .i64 i, .int .i64 j, .int .i64 k, .int .i64 t] w (Ret (.tuple #[.int .u8 r.1, .int .i64 r.2]) w) := by
  have HL := Lib.hid hL
  have hm := small_of hc
  have hF := fits hc
  obtain ⟨a, ha⟩ := some_of hi
  obtain ⟨b, hb⟩ := some_of hj
  obtain ⟨s, hs⟩ := some_of ht
  have HR := Lib.hid hr
  have HI := Lib.hid ha
  have HT := Lib.hid hs
  have l1 := hm.l1
  have l4 := hm.l4
  obtain ⟨p1, o1, ea1, hC1⟩ := hL.st.at hi
  obtain ⟨p4, o4, ea4, hC4⟩ := hL.sn.at ht
  have HC1 := Lib.hid hC1
  have HC4 := Lib.hid hC4
  have r1 : (0 : Int) ≤ (i : Int) := by omega
  have r2 : (i : Int) < (L.st.length : Int) := by omega
  have r5 : (0 : Int) ≤ (t : Int) := by omega
  have r6 : (t : Int) < (L.sn.length : Int) := by omega
  have hmir := hF.mir a (List.mem_of_getElem? ha)
  obtain ⟨bv, hbv⟩ : ∃ bv, bv = behind s a b := ⟨_, rfl⟩
  have HBeh : Hid (∀ W, Below w.heap.size w W → Calls Tryz.prog 80 #[landV q L, .int .i64 i, .int .i64 j, .int .i64 t] W (Ret (.bool bv) W)) := fun W hW => by
    rw [hbv]; exact rbehind_any q _ _ L.st L.sn i j t a b s W (hL.later hW).st (hL.later hW).sn ha hb hs (hF.st a (List.mem_of_getElem? ha)) (hF.st b (List.mem_of_getElem? hb)) (hF.sn s (List.mem_of_getElem? hs))
  have HWalls : Hid (∀ W, Below w.heap.size w W → Calls Tryz.prog 81 #[landV q L, .int .i64 i, .int .i64 j, .int .i64 k, .int .i64 t] W (RetTwo (L.rbs i j) (L.cbs i j k t) W)) := fun W hW => rWalls_any q L i j k t W (hL.later hW) hc hi hj hk
  have HN : Hid (L.need i j t = if bv then 2 else 1) := by unfold Hid Land.need needM; rw [hs, ha, hb, hbv]
  have HM : Hid (L.mir i = a.M) := by unfold Hid Land.mir; rw [ha]
  have HUp : Hid (L.up t = decide (0 < s.U)) := by unfold Hid Land.up; rw [hs]
  have HEA := Lib.hid ea1
  have HEA4 := Lib.hid ea4
  clear hL hm hF ha hb hs hC1 hC4 hc ea1 ea4 hr hbv
  go_enter Tryz.func67, Tryz.ntmps67
  have hW0 : Below w.heap.size w (w.alloc (.cells #[.slice q.a1 L.st.length q.c1, .slice q.a2 L.rd.length q.c2, .slice q.a3 L.cs.length q.c3, .slice q.a4 L.sn.length q.c4] 27)) := (by repeat (first | exact Below.refl _ _ | refine al ?_ _ | refine Below.drew ?_ | refine sc ?_ (by simp) _))
  obtain ⟨_, _, g2⟩ := cells_sn (HC4.out.later hW0) HT.out
  obtain ⟨_, _, _, f3⟩ := cells_st (HC1.out.later hW0) HI.out
  unfold landV at HBeh HWalls ⊢
  rw [HEA.out, HEA4.out] at g2 f3 HBeh HWalls ⊢
  clear hW0
  by_cases hU : s.U ≤ 0
  · have HR0 : Hid (r = (1, 0)) := HR.out.symm.trans (why_night (by rw [HUp.out]; simpa using hU))
    clear f3
    go_wp2_with fail
    go_ret2
    obtain rfl := HR0.out
    exact ⟨rfl, (by repeat (first | exact Below.refl _ _ | refine al ?_ _ | refine Below.drew ?_ | refine sc ?_ (by simp) _))⟩
  have HUT : Hid (L.up t = true) := by rw [Hid, HUp.out]; simpa using hU
  go_wp2_with fail
  refine named1 (p := fun W => Calls _ _ _ W _) ?_
  intro W hW B5
  clear g2 f3
  refine (HBeh.out W hW).mono ?_
  rintro e w1 ⟨rfl, hb1⟩
  replace hW := over hW hb1
  (try clear c5 t5); replace B5 := B5.later hb1; have c5 := B5.cell; have t5 := B5.lt
  obtain ⟨_, _, _, f3⟩ := cells_st (HC1.out.later hW) HI.out
  have z1 := block_lt_of_cell f3
  clear hb1 HBeh
  by_cases hMn : bv = true ∧ a.M = 1
  · obtain ⟨rfl, hM1⟩ := hMn
    have hMb : (a.M == 1) = true := by simpa using hM1
    have HR0 : Hid (r = (2, 0)) := HR.out.symm.trans (why_behind HUT.out (by rw [HN.out, HM.out, hM1]; decide))
    clear hM1
    go_wp2_with fail
    go_ret2
    obtain rfl := HR0.out
    exact ⟨rfl, hW⟩
  have HMn : Hid (L.need i j t ≤ L.mir i) := by
    rw [Hid, HN.out, HM.out]
    cases bv with
    | false => simp; omega
    | true => simp at hMn ⊢; omega
  have hcase : bv = false ∨ (bv = true ∧ (a.M == 1) = false) := by
    cases bv with
    | false => exact .inl rfl
    | true => exact .inr ⟨rfl, by simpa using hMn⟩
  have HWl2 := HWalls
  clear hMn hmir
  rcases hcase with rfl | ⟨rfl, hMb⟩
  all_goals
    go_wp2_with fail
    refine (HWl2.out _ hW).mono ?_
    rintro e w2 ⟨ra, rc, ra2, rc2, rfl, hb2, hr1, hr2⟩
    replace hW := over hW hb2
    have HR1 := Lib.hid hr1
    have HR2 := Lib.hid hr2
    clear hb2 hr1 hr2 B5 c5 t5 f3 z1 HWalls HWl2
    obtain ⟨n1, hn1⟩ : ∃ n, n = (L.rbs i j).length := ⟨_, rfl⟩
    obtain ⟨n2, hn2⟩ : ∃ n, n = (L.cbs i j k t).length := ⟨_, rfl⟩
    rw [← hn1, ← hn2]
    by_cases h1 : 0 < n1
    · obtain ⟨x, hx⟩ : ∃ x, (L.rbs i j)[0]? = some x := ⟨(L.rbs i j)[0], by simp⟩
      have HR0 : Hid (r = (3, x)) := HR.out.symm.trans (why_ridge HUT.out (Int.not_lt.2 HMn.out) hx)
      obtain ⟨pb, po, rfl, hC⟩ := RowAt.at (k := 0) HR1.out (by omega)
      have e0 : w2.cell? ⟨pb, po, none⟩ = some (.int .i64 x) := by simpa using cells_one (k := 0) hC hx
      have y0 := block_lt_of_cell e0
      clear hx hC hn1 hn2
      go_wp2_with fail
      refine Fat.wp_region_tail 5 (by kernel_rfl) (by kernel_rfl) ?_
      simp only [List.take_succ_cons, List.drop_succ_cons, List.take_nil, List.drop_nil]
      repeat (go_big_quiet_step (fail))
      refine wpQuiet_nil ?_
      intro w3 hb3
      replace hW := over hW hb3
      clear hb3 e0 y0
      go_wp2_with fail
      go_ret2
      obtain rfl := HR0.out
      exact ⟨rfl, hW⟩
    · have HNil := Lib.hid (List.length_eq_zero_iff.1 (show (L.rbs i j).length = 0 by omega))
      obtain rfl : n1 = 0 := by omega
      clear hn1
      by_cases h2 : 0 < n2
      · obtain ⟨x, hx⟩ : ∃ x, (L.cbs i j k t)[0]? = some x := ⟨(L.cbs i j k t)[0], by simp⟩
        have HR0 : Hid (r = (4, x)) := HR.out.symm.trans (why_cloud HUT.out (Int.not_lt.2 HMn.out) HNil.out hx)
        obtain ⟨pb, po, rfl, hC⟩ := RowAt.at (k := 0) HR2.out (by omega)
        have e0 : w2.cell? ⟨pb, po, none⟩ = some (.int .i64 x) := by simpa using cells_one (k := 0) hC hx
        have y0 := block_lt_of_cell e0
        clear hx hC hn2
        go_wp2_with fail
        refine Fat.wp_region_tail 5 (by kernel_rfl) (by kernel_rfl) ?_
        simp only [List.take_succ_cons, List.drop_succ_cons, List.take_nil, List.drop_nil]
        repeat (go_big_quiet_step (fail))
        refine wpQuiet_nil ?_
        intro w3 hb3
        replace hW := over hW hb3
        clear hb3 e0 y0
        go_wp2_with fail
        go_ret2
        obtain rfl := HR0.out
        exact ⟨rfl, hW⟩
      · have HNil2 := Lib.hid (List.length_eq_zero_iff.1 (show (L.cbs i j k t).length = 0 by omega))
        have HR0 : Hid (r = (0, 0)) := HR.out.symm.trans (why_free HUT.out (Int.not_lt.2 HMn.out) HNil.out HNil2.out)
        obtain rfl : n2 = 0 := by omega
        clear hn2
        go_wp2_with fail
        go_ret2
        obtain rfl := HR0.out
        exact ⟨rfl, hW⟩

theorem rCan_any (q : LV) (L : Land) (i j k t : Nat) (w : World) (hL : LandAt w q L) (hc : L.chk = 0) (hi : i < L.st.length) (hj : j < L.st.length) (hk : k < L.cs.length) (ht : t < L.sn.length) :
    Calls Tryz.prog 46 #[landV q L, .int .i64 i, .int .i64 j, .int .i64 k, .int .i64 t] w (Ret (.bool (L.can i j k t)) w) := by
  obtain ⟨r, hr⟩ : ∃ r, L.why i j k t = r := ⟨_, rfl⟩
  have HWhy : Hid (∀ W, Below w.heap.size w W → Calls Tryz.prog 67 #[landV q L, .int .i64 i, .int .i64 j, .int .i64 k, .int .i64 t] W (Ret (.tuple #[.int .u8 r.1, .int .i64 r.2]) W)) := fun W hW => rWhy_any q L i j k t W (hL.later hW) hc hi hj hk ht r hr
  have hbd := why_bd L i j k t
  rw [hr] at hbd
  obtain ⟨v, hv⟩ : ∃ v, v = L.can i j k t := ⟨_, rfl⟩
  rw [← hv]
  have HV : Hid (v = (i != j && r.1 == 0)) := by rw [hv, Land.can, hr]; rfl
  clear hr hv hL hc
  obtain ⟨r1, r2⟩ := r
  simp only at hbd
  by_cases hij : i = j
  · have hb : ((i : Int) == (j : Int)) = true := by simp [hij]
    go_enter Tryz.func46, Tryz.ntmps46
    go_wp2_with fail
    go_ret
    exact ⟨ret_bool (by rw [HV.out, hij]; simp), (by repeat (first | exact Below.refl _ _ | refine al ?_ _ | refine Below.drew ?_ | refine sc ?_ (by simp) _))⟩
  · have hb : ((i : Int) == (j : Int)) = false := by simp; omega
    go_enter Tryz.func46, Tryz.ntmps46
    go_wp2_with fail
    refine named1 (p := fun W => Calls _ _ _ W _) ?_
    intro W hW B5
    refine (HWhy.out W hW).mono ?_
    rintro e w1 ⟨rfl, hb1⟩
    replace hW := over hW hb1
    clear hb1 B5
    by_cases h0 : r1 = 0
    · subst h0
      go_wp2_with fail
      go_ret
      exact ⟨ret_bool (by rw [HV.out]; simp; omega), hW⟩
    · have hb0 : (r1 == 0) = false := by simpa using h0
      go_wp2_with fail
      go_ret
      exact ⟨ret_bool (by rw [HV.out]; simp [h0]), hW⟩
end Go.Proofs.YtfihdaoakfdlpaaGreat
end
