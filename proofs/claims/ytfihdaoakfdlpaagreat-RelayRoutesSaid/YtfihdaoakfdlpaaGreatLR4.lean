/- The statements on routes: routes converted; the reference's IsRoute, Arrives, Always, Stick. -/
import Derived.Test.YtfihdaoakfdlpaaGreatR21
import Derived.Test.YtfihdaoakfdlpaaGreatRE
import Derived.Test.YtfihdaoakfdlpaaGreatRPlain10
open Go.RowKit
namespace Go.Proofs.YtfihdaoakfdlpaaGreat
open Go.Hill

theorem elem_hi : Elem Tryz.prog 55 82 3 24 := ⟨by kernel_rfl, by kernel_rfl⟩
abbrev hic (x : Hi) : Array Value := #[.int .i64 x.fr, .int .i64 x.ta, .int .i64 x.hr]
set_option maxRecDepth 100000 in
theorem convR_any (l : List Hi) (a : Option Addr) (c : Nat) (w : World) (hl : HisAt w a l) (l1 : l.length ≤ 1000) :
    Calls Tryz.prog 39 #[.slice a l.length c] w (RetRow 122 3 (l.map Hi.vs) w) := by
  have HA := Lib.hid hl
  clear hl
  go_enter Tryz.func39, Tryz.ntmps39
  go_wp2_with fail
  go_loopw [3, 4] (fun v i wr => ∃ k : Nat, k ≤ l.length ∧ i = .int .i64 k ∧ Below w.heap.size w wr ∧ Own wr w.heap.size 122 3 v ((l.take k).map Hi.vs)) (fun _ i _ => l.length - (intOf i).toNat)
  case atStart => exact ⟨0, Nat.zero_le _, rfl, Below.refl _ _, Own.nil _ _ _ _⟩
  case round =>
    obtain ⟨k, hk, rfl, hb, hp⟩ := hrel
    have HP := Lib.hid hp
    clear hp
    by_cases hlt : k < l.length
    · obtain ⟨p1, o1, rfl, hC1⟩ := RowAt.at HA.out hlt
      obtain ⟨x, hx⟩ : ∃ x, l[k]? = some x := ⟨l[k], by simp⟩
      obtain ⟨e0, e1, e2⟩ := cells_hi (hC1.later hb) hx
      have z1 := block_lt_of_cell e0
      have HX := Lib.hid hx
      clear hx hC1
      have r1 : (0 : Int) ≤ (k : Int) := by omega
      have r2 : (k : Int) < (l.length : Int) := by omega
      go_wp2_with fail
      refine Fat.wp_region 18 [16, 17] [] (fun i => if i = 16 then isSpec (.agg (hic x)) else oneSpec 122 (hic x))
        (fun i => by (repeat' split) <;> first | exact isSpec_lasting _ | exact oneSpec_lasting _ _)
        (fun i => by (repeat' split) <;> first | exact isSpec_local _ | exact oneSpec_local _ _) (by kernel_rfl) (by kernel_rfl) ?_
      simp only [List.take_succ_cons, List.take_zero, Fat.pick, List.contains_cons, List.contains_nil, Nat.reduceAdd, Nat.reduceBEq]
      repeat (first | simp only [Bool.or_false] | simp only [Bool.or_true] | simp only [Bool.true_or] | simp only [Bool.false_eq_true] | simp only [if_true] | simp only [if_false])
      repeat (go_big_quiet_step (fail))
      refine wpQuiet_nil ?_
      refine ⟨?_, ?_, ?_⟩
      · intro i o hi hown ho vals lo hi' W hW hdep
        simp only [List.contains_cons, List.contains_nil, Bool.or_false] at hi
        (try simp only [Bool.or_eq_true] at hi)
        simp only [beq_iff_eq] at hi
        rcases hi with rfl | rfl
        all_goals first
          | exact absurd hown (by decide)
          | (simp only [List.getElem?_cons_succ, List.getElem?_cons_zero, Option.some.injEq] at ho; subst ho; refine .inl ⟨rfl, ?_⟩; simp only [Fat.putN, Fat.dstOf, Act.put, List.getElem?_toArray, List.getElem?_cons_succ, List.getElem?_cons_zero, Option.bind_some, List.setIfInBounds_toArray, List.set_cons_succ, List.set_cons_zero])
        · go_simp
          exact ⟨Below.refl _ _, rfl⟩
        · obtain ⟨_, _, _, (hv : vals 16 = _)⟩ := hdep 16 rfl (by kernel_rfl)
          rw [hv]
          go_simp
          exact oneSpec_new _ _ _
      · intro i o hi hown ho vals lo hi' W hW hdep
        simp only [List.contains_cons, List.contains_nil, Bool.or_false] at hi
        (try simp only [Bool.or_eq_true] at hi)
        simp only [beq_iff_eq] at hi
        rcases hi with rfl | rfl
        all_goals first
          | exact absurd (by decide) hown
          | (simp only [List.getElem?_cons_succ, List.getElem?_cons_zero, Option.some.injEq] at ho; subst ho; refine ⟨rfl, ?_⟩; simp only [Fat.putN, Fat.dstOf, Act.put, List.getElem?_toArray, List.getElem?_cons_succ, List.getElem?_cons_zero, Option.bind_some, List.setIfInBounds_toArray, List.set_cons_succ, List.set_cons_zero]; (try simp only [Option.bind_none]))
      · intro vals lo hi' w5 hb3 hphi hdis htied
        obtain ⟨_, _, _, (q16 : vals 16 = _)⟩ := hphi 16 rfl
        obtain ⟨_, _, _, (q17 : vals 17 = _), _, (B29 : Box w5 (lo 17) _ _)⟩ := hphi 17 rfl
        simp only [Fat.putN, Fat.dstOf, Act.put, List.getElem?_toArray, List.getElem?_cons_succ, List.getElem?_cons_zero, Option.bind_some, List.setIfInBounds_toArray, List.set_cons_succ, List.set_cons_zero, List.drop_succ_cons, List.drop_zero]
        rw [q16, q17]
        clear q16 q17 hphi hdis htied vals
        generalize lo 17 = b29 at *
        have hO := HP.out.later hb3
        replace hb := over hb hb3
        clear hb3 e0 e1 e2 z1
        refine wpList_grow rfl (.tmp 11) (.tmp 28) 66 rfl elem_hop rfl hO rfl B29 rfl (by omega) rfl (n := k) (by simp; omega) (by omega) (by omega) hb.size ?_
        intro a' c' W' hO' hb' _
        replace hb := hb.trans hb'
        have HO : Hid (Own W' w.heap.size 122 3 (.slice a' (k + 1) c') ((l.take (k + 1)).map Hi.vs)) := by rw [Hid, take_map_succ HX.out]; exact hO'
        clear hO' hb' B29 hO
        go_wp2_with fail
        go_roundw
        case rel => exact ⟨k + 1, by omega, by go_num, hb, HO.out⟩
        case measure => simp [intOf]; omega
    · go_wp2_with fail
      go_ret
      refine ⟨_, rfl, hb, ?_⟩
      have h1 := HP.out
      rw [List.take_of_length_le (by omega)] at h1
      exact h1
set_option maxRecDepth 100000 in
theorem convB_any (l : List Hi) (a : Option Addr) (c : Nat) (w : World) (hl : HisAt w a l) (l1 : l.length ≤ 1000) :
    Calls Tryz.prog 45 #[.slice a l.length c] w (RetRow 82 3 (l.map Hi.vs) w) := by
  have HA := Lib.hid hl
  clear hl
  go_enter Tryz.func45, Tryz.ntmps45
  go_wp2_with fail
  go_loopw [3, 4] (fun v i wr => ∃ k : Nat, k ≤ l.length ∧ i = .int .i64 k ∧ Below w.heap.size w wr ∧ Own wr w.heap.size 82 3 v ((l.take k).map Hi.vs)) (fun _ i _ => l.length - (intOf i).toNat)
  case atStart => exact ⟨0, Nat.zero_le _, rfl, Below.refl _ _, Own.nil _ _ _ _⟩
  case round =>
    obtain ⟨k, hk, rfl, hb, hp⟩ := hrel
    have HP := Lib.hid hp
    clear hp
    by_cases hlt : k < l.length
    · obtain ⟨p1, o1, rfl, hC1⟩ := RowAt.at HA.out hlt
      obtain ⟨x, hx⟩ : ∃ x, l[k]? = some x := ⟨l[k], by simp⟩
      obtain ⟨e0, e1, e2⟩ := cells_hi (hC1.later hb) hx
      have z1 := block_lt_of_cell e0
      have HX := Lib.hid hx
      clear hx hC1
      have r1 : (0 : Int) ≤ (k : Int) := by omega
      have r2 : (k : Int) < (l.length : Int) := by omega
      go_wp2_with fail
      refine Fat.wp_region 18 [16, 17] [] (fun i => if i = 16 then isSpec (.agg (hic x)) else oneSpec 82 (hic x))
        (fun i => by (repeat' split) <;> first | exact isSpec_lasting _ | exact oneSpec_lasting _ _)
        (fun i => by (repeat' split) <;> first | exact isSpec_local _ | exact oneSpec_local _ _) (by kernel_rfl) (by kernel_rfl) ?_
      simp only [List.take_succ_cons, List.take_zero, Fat.pick, List.contains_cons, List.contains_nil, Nat.reduceAdd, Nat.reduceBEq]
      repeat (first | simp only [Bool.or_false] | simp only [Bool.or_true] | simp only [Bool.true_or] | simp only [Bool.false_eq_true] | simp only [if_true] | simp only [if_false])
      repeat (go_big_quiet_step (fail))
      refine wpQuiet_nil ?_
      refine ⟨?_, ?_, ?_⟩
      · intro i o hi hown ho vals lo hi' W hW hdep
        simp only [List.contains_cons, List.contains_nil, Bool.or_false] at hi
        (try simp only [Bool.or_eq_true] at hi)
        simp only [beq_iff_eq] at hi
        rcases hi with rfl | rfl
        all_goals first
          | exact absurd hown (by decide)
          | (simp only [List.getElem?_cons_succ, List.getElem?_cons_zero, Option.some.injEq] at ho; subst ho; refine .inl ⟨rfl, ?_⟩; simp only [Fat.putN, Fat.dstOf, Act.put, List.getElem?_toArray, List.getElem?_cons_succ, List.getElem?_cons_zero, Option.bind_some, List.setIfInBounds_toArray, List.set_cons_succ, List.set_cons_zero])
        · go_simp
          exact ⟨Below.refl _ _, rfl⟩
        · obtain ⟨_, _, _, (hv : vals 16 = _)⟩ := hdep 16 rfl (by kernel_rfl)
          rw [hv]
          go_simp
          exact oneSpec_new _ _ _
      · intro i o hi hown ho vals lo hi' W hW hdep
        simp only [List.contains_cons, List.contains_nil, Bool.or_false] at hi
        (try simp only [Bool.or_eq_true] at hi)
        simp only [beq_iff_eq] at hi
        rcases hi with rfl | rfl
        all_goals first
          | exact absurd (by decide) hown
          | (simp only [List.getElem?_cons_succ, List.getElem?_cons_zero, Option.some.injEq] at ho; subst ho; refine ⟨rfl, ?_⟩; simp only [Fat.putN, Fat.dstOf, Act.put, List.getElem?_toArray, List.getElem?_cons_succ, List.getElem?_cons_zero, Option.bind_some, List.setIfInBounds_toArray, List.set_cons_succ, List.set_cons_zero]; (try simp only [Option.bind_none]))
      · intro vals lo hi' w5 hb3 hphi hdis htied
        obtain ⟨_, _, _, (q16 : vals 16 = _)⟩ := hphi 16 rfl
        obtain ⟨_, _, _, (q17 : vals 17 = _), _, (B29 : Box w5 (lo 17) _ _)⟩ := hphi 17 rfl
        simp only [Fat.putN, Fat.dstOf, Act.put, List.getElem?_toArray, List.getElem?_cons_succ, List.getElem?_cons_zero, Option.bind_some, List.setIfInBounds_toArray, List.set_cons_succ, List.set_cons_zero, List.drop_succ_cons, List.drop_zero]
        rw [q16, q17]
        clear q16 q17 hphi hdis htied vals
        generalize lo 17 = b29 at *
        have hO := HP.out.later hb3
        replace hb := over hb hb3
        clear hb3 e0 e1 e2 z1
        refine wpList_grow rfl (.tmp 11) (.tmp 28) 55 rfl elem_hi rfl hO rfl B29 rfl (by omega) rfl (n := k) (by simp; omega) (by omega) (by omega) hb.size ?_
        intro a' c' W' hO' hb' _
        replace hb := hb.trans hb'
        have HO : Hid (Own W' w.heap.size 82 3 (.slice a' (k + 1) c') ((l.take (k + 1)).map Hi.vs)) := by rw [Hid, take_map_succ HX.out]; exact hO'
        clear hO' hb' B29 hO
        go_wp2_with fail
        go_roundw
        case rel => exact ⟨k + 1, by omega, by go_num, hb, HO.out⟩
        case measure => simp [intOf]; omega
    · go_wp2_with fail
      go_ret
      refine ⟨_, rfl, hb, ?_⟩
      have h1 := HP.out
      rw [List.take_of_length_le (by omega)] at h1
      exact h1
theorem his_of {W : World} {base : Nat} {E : TypeId} {v : Value} {l : List Hi} (h : Own W base E 3 v (l.map Hi.vs)) : ∃ a c, v = .slice a l.length c ∧ HisAt W a l := by
  obtain ⟨a, c, hv, _, hr⟩ := h.row
  exact ⟨a, c, by rw [hv, List.length_map], hr⟩
theorem hops_his {W : World} {a : Option Addr} {l : List Hp} (h : HopsAt W a l) : HisAt W a (l.map Hp.hi) := by
  unfold HisAt
  rw [List.map_map]
  exact h

set_option maxRecDepth 100000 in
theorem rArrives_any (s : Int) (l : List Hi) (a : Option Addr) (c : Nat) (w : World) (hl : HisAt w a l) (hll : l.length ≤ 1000) (hb : ∀ p ∈ l, 0 ≤ p.hr ∧ p.hr ≤ 1000) :
    Calls Tryz.prog 31 #[.int .i64 s, .slice a l.length c] w (Ret (.int .i64 (arrF s l)) w) := by
  by_cases h0 : l = []
  · subst h0
    rw [arrF_nil]
    go_enter Tryz.func31, Tryz.ntmps31
    go_wp2_with fail
    go_ret
    exact ⟨rfl, Below.refl _ _⟩
  · have hpos : 0 < l.length := List.length_pos_iff.2 h0
    obtain ⟨p1, o1, rfl, hC1⟩ := RowAt.at hl (show l.length - 1 < l.length by omega)
    obtain ⟨p, hp⟩ : ∃ p, l[l.length - 1]? = some p := ⟨l[l.length - 1], by simp⟩
    obtain ⟨e0, e1, e2⟩ := cells_hi hC1 hp
    have z1 := block_lt_of_cell e0
    obtain ⟨hb1, hb2⟩ := hb p (List.mem_of_getElem? hp)
    have HX := Lib.hid (arrF_last (s := s) hp)
    obtain ⟨n, hn⟩ : ∃ n, n = l.length - 1 := ⟨_, rfl⟩
    rw [← hn] at e0 e1 e2
    have hln : l.length = n + 1 := by omega
    have d0 : ((l.length : Int) == 0) = false := by rw [beq_eq_false_iff_ne]; omega
    have r0 : (l.length : Int) - 1 = (n : Int) := by omega
    have r1 : (0 : Int) ≤ (n : Int) := by omega
    have r2 : (n : Int) < (l.length : Int) := by omega
    clear hl hC1 hp h0 hb hn hln
    generalize l.length = m at *
    go_enter Tryz.func31, Tryz.ntmps31
    go_wp2_with fail
    go_ret
    exact ⟨ret_int HX.out.symm, Below.refl _ _⟩
set_option maxRecDepth 100000 in
theorem rAlways_any (q : LV) (L : Land) (i j t : Nat) (w : World) (hL : LandAt w q L) (hc : L.chk = 0) (hi : i < L.st.length) (hj : j < L.st.length) (ht : t < L.sn.length) :
    Calls Tryz.prog 47 #[landV q L, .int .i64 i, .int .i64 j, .int .i64 t] w (Ret (.bool (L.alws i j t)) w) := by
  have HL := Lib.hid hL
  have h6 := st_six hc
  have HCan := Lib.hid (fun k hk W hW => rCan_any q L i j k t W (hL.later hW) hc hi hj hk ht)
  obtain ⟨v, hv⟩ : ∃ v, v = L.alws i j t := ⟨_, rfl⟩
  rw [← hv]
  have HV := Lib.hid hv
  clear hL hv hc
  go_enter Tryz.func47, Tryz.ntmps47
  go_wp2_with fail
  refine named1 (p := Code.wp _ _ _ _) ?_
  intro W hW B4
  have HW := Lib.hid hW
  have HB4 := Lib.hid B4
  clear hW B4
  go_loopw [9] (fun i' wr => ∃ k : Nat, k ≤ L.cs.length ∧ i' = .int .i64 k ∧ Below w.heap.size w wr ∧ Box wr w.heap.size (landC q L) 27 ∧ ∀ x, x < k → L.can i j x t = true) (fun i' _ => L.cs.length - (intOf i').toNat)
  case atStart => exact ⟨0, Nat.zero_le _, rfl, HW.out, HB4.out, fun x hx => by omega⟩
  case round =>
    clear HW HB4
    obtain ⟨k, hk, rfl, hW, B4, hall⟩ := hrel
    have HAll := Lib.hid hall
    clear hall
    have c4 := B4.cell; have t4 := B4.lt
    by_cases hlt : k < L.cs.length
    · have hCk := HCan.out k hlt wr hW
      have HVal : Hid (∀ b, L.can i j k t = b → b = false → v = false) := fun b h1 h2 => by
        subst h2
        show _ = _
        rw [HV.out]
        cases hx : L.alws i j t with
        | false => rfl
        | true =>
          unfold Land.alws at hx
          rw [List.all_eq_true] at hx
          have := hx k (by simpa using hlt)
          rw [h1] at this; cases this
      obtain ⟨b, hb⟩ : ∃ b, L.can i j k t = b := ⟨_, rfl⟩
      rw [hb] at hCk
      have HB := Lib.hid hb
      have HCk := Lib.hid hCk
      have r3 : (k : Int) < (L.cs.length : Int) := by omega
      clear hCk hb
      go_wp2_with fail
      refine HCk.out.mono ?_
      rintro e w1 ⟨rfl, hb1⟩
      replace hW := over hW hb1
      replace B4 := B4.later hb1
      clear HCk hb1 c4 t4
      cases b with
      | false =>
        have hvf := HVal.out false HB.out rfl
        clear HVal
        go_wp2_with fail
        go_ret
        exact ⟨ret_bool hvf.symm, hW⟩
      | true =>
        have HN : Hid (∀ x, x < k + 1 → L.can i j x t = true) := fun x hx => by
          rcases Nat.lt_succ_iff_lt_or_eq.1 hx with h | rfl
          · exact HAll.out x h
          · exact HB.out
        clear HVal HAll
        go_wp2_with fail
        go_roundw
        case rel => exact ⟨k + 1, by omega, by go_num, hW, B4, HN.out⟩
        case measure => simp [intOf]; omega
    · obtain rfl : k = L.cs.length := by omega
      have HT : Hid (v = true) := by
        show _ = _
        rw [HV.out]
        unfold Land.alws
        rw [List.all_eq_true]
        intro x hx
        exact HAll.out x (by simpa using hx)
      clear HAll
      go_wp2_with fail
      go_ret
      exact ⟨ret_bool HT.out.symm, hW⟩
end Go.Proofs.YtfihdaoakfdlpaaGreat
