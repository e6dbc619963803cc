import Derived.Test.YtfihdaoakfdlpaaRB
import Derived.Test.YtfihdaoakfdlpaaRC
section
/- The statements on relays: their own helpers; what the reference asks for. -/
open Go.RowKit
namespace Go.Proofs.Ytfihdaoakfdlpaa
open Go.Hill

set_option maxRecDepth 100000 in
theorem rend_any (q : LV) (L : Land) (w : World) : Calls Try.prog 13 #[landV q L] w (Ret (.int .i64 L.sn.length) w) := by
  go_enter Try.func13, Try.ntmps13
  go_wp2_with fail
  go_ret
  exact ⟨rfl, (by repeat (first | exact Below.refl _ _ | refine al ?_ _ | refine Below.drew ?_ | refine sc ?_ (by simp) _))⟩
theorem ints3_any (l m : List Int) (a b : Option Addr) (c d : Nat) (w : World) (hl : IntsAt w a l) (hm : IntsAt w b m) (l1 : l.length ≤ 1000) (l2 : m.length ≤ 1000) :
    Calls Try.prog 22 #[.slice a l.length c, .slice b m.length d] w (Ret (.bool (decide (l = m))) w) := by
  have HA := Lib.hid hl
  have HB := Lib.hid hm
  clear hl hm
  by_cases hlen : l.length = m.length
  case neg =>
    have hne : ((l.length : Int) != (m.length : Int)) = true := by simp; omega
    have HN := Lib.hid hlen
    clear hlen
    go_enter Try.func22, Try.ntmps22
    go_wp2_with fail
    go_ret
    exact ⟨ret_bool (by symm; simp; intro e; exact HN.out (by rw [e])), Below.refl _ _⟩
  have hne : ((l.length : Int) != (m.length : Int)) = false := by simp; omega
  have HN := Lib.hid hlen
  clear hlen
  go_enter Try.func22, Try.ntmps22
  go_wp2_with fail
  clear hne
  go_loopw [5] (fun i wr => ∃ k : Nat, k ≤ l.length ∧ i = .int .i64 k ∧ Below w.heap.size w wr ∧ l.take k = m.take k) (fun i _ => l.length - (intOf i).toNat)
  case atStart => exact ⟨0, Nat.zero_le _, rfl, Below.refl _ _, rfl⟩
  case round =>
    obtain ⟨k, hk, rfl, hb, hp⟩ := hrel
    have HP := Lib.hid hp
    clear hp
    by_cases hlt : k < l.length
    · have hltm : k < m.length := by have := HN.out; omega
      obtain ⟨p1, o1, rfl, hC1⟩ := RowAt.at HA.out hlt
      obtain ⟨p2, o2, rfl, hC2⟩ := RowAt.at HB.out hltm
      obtain ⟨x, hx⟩ : ∃ x, l[k]? = some x := ⟨l[k], by simp⟩
      obtain ⟨y, hy⟩ : ∃ y, m[k]? = some y := ⟨m[k], by simp⟩
      have e0 := cells_one (hC1.later hb) hx
      have e1 := cells_one (hC2.later hb) hy
      have z1 : p1 < wr.heap.size := block_lt_of_cell e0
      have z2 : p2 < wr.heap.size := block_lt_of_cell e1
      have HX := Lib.hid hx
      have HY := Lib.hid hy
      clear hx hy hC1 hC2
      have r1 : (0 : Int) ≤ (k : Int) := by omega
      have r2 : (k : Int) < (l.length : Int) := by omega
      have r3 : (k : Int) < (m.length : Int) := by omega
      by_cases hxy : x = y
      · subst hxy
        go_wp2_with fail
        refine Fat.wp_region_tail 9 (by kernel_rfl) (by kernel_rfl) ?_
        simp only [List.take_succ_cons, List.drop_succ_cons, List.take_nil, List.drop_nil]
        repeat (go_big_quiet_step (fail))
        refine wpQuiet_nil ?_
        intro w1 hb1
        replace hb := over hb hb1
        clear hb1
        go_wp2_with fail
        go_roundw
        case rel => exact ⟨k + 1, by omega, by go_num, hb, take_eq_succ HP.out HX.out HY.out⟩
        case measure => simp [intOf]; omega
      · have hxb : (x != y) = true := by simpa using hxy
        have HXY := Lib.hid hxy
        clear hxy
        go_wp2_with fail
        refine Fat.wp_region_tail 9 (by kernel_rfl) (by kernel_rfl) ?_
        simp only [List.take_succ_cons, List.drop_succ_cons, List.take_nil, List.drop_nil]
        repeat (go_big_quiet_step (fail))
        refine wpQuiet_nil ?_
        intro w1 hb1
        replace hb := over hb hb1
        clear hb1
        go_wp2_with fail
        go_ret
        exact ⟨ret_bool (by symm; simp; intro e; subst e; have h1 := HX.out; rw [HY.out] at h1; cases h1; exact HXY.out rfl), hb⟩
    · go_wp2_with fail
      go_ret
      refine ⟨ret_bool ?_, hb⟩
      symm
      have h1 := HP.out
      rw [List.take_of_length_le (by omega), List.take_of_length_le (by have := HN.out; omega)] at h1
      simpa using h1
theorem ints3_yes (l : List Int) (a b : Option Addr) (c d : Nat) (w : World) (hl : IntsAt w a l) (hm : IntsAt w b l) (l1 : l.length ≤ 1000) :
    Calls Try.prog 22 #[.slice a l.length c, .slice b l.length d] w (Ret (.bool true) w) := by
  have := ints3_any l l a b c d w hl hm l1 l1
  rwa [show decide (l = l) = true by simp] at this
set_option maxRecDepth 100000 in
set_option maxHeartbeats 1000000 in
theorem hops3_yes (l : List Hp) (a b : Option Addr) (c d : Nat) (w : World) (hl : HopsAt w a l) (hm : HopsAt w b l) (l1 : l.length ≤ 1000) :
    Calls Try.prog 26 #[.slice a l.length c, .slice b l.length d] w (Ret (.bool true) w) := by
  have HA := Lib.hid hl
  have HB := Lib.hid hm
  clear hl hm
  go_enter Try.func26, Try.ntmps26
  go_wp2_with fail
  go_loopw [5] (fun i wr => ∃ k : Nat, k ≤ l.length ∧ i = .int .i64 k ∧ Below w.heap.size w wr) (fun i _ => l.length - (intOf i).toNat)
  case atStart => exact ⟨0, Nat.zero_le _, rfl, Below.refl _ _⟩
  case round =>
    obtain ⟨k, hk, rfl, hb⟩ := hrel
    by_cases hlt : k < l.length
    · obtain ⟨p1, o1, rfl, hC1⟩ := RowAt.at HA.out hlt
      obtain ⟨p2, o2, rfl, hC2⟩ := RowAt.at HB.out hlt
      obtain ⟨x, hx⟩ : ∃ x, l[k]? = some x := ⟨l[k], by simp⟩
      obtain ⟨e0, e1, e2⟩ := cells_hp (hC1.later hb) hx
      obtain ⟨f0, f1, f2⟩ := cells_hp (hC2.later hb) hx
      have z1 : p1 < wr.heap.size := block_lt_of_cell e0
      have z2 : p2 < wr.heap.size := block_lt_of_cell f0
      clear hx hC1 hC2
      have r1 : (0 : Int) ≤ (k : Int) := by omega
      have r2 : (k : Int) < (l.length : Int) := by omega
      go_wp2_with fail
      refine Fat.wp_region_tail 37 (by kernel_rfl) (by kernel_rfl) ?_
      simp only [List.take_succ_cons, List.drop_succ_cons, List.take_nil, List.drop_nil]
      repeat (go_big_quiet_step (fail))
      refine wpQuiet_nil ?_
      intro w1 hb1
      replace hb := over hb hb1
      clear hb1
      go_wp2_with fail
      go_roundw
      case rel => exact ⟨k + 1, by omega, by go_num, hb⟩
      case measure => simp [intOf]; omega
    · go_wp2_with fail
      go_ret
      exact ⟨rfl, hb⟩
end Go.Proofs.Ytfihdaoakfdlpaa
end

section

end

section

end
