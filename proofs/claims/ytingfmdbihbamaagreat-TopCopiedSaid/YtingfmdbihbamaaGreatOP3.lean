/- Layer 5, the walks: lists of numbers and of ranges converted. -/
import Derived.Test.YtingfmdbihbamaaGreatOP1
open Go.RowKit
namespace Go.Proofs.YtingfmdbihbamaaGreat
namespace Cp
open Go.Once

theorem elem_int : Elem Tryz.prog 41 3 1 8 := ⟨by kernel_rfl, by kernel_rfl⟩
theorem elem_rg : Elem Tryz.prog 56 66 2 16 := ⟨by kernel_rfl, by kernel_rfl⟩
theorem elem_lg : Elem Tryz.prog 90 89 3 40 := ⟨by kernel_rfl, by kernel_rfl⟩
theorem elem_rt : Elem Tryz.prog 59 92 2 32 := ⟨by kernel_rfl, by kernel_rfl⟩
theorem elem_ints : Elem Tryz.prog 70 41 1 24 := ⟨by kernel_rfl, by kernel_rfl⟩
theorem elem_intss : Elem Tryz.prog 71 70 1 24 := ⟨by kernel_rfl, by kernel_rfl⟩

theorem list5_any (l : List Int) (a : Option Addr) (c : Nat) (w : World) (h : IntsAt w a l) (hl : l.length ≤ 1000) :
    Calls Tryz.prog 29 #[.slice a l.length c] w (RetRow 3 1 (ivs l) w) := by
  have HI := Lib.hid h
  clear h
  go_enter Tryz.func29, Tryz.ntmps29
  go_wp2_with (at_builtin; refine wpList_onto_nil rfl (.const (.slice none 0 0)) (.tmp 3) 41 rfl elem_int (by decide) rfl (ivs l) (ivs_one l) (ivs_cell l) rfl (by simp) HI.out (by simpa using hl) (by decide) ?_; intro v' w2 hb2 hown)
  have HO := Lib.hid hown
  clear hown
  go_wp2_with fail
  go_ret
  exact ⟨_, rfl, hb2, HO.out⟩

theorem to5_any (x : Rg) (w : World) : Calls Tryz.prog 30 #[.agg #[.int .i64 x.lo, .int .i64 x.hi]] w (Ret (.agg #[.int .i64 x.lo, .int .i64 x.hi]) w) := by
  go_enter Tryz.func30, Tryz.ntmps30
  go_wp2_with fail
  exact bodyPost_ret (v := .agg #[.int .i64 x.lo, .int .i64 x.hi]) (by simp [results, Tryz.results30, go_sem]) rfl ⟨rfl, (by repeat (first | exact Below.refl _ _ | refine al ?_ _ | refine Below.drew ?_ | refine sc ?_ (by simp) _))⟩

set_option maxRecDepth 100000 in
theorem spans5_any (l : List Rg) (a : Option Addr) (c : Nat) (w : World) (hl : RowAt w a 2 (l.map Rg.vs)) (l1 : l.length ≤ 1000) :
    Calls Tryz.prog 31 #[.slice a l.length c] w (RetRow 66 2 (l.map Rg.vs) w) := by
  have HA := Lib.hid hl
  clear hl
  go_enter Tryz.func31, Tryz.ntmps31
  go_wp2_with fail
  go_loopw [3, 4] (fun v i wr => ∃ k : Nat, k ≤ l.length ∧ i = .int .i64 k ∧ Below w.heap.size w wr ∧ Own wr w.heap.size 66 2 v ((l.take k).map Rg.vs)) (fun _ i _ => l.length - (intOf i).toNat)
  case atStart => exact ⟨0, Nat.zero_le _, rfl, Below.refl _ _, Own.nil _ _ _ _⟩
  case round =>
    obtain ⟨k, hk, rfl, hb, hp⟩ := hrel
    have HP := Lib.hid hp
    clear hp
    by_cases hlt : k < l.length
    · obtain ⟨p1, o1, rfl, hC1⟩ := RowAt.at HA.out hlt
      obtain ⟨x, hx⟩ : ∃ x, l[k]? = some x := ⟨l[k], by simp⟩
      obtain ⟨e0, e1⟩ := cells_rg (hC1.later hb) hx
      have z1 := block_lt_of_cell e0
      have HX := Lib.hid hx
      clear hx hC1
      have r1 : (0 : Int) ≤ (k : Int) := by omega
      have r2 : (k : Int) < (l.length : Int) := by omega
      go_wp2_with fail
      refine (to5_any x _).mono ?_
      rintro e w2 ⟨rfl, hb2⟩
      have hO := HP.out.later hb2
      replace hb := over hb hb2
      clear e0 e1 z1 hb2 HP
      have HO := Lib.hid hO
      clear hO
      go_wp2_with (at_builtin; refine named1 (p := wpList _ _ _ _ _) ?_; intro w3 hb3 B3; have hO := HO.out.later hb3; refine wpList_grow rfl (.tmp 11) (.tmp 17) 56 rfl elem_rg rfl hO rfl B3 rfl (by decide) rfl (n := k) (by simp; omega) (by omega) (by decide) (by have := over hb hb3; exact this.size) ?_; intro a' c' W' hO' hb' _; replace hb := (over hb hb3).trans hb'; rw [show (#[Value.int .i64 x.lo, Value.int .i64 x.hi] : Array Value).toList = x.vs from rfl, ← take_map_succ HX.out] at hO'; have HO' := Lib.hid hO'; clear hO' hb' hb3 hO HO B3)
      go_roundw
      case rel => exact ⟨k + 1, by omega, by go_num, hb, HO'.out⟩
      case measure => first | omega | (simp [intOf]; omega)
    · go_wp2_with fail
      go_ret
      refine ⟨_, rfl, hb, ?_⟩
      have h1 := HP.out
      rw [List.take_of_length_le (by omega)] at h1
      exact h1
end Cp
end Go.Proofs.YtingfmdbihbamaaGreat
