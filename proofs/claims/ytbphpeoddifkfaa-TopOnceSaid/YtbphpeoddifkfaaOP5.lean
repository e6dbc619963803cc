/- Layer 5, the walks: a truth picked by words. -/
import Derived.Test.YtbphpeoddifkfaaOP4
open Go.RowKit
namespace Go.Proofs.Ytbphpeoddifkfaa
open Go.Once

/-- A row of words. -/
def WordsAt (W : World) (a : Option Addr) (l : List Nat) : Prop := RowAt W a 1 (l.map fun n : Nat => [Value.int .u16 (n : Int)])
/-- A number between two. -/
def Betw (lo hi : Int) (v : Value) : Prop := ∃ n : Int, v = .int .i64 n ∧ lo ≤ n ∧ n ≤ hi

theorem word5_any (l : List Nat) (a : Option Addr) (c : Nat) (i : Int) (w : World) (h : WordsAt w a l) (h0 : 0 < l.length) (hl : l.length ≤ 9223372036854775807) (hb : ∀ n ∈ l, n < 65536) (hi : 0 ≤ i) :
    Calls Try.prog 39 #[.slice a l.length c, .int .i64 i] w (RetP (fun v _ => Betw 0 65535 v) w) := by
  have hne : ((l.length : Int) == 0) = false := beq_eq_false_iff_ne.2 (by omega)
  obtain ⟨r, hr⟩ : ∃ r : Nat, (i.tmod (l.length : Int)) = r := ⟨(i.tmod (l.length : Int)).toNat, by
    have := Int.emod_nonneg i (show (l.length : Int) ≠ 0 by omega)
    rw [Int.tmod_eq_emod_of_nonneg hi]; omega⟩
  have hrl : r < l.length := by
    have := Int.emod_lt_of_pos i (show (0 : Int) < (l.length : Int) by omega)
    rw [← Int.tmod_eq_emod_of_nonneg hi, hr] at this; omega
  obtain ⟨p1, o1, rfl, hC⟩ := RowAt.at (k := r) h (by simpa using hrl)
  obtain ⟨x, hx⟩ : ∃ x, l[r]? = some x := ⟨l[r], by simp⟩
  have hxb := hb x (List.mem_of_getElem? hx)
  have e0 := cells_one (f := fun n : Nat => Value.int .u16 (n : Int)) hC hx
  have z1 := block_lt_of_cell e0
  have r1 : (0 : Int) ≤ (r : Int) := by omega
  have r2 : (r : Int) < (l.length : Int) := by omega
  have hl0 : ¬ (l.length : Int) = 0 := by omega
  clear hC hx h hb hrl
  go_enter Try.func39, Try.ntmps39
  go_wp2_with fail
  go_ret
  exact ⟨_, rfl, Below.refl _ _, x, rfl, by omega, by omega⟩

theorem picked5_any (r : Rg) (n : Int) (w : World) (hr : r.Ok 6) (h0 : 0 ≤ n) (h1 : n ≤ 65535) :
    Calls Try.prog 40 #[.agg #[.int .i64 r.lo, .int .i64 r.hi], .int .i64 n] w (RetP (fun v _ => Betw r.lo r.hi v) w) := by
  obtain ⟨g1, g2, g3⟩ := hr
  obtain ⟨m, hm⟩ : ∃ m : Int, n.tmod 4 = m := ⟨_, rfl⟩
  have hd : ¬ r.hi - r.lo + 1 = 0 := by omega
  obtain ⟨k, hk⟩ : ∃ k : Int, (n.tdiv 4).tmod (r.hi - r.lo + 1) = k := ⟨_, rfl⟩
  have hkb : 0 ≤ k ∧ k ≤ r.hi - r.lo := by
    have e1 : 0 ≤ n.tdiv 4 := by rw [Int.tdiv_eq_ediv_of_nonneg h0]; omega
    have e2 := Int.emod_nonneg (n.tdiv 4) (show r.hi - r.lo + 1 ≠ 0 by omega)
    have e3 := Int.emod_lt_of_pos (n.tdiv 4) (show 0 < r.hi - r.lo + 1 by omega)
    rw [Int.tmod_eq_emod_of_nonneg e1] at hk
    omega
  have hdb : 0 ≤ n.tdiv 4 ∧ n.tdiv 4 ≤ 65535 := by rw [Int.tdiv_eq_ediv_of_nonneg h0]; omega
  obtain ⟨dv, hdv⟩ : ∃ dv : Int, n.tdiv 4 = dv := ⟨_, rfl⟩
  rw [hdv] at hk hdb
  go_enter Try.func40, Try.ntmps40
  go_upto_region 1 with fail
  refine named1 (p := Code.wp _ _ _ _) ?_
  intro W hW B2
  have c2 := B2.cell; have t2 := B2.lt
  go_wp2_with fail
  all_goals first
    | (go_ret; exact ⟨_, rfl, hW, _, rfl, by omega, by omega⟩)
    | skip
  refine Fat.wp_region_tail 13 (by kernel_rfl) (by kernel_rfl) ?_
  simp only [List.take_succ_cons, List.drop_succ_cons, List.take_nil, List.drop_nil]
  repeat (go_big_quiet_step (fail))
  refine wpQuiet_nil ?_
  intro W2 hb2
  go_wp2_with fail
  go_ret
  exact ⟨_, rfl, over hW hb2, _, rfl, by omega, by omega⟩

end Go.Proofs.Ytbphpeoddifkfaa
