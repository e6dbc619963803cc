/- The statements' own helpers: clouds converted. -/
import Derived.Test.YtmfnkmmbihmjnaaGrow1
open Go.RowKit
namespace Go.Proofs.Ytmfnkmmbihmjnaa
open Go.Hill

/-- It returns a row of its own. -/
def RetRow (E : TypeId) (size : Nat) (xs : List (List Value)) (w : World) (e : Ending) (w' : World) : Prop :=
  ∃ v, e = .returned v ∧ Below w.heap.size w w' ∧ Own w' w.heap.size E size v xs

theorem elem_cd : Elem Try.prog 85 84 8 64 := ⟨by kernel_rfl, by kernel_rfl⟩
theorem elem_st : Elem Try.prog 34 81 4 32 := ⟨by kernel_rfl, by kernel_rfl⟩
theorem elem_wl : Elem Try.prog 35 82 6 48 := ⟨by kernel_rfl, by kernel_rfl⟩
theorem elem_sn : Elem Try.prog 37 99 3 24 := ⟨by kernel_rfl, by kernel_rfl⟩
theorem elem_cs : Elem Try.prog 36 85 1 24 := ⟨by kernel_rfl, by kernel_rfl⟩

theorem take_map_succ {α β : Type} {l : List α} {f : α → β} {k : Nat} {x : α} (h : l[k]? = some x) : (l.take (k + 1)).map f = (l.take k).map f ++ [f x] := by
  rw [List.take_add_one, h]; simp

set_option maxRecDepth 100000 in
theorem clouds_any (l : List Cd) (a : Option Addr) (c : Nat) (w : World) (hl : RowAt w a 8 (l.map Cd.vs)) (l1 : l.length ≤ 1000) :
    Calls Try.prog 49 #[.slice a l.length c] w (RetRow 84 8 (l.map Cd.vs) w) := by
  have HA := Lib.hid hl
  clear hl
  go_enter Try.func49, Try.ntmps49
  go_wp2_with fail
  go_loopw [3, 4] (fun v i wr => ∃ k : Nat, k ≤ l.length ∧ i = .int .i64 k ∧ Below w.heap.size w wr ∧ Own wr w.heap.size 84 8 v ((l.take k).map Cd.vs)) (fun _ i _ => l.length - (intOf i).toNat)
  case atStart => exact ⟨0, Nat.zero_le _, rfl, Below.refl _ _, Own.nil _ _ _ _⟩
  case round =>
    obtain ⟨k, hk, rfl, hb, hp⟩ := hrel
    have HP := Lib.hid hp
    clear hp
    by_cases hlt : k < l.length
    · obtain ⟨p1, o1, rfl, hC1⟩ := RowAt.at HA.out hlt
      obtain ⟨x, hx⟩ : ∃ x, l[k]? = some x := ⟨l[k], by simp⟩
      obtain ⟨e0, e1, e2, e3, e4, e5, e6, e7⟩ := cells_cd (hC1.later hb) hx
      have z1 := block_lt_of_cell e0
      have HX := Lib.hid hx
      clear hx hC1
      have r1 : (0 : Int) ≤ (k : Int) := by omega
      have r2 : (k : Int) < (l.length : Int) := by omega
      go_wp2_with fail
      refine Fat.wp_region 19 [6, 17, 18] [] (fun i => if i = 6 then isSpec (.agg #[.int .i64 x.wl.X1, .int .i64 x.wl.Y1, .int .i64 x.wl.X2, .int .i64 x.wl.Y2, .int .i64 x.wl.B, .int .i64 x.wl.T]) else if i = 17 then isSpec (.agg #[.int .i64 x.wl.X1, .int .i64 x.wl.Y1, .int .i64 x.wl.X2, .int .i64 x.wl.Y2, .int .i64 x.wl.B, .int .i64 x.wl.T, .int .i64 x.fr, .int .i64 x.to]) else oneSpec 84 #[.int .i64 x.wl.X1, .int .i64 x.wl.Y1, .int .i64 x.wl.X2, .int .i64 x.wl.Y2, .int .i64 x.wl.B, .int .i64 x.wl.T, .int .i64 x.fr, .int .i64 x.to])
        (fun i => by (repeat' split) <;> first | exact isSpec_lasting _ | exact oneSpec_lasting _ _)
        (fun i => by (repeat' split) <;> first | exact isSpec_local _ | exact oneSpec_local _ _) (by kernel_rfl) (by kernel_rfl) ?_
      simp only [List.take_succ_cons, List.take_zero, Fat.pick, List.contains_cons, List.contains_nil, Nat.reduceAdd, Nat.reduceBEq]
      repeat (first | simp only [Bool.or_false] | simp only [Bool.or_true] | simp only [Bool.true_or] | simp only [Bool.false_eq_true] | simp only [if_true] | simp only [if_false])
      repeat (go_big_quiet_step (fail))
      refine wpQuiet_nil ?_
      refine ⟨?_, ?_, ?_⟩
      · intro i o hi hown ho vals lo hi' W hW hdep
        simp only [List.contains_cons, List.contains_nil, Bool.or_false] at hi
        (try simp only [Bool.or_eq_true] at hi)
        simp only [beq_iff_eq] at hi
        rcases hi with rfl | rfl | rfl
        all_goals first
          | exact absurd hown (by decide)
          | (simp only [List.getElem?_cons_succ, List.getElem?_cons_zero, Option.some.injEq] at ho; subst ho; refine .inl ⟨rfl, ?_⟩; simp only [Fat.putN, Fat.dstOf, Act.put, List.getElem?_toArray, List.getElem?_cons_succ, List.getElem?_cons_zero, Option.bind_some, List.setIfInBounds_toArray, List.set_cons_succ, List.set_cons_zero])
        · go_simp
          exact (wall_any x.wl W).mono fun e w'' ⟨he, h⟩ => ⟨_, he, h, rfl⟩
        · obtain ⟨_, _, _, (hv : vals 6 = _)⟩ := hdep 6 rfl (by kernel_rfl)
          rw [hv]
          go_simp
          exact ⟨Below.refl _ _, rfl⟩
        · obtain ⟨_, _, _, (hv : vals 17 = _)⟩ := hdep 17 rfl (by kernel_rfl)
          rw [hv]
          go_simp
          exact oneSpec_new _ _ _
      · intro i o hi hown ho vals lo hi' W hW hdep
        simp only [List.contains_cons, List.contains_nil, Bool.or_false] at hi
        (try simp only [Bool.or_eq_true] at hi)
        simp only [beq_iff_eq] at hi
        rcases hi with rfl | rfl | rfl
        all_goals first
          | exact absurd (by decide) hown
          | (simp only [List.getElem?_cons_succ, List.getElem?_cons_zero, Option.some.injEq] at ho; subst ho; refine ⟨rfl, ?_⟩; simp only [Fat.putN, Fat.dstOf, Act.put, List.getElem?_toArray, List.getElem?_cons_succ, List.getElem?_cons_zero, Option.bind_some, List.setIfInBounds_toArray, List.set_cons_succ, List.set_cons_zero]; (try simp only [Option.bind_none]))
      · intro vals lo hi' w5 hb3 hphi hdis htied
        obtain ⟨_, _, _, (q6 : vals 6 = _)⟩ := hphi 6 rfl
        obtain ⟨_, _, _, (q17 : vals 17 = _)⟩ := hphi 17 rfl
        obtain ⟨_, _, _, (q18 : vals 18 = _), _, (B29 : Box w5 (lo 18) _ _)⟩ := hphi 18 rfl
        simp only [Fat.putN, Fat.dstOf, Act.put, List.getElem?_toArray, List.getElem?_cons_succ, List.getElem?_cons_zero, Option.bind_some, List.setIfInBounds_toArray, List.set_cons_succ, List.set_cons_zero, List.drop_succ_cons, List.drop_zero]
        rw [q6, q17, q18]
        clear q6 q17 q18 hphi hdis htied vals
        generalize lo 18 = b29 at *
        have hO := HP.out.later hb3
        replace hb := over hb hb3
        clear hb3 e0 e1 e2 e3 e4 e5 e6 e7 z1
        refine wpList_grow rfl (.tmp 11) (.tmp 29) 85 rfl elem_cd rfl hO rfl B29 rfl (by omega) rfl (n := k) (by simp; omega) (by omega) (by omega) hb.size ?_
        intro a' c' W' hO' hb' _
        replace hb := hb.trans hb'
        have HO : Hid (Own W' w.heap.size 84 8 (.slice a' (k + 1) c') ((l.take (k + 1)).map Cd.vs)) := by rw [Hid, take_map_succ HX.out]; exact hO'
        clear hO' hb' B29 hO
        go_wp2_with fail
        go_roundw
        case rel => exact ⟨k + 1, by omega, by go_num, hb, HO.out⟩
        case measure => simp [intOf]; omega
    · go_wp2_with fail
      go_ret
      refine ⟨_, rfl, hb, ?_⟩
      have h1 := HP.out
      rw [List.take_of_length_le (by omega)] at h1
      exact h1
end Go.Proofs.Ytmfnkmmbihmjnaa
