/- Layer 4, the walks: a book converted. -/
import Derived.Test.YtbphpeoddifkfaaOC1
import Derived.Test.YtbphpeoddifkfaaOwn0
open Go.RowKit
namespace Go.Proofs.Ytbphpeoddifkfaa
open Go.Once

theorem elem_int : Elem Try.prog 23 3 1 8 := ⟨by kernel_rfl, by kernel_rfl⟩
theorem elem_key : Elem Try.prog 40 75 3 24 := ⟨by kernel_rfl, by kernel_rfl⟩

set_option maxHeartbeats 1000000 in
theorem list4_any (l : List Int) (a : Option Addr) (c : Nat) (w : World) (h : IntsAt w a l) (hl : l.length ≤ 1000) :
    Calls Try.prog 31 #[.slice a l.length c] w (RetRow 3 1 (ivs l) w) := by
  have HI := Lib.hid h
  clear h
  go_enter Try.func31, Try.ntmps31
  go_wp2_with (at_builtin; refine named1 (p := wpList _ _ _ _ _) ?_; intro w1 hb1 B1; refine wpList_fresh rfl (.tmp 3) (.tmp 4) 23 rfl elem_int (by decide) rfl B1 (Nat.le_refl _) (ivs l) (ivs_one l) (ivs_cell l) rfl (by simp) (HI.out.later hb1) (by simpa using hl) (by decide) ?_; intro v' w2 hb2 hown; replace hb2 := over hb1 hb2; clear hb1 B1)
  have HO := Lib.hid hown
  clear hown
  go_wp2_with fail
  go_ret
  exact ⟨_, rfl, hb2, HO.out⟩

theorem key4_any (x : Ky) (w : World) : Calls Try.prog 32 #[.agg #[.int .i64 x.m, .int .i64 x.a, .int .i64 x.s]] w (Ret (.agg #[.int .i64 x.m, .int .i64 x.a, .int .i64 x.s]) w) := by
  go_enter Try.func32, Try.ntmps32
  go_wp2_with fail
  exact bodyPost_ret (v := .agg #[.int .i64 x.m, .int .i64 x.a, .int .i64 x.s]) (by simp [results, Try.results32, go_sem]) rfl ⟨rfl, (by repeat (first | exact Below.refl _ _ | refine al ?_ _ | refine Below.drew ?_ | refine sc ?_ (by simp) _))⟩

def RetBook (b : Bk) (w : World) (e : Ending) (w' : World) : Prop := ∃ q : BV, e = .returned (bookV q b) ∧ Below w.heap.size w w' ∧ BookAt w' q b
def bookSpec (b : Bk) (n0 : Nat) (i : Nat) : Fat.Spec :=
  if i = 6 then ownSpec n0 3 1 (ivs b.days) else if i = 7 then aggSpec (fun u => .agg #[.int .i64 b.size, .int .i64 b.words, .slice none 0 0, u]) n0 3 1 (ivs b.days) else newSpec 42 4
theorem bookSpec_lasting (b : Bk) (n0 i : Nat) : Fat.Lasting (bookSpec b n0 i) := by
  unfold bookSpec
  (repeat' split) <;> first | exact ownSpec_lasting _ _ _ _ | exact aggSpec_lasting _ _ _ _ _ | exact newSpec_lasting _ _
set_option maxRecDepth 100000 in
set_option maxHeartbeats 4000000 in
theorem book4_any (q : BV) (b : Bk) (w : World) (hB : BookAt w q b) (l1 : b.keys.length ≤ 1000) (l2 : b.days.length ≤ 1000) : Calls Try.prog 10 #[bookV q b] w (RetBook b w) := by
  have HB := Lib.hid hB
  clear hB
  go_enter Try.func10, Try.ntmps10
  go_wp2_with fail
  refine named2 (p := Code.wp _ _ _ _) ?_
  intro W hW B1 B2
  have c1 := B1.cell; have t1 := B1.lt
  have hWr := hW
  refine Fat.wp_region0 9 [6, 7, 8] (bookSpec b w.heap.size) (bookSpec_lasting b w.heap.size) (by kernel_rfl) (by kernel_rfl) ?_
  simp only [List.take_succ_cons, List.take_zero, Fat.pick, List.contains_cons, List.contains_nil, Nat.reduceAdd, Nat.reduceBEq]
  repeat (first | simp only [Bool.or_false] | simp only [Bool.or_true] | simp only [Bool.true_or] | simp only [Bool.false_eq_true] | simp only [if_true] | simp only [if_false])
  repeat (go_big_quiet_step (fail))
  refine wpQuiet_nil ?_
  refine ⟨?_, ?_, ?_⟩
  · intro i o hi hown ho vals lo hi' W hW hdep
    simp only [List.contains_cons, List.contains_nil, Bool.or_false] at hi
    (try simp only [Bool.or_eq_true] at hi)
    simp only [beq_iff_eq] at hi
    rcases hi with rfl | rfl | rfl
    all_goals first
      | exact absurd hown (by decide)
      | (simp only [List.getElem?_cons_succ, List.getElem?_cons_zero, Option.some.injEq] at ho; subst ho; refine .inl ⟨rfl, ?_⟩; simp only [Fat.putN, Fat.dstOf, Act.put, List.getElem?_toArray, List.getElem?_cons_succ, List.getElem?_cons_zero, Option.bind_some, List.setIfInBounds_toArray, List.set_cons_succ, List.set_cons_zero])
    · go_simp
      exact (list4_any b.days q.a2 q.c2 W (HB.out.days.later (over hWr hW)) l2).mono fun e w'' ⟨v, he, h, ho⟩ => ⟨v, he, h, ho.mono (over hWr hW).size⟩
    · obtain ⟨_, _, _, (hv : Own _ _ _ _ (vals 6) _)⟩ := hdep 6 rfl (by kernel_rfl)
      obtain ⟨a7, c7, e7, _, _⟩ := hv.row
      rw [List.length_map] at e7
      rw [e7] at hv ⊢
      go_simp
      exact ⟨Below.refl _ _, _, rfl, hv⟩
    · go_simp
      exact newSpec_new _ _ _
  · intro i o hi hown ho vals lo hi' W hW hdep
    simp only [List.contains_cons, List.contains_nil, Bool.or_false] at hi
    (try simp only [Bool.or_eq_true] at hi)
    simp only [beq_iff_eq] at hi
    rcases hi with rfl | rfl | rfl
    all_goals first
      | exact absurd (by decide) hown
      | (simp only [List.getElem?_cons_succ, List.getElem?_cons_zero, Option.some.injEq] at ho; subst ho; refine ⟨rfl, ?_⟩; simp only [Fat.putN, Fat.dstOf, Act.put, List.getElem?_toArray, List.getElem?_cons_succ, List.getElem?_cons_zero, Option.bind_some, List.setIfInBounds_toArray, List.set_cons_succ, List.set_cons_zero]; (try simp only [Option.bind_none]))
  · intro vals lo hi' w5 hb5 hphi hdis htied
    obtain ⟨_, _, _, u, (v7 : vals 7 = _), hu⟩ := hphi 7 rfl
    obtain ⟨g1, _, g3, (v8 : vals 8 = _), g4, c8, (B3 : Box w5 (lo 8) c8 _), hc8⟩ := hphi 8 rfl
    obtain ⟨da, dc, e7, hdl, _⟩ := hu.row
    rw [List.length_map] at e7 hdl
    subst e7
    simp only [Fat.putN, Fat.dstOf, Act.put, List.getElem?_toArray, List.getElem?_cons_succ, List.getElem?_cons_zero, Option.bind_some, List.setIfInBounds_toArray, List.set_cons_succ, List.set_cons_zero, List.drop_succ_cons, List.drop_zero]
    rw [v7, v8]
    clear hphi hdis htied v7 v8
    generalize vals 6 = x6 at *
    generalize lo 8 = b3 at *
    have n1 : w.heap.size ≠ b3 := by omega
    have n2 : w.heap.size + 1 ≠ b3 := by have := B2.lt; omega
    have n3 : w.heap.size ≤ b3 := by omega
    clear c1 t1 g1 g3 g4
    replace B1 := B1.later hb5
    replace B2 := B2.later hb5
    replace hW := over hWr hb5
    have hD := hu
    clear hu hWr hb5
    refine wpList_store_box rfl rfl 42 (.tmp 3) (.tmp 12) rfl _ #[.int .i64 b.size, .int .i64 b.words, .slice none 0 0, .slice da b.days.length dc] rfl rfl B3 hc8 (by kernel_rfl) rfl ?_
    intro V C3 but3
    have hDV := hD.other B3 (by decide) but3
    replace hW := but3.below hW n3
    replace B1 := but3.box B1 n1
    replace B2 := but3.box B2 n2
    clear but3 B3 hc8 hD
    obtain ⟨m0, hm0⟩ : ∃ m, m = V.heap.size := ⟨_, rfl⟩
    have hbm : b3 < m0 := by rw [hm0]; exact C3.lt
    go_wp2_with fail
    go_loopw [4] (fun i wr => ∃ (k : Nat) (v : Value), k ≤ b.keys.length ∧ i = .int .i64 k ∧ Below w.heap.size w wr ∧ m0 ≤ wr.heap.size ∧ Box wr w.heap.size #[.int .i64 b.size, .int .i64 b.words, .slice q.a1 b.keys.length q.c1, .slice q.a2 b.days.length q.c2] 25 ∧ Box wr (w.heap.size + 1) #[.int .i64 0, .int .i64 0, .slice none 0 0, .slice none 0 0] 42 ∧ Box wr b3 #[.int .i64 b.size, .int .i64 b.words, v, .slice da b.days.length dc] 42 ∧
      Own wr w.heap.size 3 1 (.slice da b.days.length dc) (ivs b.days) ∧ Own wr m0 75 3 v ((b.keys.take k).map Ky.vs)) (fun i _ => b.keys.length - (intOf i).toNat)
    case atStart => exact ⟨0, _, Nat.zero_le _, rfl, hW, by omega, B1, B2, C3, hDV, Own.nil _ _ _ _⟩
    case round =>
      clear hW B1 B2 C3 hDV hm0
      obtain ⟨k, v, hk, rfl, hW, hm, B1, B2, B3, hd, ho⟩ := hrel
      have HD := Lib.hid hd
      have HO := Lib.hid ho
      clear hd ho
      have c1 := B1.cell; have t1 := B1.lt; have c3 := B3.cell; have t3 := B3.lt
      by_cases hlt : k < b.keys.length
      · obtain ⟨p1, o1, ea, hC1⟩ := RowAt.at HB.out.keys hlt
        obtain ⟨x, hx⟩ : ∃ x, b.keys[k]? = some x := ⟨b.keys[k], by simp⟩
        obtain ⟨e0, e1, e2⟩ := cells_ky (hC1.later hW) hx
        have z1 := block_lt_of_cell e0
        have HX := Lib.hid hx
        clear hx hC1
        rw [ea] at c1
        have r1 : (0 : Int) ≤ (k : Int) := by omega
        have r2 : (k : Int) < (b.keys.length : Int) := by omega
        clear ea
        go_wp2_with fail
        refine Fat.wp_region0 9 [7, 8] (fun i => if i = 7 then isSpec (.agg #[.int .i64 x.m, .int .i64 x.a, .int .i64 x.s]) else oneSpec 75 #[.int .i64 x.m, .int .i64 x.a, .int .i64 x.s])
          (fun i => by (repeat' split) <;> first | exact isSpec_lasting _ | exact oneSpec_lasting _ _) (by kernel_rfl) (by kernel_rfl) ?_
        simp only [List.take_succ_cons, List.take_zero, Fat.pick, List.contains_cons, List.contains_nil, Nat.reduceAdd, Nat.reduceBEq]
        repeat (first | simp only [Bool.or_false] | simp only [Bool.or_true] | simp only [Bool.true_or] | simp only [Bool.false_eq_true] | simp only [if_true] | simp only [if_false])
        repeat (go_big_quiet_step (fail))
        refine wpQuiet_nil ?_
        refine ⟨?_, ?_, ?_⟩
        · intro i o hi hown ho vals lo hi' W hW hdep
          simp only [List.contains_cons, List.contains_nil, Bool.or_false] at hi
          (try simp only [Bool.or_eq_true] at hi)
          simp only [beq_iff_eq] at hi
          rcases hi with rfl | rfl
          all_goals first
            | exact absurd hown (by decide)
            | (simp only [List.getElem?_cons_succ, List.getElem?_cons_zero, Option.some.injEq] at ho; subst ho; refine .inl ⟨rfl, ?_⟩; simp only [Fat.putN, Fat.dstOf, Act.put, List.getElem?_toArray, List.getElem?_cons_succ, List.getElem?_cons_zero, Option.bind_some, List.setIfInBounds_toArray, List.set_cons_succ, List.set_cons_zero])
          · go_simp
            exact (key4_any x W).mono fun e w'' ⟨he, h⟩ => ⟨_, he, h, rfl⟩
          · obtain ⟨_, _, _, (hv : vals 7 = _)⟩ := hdep 7 rfl (by kernel_rfl)
            rw [hv]
            go_simp
            exact oneSpec_new _ _ _
        · intro i o hi hown ho vals lo hi' W hW hdep
          simp only [List.contains_cons, List.contains_nil, Bool.or_false] at hi
          (try simp only [Bool.or_eq_true] at hi)
          simp only [beq_iff_eq] at hi
          rcases hi with rfl | rfl
          all_goals first
            | exact absurd (by decide) hown
            | (simp only [List.getElem?_cons_succ, List.getElem?_cons_zero, Option.some.injEq] at ho; subst ho; refine ⟨rfl, ?_⟩; simp only [Fat.putN, Fat.dstOf, Act.put, List.getElem?_toArray, List.getElem?_cons_succ, List.getElem?_cons_zero, Option.bind_some, List.setIfInBounds_toArray, List.set_cons_succ, List.set_cons_zero]; (try simp only [Option.bind_none]))
        · intro vals lo hi' w5 hb5 hphi hdis htied
          obtain ⟨_, _, _, (q7 : vals 7 = _)⟩ := hphi 7 rfl
          obtain ⟨_, _, _, (q8 : vals 8 = _), _, (B28 : Box w5 (lo 8) _ _)⟩ := hphi 8 rfl
          simp only [Fat.putN, Fat.dstOf, Act.put, List.getElem?_toArray, List.getElem?_cons_succ, List.getElem?_cons_zero, Option.bind_some, List.setIfInBounds_toArray, List.set_cons_succ, List.set_cons_zero, List.drop_succ_cons, List.drop_zero]
          rw [q7, q8]
          clear q7 q8 hphi hdis htied
          generalize lo 8 = b28 at *
          have hO := HO.out.later hb5
          have hD5 := HD.out.later hb5
          clear e0 e1 e2 z1 c1 t1 c3 t3
          refine wpList_grow rfl (.tmp 21) (.tmp 28) 40 rfl elem_key rfl hO rfl B28 rfl (by omega) rfl (n := k) (by simp; omega) (by omega) (by omega) (Nat.le_trans hm hb5.size) ?_
          intro a' c' W' hO' hb' hg'
          have D3 := B3.later hb5
          have D3' := (hg'.block b3 D3.lt fun he => own_ne hO D3 (by decide) he.symm).trans D3
          replace B3 : Box W' b3 _ _ := D3'
          have D1 := B1.later hb5
          replace B1 : Box W' _ _ _ := (hg'.block _ D1.lt fun he => own_ne hO D1 (by decide) he.symm).trans D1
          have D2 := B2.later hb5
          replace B2 : Box W' _ _ _ := (hg'.block _ D2.lt fun he => own_ne hO D2 (by decide) he.symm).trans D2
          have hD' := hD5.apart hO (by decide) hg'
          have HD' := Lib.hid hD'
          have HO' := Lib.hid hO'
          replace hW : Below w.heap.size w W' := (over hW hb5).trans (hb'.mono (by omega))
          have hm' : m0 ≤ W'.heap.size := Nat.le_trans hm (Nat.le_trans hb5.size hg'.size)
          clear D3 D3' D1 D2 hD' hO' hD5 hO hb' hg' hb5 B28 HO HD
          have f3 := B3.frozen
          have c3 := B3.cell; have t3 := B3.lt
          go_wp2_with fail
          go_roundw
          case rel =>
            have hbut := setCell_but W' b3 2 (.slice a' (k + 1) c')
            refine ⟨k + 1, _, by omega, by go_num, hbut.below hW n3, by rw [hbut.size]; exact hm', hbut.box B1 n1, hbut.box B2 n2, setCell_box B3 2 _, HD'.out.other B3 (by decide) hbut, ?_⟩
            rw [take_map_succ HX.out]
            exact HO'.out.other B3 (by decide) hbut
          case measure => first | omega | (simp [intOf]; omega)
      · obtain rfl : k = b.keys.length := by omega
        have ho := HO.out
        rw [List.take_of_length_le (Nat.le_refl _)] at ho
        obtain ⟨ka, kc, rfl, hkl, _⟩ := ho.row
        rw [List.length_map] at hkl
        rw [List.length_map] at ho
        simp only [List.length_map] at B3 c3
        have HO' := Lib.hid ho
        clear HO ho
        have f2 := B2.frozen
        have c2 := B2.cell; have t2 := B2.lt
        go_wp2_with (with_reducible refine wpList_store_box rfl rfl 42 (.tmp 2) (.tmp 31) rfl _ #[.int .i64 b.size, .int .i64 b.words, .slice ka b.keys.length kc, .slice da b.days.length dc] rfl rfl B2 rfl (by kernel_rfl) rfl ?_; intro W4 C2 hbut; clear c2 t2 f2; have c2 := C2.cell; have t2 := C2.lt)
        refine bodyPost_ret (v := .agg #[.int .i64 b.size, .int .i64 b.words, .slice ka b.keys.length kc, .slice da b.days.length dc]) (by simp [results, Try.results10, go_sem, c2]) rfl ⟨⟨ka, kc, da, dc⟩, rfl, hbut.below hW (by omega), ?_⟩
        exact ⟨(HO'.out.other B2 (by decide) hbut).rowAt.2.2, (HD.out.other B2 (by decide) hbut).rowAt.2.2, hkl, hdl⟩

/-! ### What a book may hold: the program's words -/
theorem plain_any (q : BV) (b : Bk) (n : Int) (w : World) (hs : 13 ≤ b.size ∧ b.size ≤ 41) : Calls Try.prog 26 #[bookV q b, .int .i64 n] w (Ret (.bool (inB n 0 (b.size - 1))) w) := by
  go_enter Try.func26, Try.ntmps26
  go_wp2_with fail
  refine named1 (p := fun W => Calls _ _ _ W _) ?_
  intro W hW B2
  refine (cwithin_any _ _ _ _).mono ?_
  rintro e w1 ⟨rfl, hb1⟩
  replace hW := over hW hb1; (try clear c2 t2); replace B2 := B2.later hb1; have c2 := B2.cell; have t2 := B2.lt; clear hb1 
  go_wp2_with fail
  go_ret
  exact ⟨rfl, hW⟩
theorem day_any (q : BV) (b : Bk) (n : Int) (w : World) (hs : b.days.length ≤ 1000) : Calls Try.prog 24 #[bookV q b, .int .i64 n] w (Ret (.bool (inB n 0 (b.days.length - 1))) w) := by
  go_enter Try.func24, Try.ntmps24
  go_wp2_with fail
  refine named1 (p := fun W => Calls _ _ _ W _) ?_
  intro W hW B2
  refine (cwithin_any _ _ _ _).mono ?_
  rintro e w1 ⟨rfl, hb1⟩
  replace hW := over hW hb1; (try clear c2 t2); replace B2 := B2.later hb1; have c2 := B2.cell; have t2 := B2.lt; clear hb1 
  go_wp2_with fail
  go_ret
  exact ⟨rfl, hW⟩
theorem own_any (q : BV) (b : Bk) (n : Int) (w : World) (hs : b.keys.length ≤ 1000) : Calls Try.prog 50 #[bookV q b, .int .i64 n] w (Ret (.bool (inB n 0 (b.keys.length - 1))) w) := by
  go_enter Try.func50, Try.ntmps50
  go_wp2_with fail
  refine named1 (p := fun W => Calls _ _ _ W _) ?_
  intro W hW B2
  refine (cwithin_any _ _ _ _).mono ?_
  rintro e w1 ⟨rfl, hb1⟩
  replace hW := over hW hb1; (try clear c2 t2); replace B2 := B2.later hb1; have c2 := B2.cell; have t2 := B2.lt; clear hb1 
  go_wp2_with fail
  go_ret
  exact ⟨rfl, hW⟩

theorem key_any (q : BV) (b : Bk) (k : Ky) (w : World) (hS : 13 ≤ b.size ∧ b.size ≤ 41) : Calls Try.prog 49 #[bookV q b, .agg #[.int .i64 k.m, .int .i64 k.a, .int .i64 k.s]] w (Ret (.bool (kyB b.size k)) w) := by
  have HK : Hid (kyB b.size k = (inB k.m 1 (b.size - 1) && inB k.a 0 (b.size - 1) && inB k.s 0 (b.size - 1))) := rfl
  have HP : Hid (∀ n W, Calls Try.prog 26 #[.agg #[.int .i64 b.size, .int .i64 b.words, .slice q.a1 b.keys.length q.c1, .slice q.a2 b.days.length q.c2], .int .i64 n] W (Ret (.bool (inB n 0 (b.size - 1))) W)) := fun n W => plain_any q b n W hS
  go_enter Try.func49, Try.ntmps49
  go_wp2_with fail
  refine named2 (p := fun W => Calls _ _ _ W _) ?_
  intro W hW B2 B3
  have c2 := B2.cell; have t2 := B2.lt; have c3 := B3.cell; have t3 := B3.lt
  go_wp2_with (first
    | (go_at_call 44; refine (cwithin_any _ _ _ _).mono ?_; rintro e w' ⟨rfl, hb⟩; replace hW := over hW hb; (try clear c2 t2 c3 t3); replace B2 := B2.later hb; replace B3 := B3.later hb; have c2 := B2.cell; have t2 := B2.lt; have c3 := B3.cell; have t3 := B3.lt; clear hb)
    | (go_at_call 26; refine (HP.out _ _).mono ?_; rintro e w' ⟨rfl, hb⟩; replace hW := over hW hb; (try clear c2 t2 c3 t3); replace B2 := B2.later hb; replace B3 := B3.later hb; have c2 := B2.cell; have t2 := B2.lt; have c3 := B3.cell; have t3 := B3.lt; clear hb))
  all_goals
    go_ret
    exact ⟨ret_bool (by rw [HK.out]; simp_all), hW⟩

theorem prime_any (S : Int) (w : World) (h : S ∈ primes) : Calls Try.prog 51 #[.int .i64 S] w (Ret (.bool true) w) := by
  have HP := Lib.hid (is_prime S h)
  have hS := size_bd h
  clear h
  go_enter Try.func51, Try.ntmps51
  go_wp2_with fail
  go_step3
  go_wp2_with fail
  go_step3
  go_wp2_with fail
  go_loopw [2, 5] (fun s i wr => s = .bool true ∧ ∃ k : Nat, (k : Int) ≤ S ∧ i = .int .i64 k ∧ Below w.heap.size w wr) (fun _ i _ => S.toNat - (intOf i).toNat)
  case atStart => exact ⟨rfl, 0, by omega, rfl, Below.refl _ _⟩
  case round =>
    obtain ⟨rfl, k, hk, rfl, hW⟩ := hrel
    by_cases hlt : (k : Int) < S
    · by_cases h1 : (1 : Int) < (k : Int)
      · have hm := HP.out k (by omega) (by omega) hlt
        have hm' : ¬ S.tmod k = 0 := by rw [Int.tmod_eq_emod_of_nonneg (by omega)]; exact hm
        have hk0 : ¬ (k : Int) = 0 := by omega
        go_wp2_with fail
        go_roundw
        case rel => exact ⟨rfl, k + 1, by omega, by go_num, hW⟩
        case measure => first | omega | (simp [intOf]; omega)
      · have h1' : decide ((1 : Int) < (k : Int)) = false := by simpa using h1
        go_wp2_with fail
        go_roundw
        case rel => exact ⟨rfl, k + 1, by omega, by go_num, hW⟩
        case measure => first | omega | (simp [intOf]; omega)
    · go_wp2_with fail
      go_ret
      exact ⟨rfl, hW⟩

set_option maxRecDepth 100000 in
set_option maxHeartbeats 2000000 in
theorem checkBook_any (q : BV) (b : Bk) (w : World) (hB : BookAt w q b) (ho : b.Ok) : Calls Try.prog 23 #[bookV q b] w (Ret (.int .i64 0) w) := by
  have HB := Lib.hid hB
  have HO := Lib.hid ho
  have hS := size_bd ho.size
  obtain ⟨h0, h1, h2, h3, h4, h5, h6, h7, h8⟩ := ho
  have i1 : inB b.size 13 41 = true := by simp [inB]; omega
  have i2 : inB b.words 1 b.size = true := by simp [inB]; omega
  have z1 : ((b.keys.length : Int) == 0) = false := beq_eq_false_iff_ne.2 (by omega)
  have z2 : ((b.days.length : Int) == 0) = false := beq_eq_false_iff_ne.2 (by omega)
  have d1 : decide ((5 : Int) < (b.keys.length : Int)) = false := by simp; omega
  have d2 : decide ((8 : Int) < (b.days.length : Int)) = false := by simp; omega
  have HI1 := Lib.hid i1
  have HI2 := Lib.hid i2
  have HK : Hid (∀ W, Below w.heap.size w W → Calls Try.prog 52 #[.slice q.a1 b.keys.length q.c1, .func (.func 49) #[.agg #[.int .i64 b.size, .int .i64 b.words, .slice q.a1 b.keys.length q.c1, .slice q.a2 b.days.length q.c2]] #[]] W (Ret (.bool true) W)) := fun W hb => by
    have h := all_ky b.keys q.a1 q.c1 W (HB.out.keys.later hb) 49 #[bookV q b] #[] (kyB b.size) (fun _ _ => by kernel_rfl) (by omega) (fun x _ w' _ => key_any q b x w' hS)
    rwa [List.all_eq_true.2 (fun x hx => kyB_of (HO.out.keys x hx))] at h
  have HD : Hid (∀ W, Below w.heap.size w W → Calls Try.prog 25 #[.slice q.a2 b.days.length q.c2, .func (.func 50) #[.agg #[.int .i64 b.size, .int .i64 b.words, .slice q.a1 b.keys.length q.c1, .slice q.a2 b.days.length q.c2]] #[]] W (Ret (.bool true) W)) := fun W hb => by
    have h := all_cint b.days q.a2 q.c2 W (HB.out.days.later hb) 50 #[bookV q b] #[] (fun n => inB n 0 (b.keys.length - 1)) (fun _ _ => by kernel_rfl) (by omega) (fun x _ w' _ => own_any q b x w' (by omega))
    rwa [List.all_eq_true.2 (fun x hx => by have := HO.out.days x hx; simp [inB]; omega)] at h
  clear hB h0 h7 h8 i1 i2
  go_enter Try.func23, Try.ntmps23
  go_wp2_with fail
  refine named1 (p := Code.wp _ _ _ _) ?_
  intro W hW B1
  have c1 := B1.cell; have t1 := B1.lt
  refine Fat.wp_region_tail 6 (by kernel_rfl) (by kernel_rfl) ?_
  simp only [List.take_succ_cons, List.drop_succ_cons, List.take_nil, List.drop_nil]
  repeat (go_big_quiet_step (fail))
  refine wpQuiet_nil ?_
  intro W1 hb1
  replace hW := over hW hb1; (try clear c1 t1); replace B1 := B1.later hb1; have c1 := B1.cell; have t1 := B1.lt; clear hb1 
  go_wp2_with fail
  refine (cwithin_any _ _ _ _).mono ?_
  rintro e w2 ⟨rfl, hb2⟩
  rw [HI1.out]
  replace hW := over hW hb2; (try clear c1 t1); replace B1 := B1.later hb2; have c1 := B1.cell; have t1 := B1.lt; clear hb2 
  go_wp2_with fail
  refine (prime_any _ _ HO.out.size).mono ?_
  rintro e w3 ⟨rfl, hb3⟩
  replace hW := over hW hb3; (try clear c1 t1); replace B1 := B1.later hb3; have c1 := B1.cell; have t1 := B1.lt; clear hb3 
  go_wp2_with fail
  refine (cwithin_any _ _ _ _).mono ?_
  rintro e w4 ⟨rfl, hb4⟩
  rw [HI2.out]
  replace hW := over hW hb4; (try clear c1 t1); replace B1 := B1.later hb4; have c1 := B1.cell; have t1 := B1.lt; clear hb4 
  go_wp2_with fail
  refine (HK.out _ hW).mono ?_
  rintro e w5 ⟨rfl, hb5⟩
  replace hW := over hW hb5; (try clear c1 t1); replace B1 := B1.later hb5; have c1 := B1.cell; have t1 := B1.lt; clear hb5 
  go_wp2_with fail
  refine (HD.out _ hW).mono ?_
  rintro e w6 ⟨rfl, hb6⟩
  replace hW := over hW hb6; (try clear c1 t1); replace B1 := B1.later hb6; have c1 := B1.cell; have t1 := B1.lt; clear hb6 
  go_wp2_with fail
  go_ret
  exact ⟨rfl, hW⟩
end Go.Proofs.Ytbphpeoddifkfaa
