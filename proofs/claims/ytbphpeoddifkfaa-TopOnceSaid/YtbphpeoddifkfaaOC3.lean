/- Layer 4, the walks: numbers coded and decoded. -/
import Derived.Test.YtbphpeoddifkfaaOC2
open Go.RowKit
namespace Go.Proofs.Ytbphpeoddifkfaa
open Go.Once

theorem mul_bd {x y A B : Int} (h0 : 0 ≤ x) (h1 : x ≤ A) (h2 : 0 ≤ y) (h3 : y ≤ B) : 0 ≤ x * y ∧ x * y ≤ A * B :=
  ⟨Int.mul_nonneg h0 h2, Int.mul_le_mul h1 h3 h2 (by omega)⟩

theorem code_any (q : BV) (b : Bk) (k : Ky) (n i : Int) (w : World) (hS : 13 ≤ b.size ∧ b.size ≤ 41) (hk : k.Ok b.size) (hn : 0 ≤ n ∧ n < b.size) (hi : 0 ≤ i ∧ i ≤ 20) :
    Calls Try.prog 29 #[bookV q b, .agg #[.int .i64 k.m, .int .i64 k.a, .int .i64 k.s], .int .i64 n, .int .i64 i] w (Ret (.int .i64 (codeOf b.size k n i)) w) := by
  obtain ⟨m1, m2, a1, a2, s1, s2⟩ := hk
  have p1 := mul_bd (x := k.m) (y := n) (A := 41) (B := 41) (by omega) (by omega) hn.1 (by omega)
  have p2 := mul_bd (x := i) (y := k.s) (A := 20) (B := 41) hi.1 hi.2 s1 (by omega)
  have htm : (k.m * n + k.a + i * k.s).tmod b.size = codeOf b.size k n i := Int.tmod_eq_emod_of_nonneg (by omega)
  have hS0 : ¬ b.size = 0 := by omega
  have hcb : 0 ≤ codeOf b.size k n i ∧ codeOf b.size k n i < b.size := ⟨Int.emod_nonneg _ (by omega), Int.emod_lt_of_pos _ (by omega)⟩
  have hcc : (k.m * n + k.a + i * k.s) % b.size = codeOf b.size k n i := rfl
  generalize codeOf b.size k n i = c at *
  go_enter Try.func29, Try.ntmps29
  go_wp2_with fail
  go_ret
  exact ⟨ret_int (by omega), (by repeat (first | exact Below.refl _ _ | refine al ?_ _ | refine Below.drew ?_ | refine sc ?_ (by simp) _))⟩

/-- The first number that is the inverse. -/
def invOf (S m : Int) : Nat := ((List.range 41).find? fun i : Nat => (i : Int) * m % S == 1).getD 0
theorem invOf_at {S m : Int} {k : Nat} (hk : k < 41) (h : (k : Int) * m % S = 1) (hno : ∀ j : Nat, j < k → ¬ (j : Int) * m % S = 1) : invOf S m = k := by
  have : (List.range 41).find? (fun i : Nat => (i : Int) * m % S == 1) = some k := by
    rw [List.find?_range_eq_some]
    exact ⟨by simpa using h, List.mem_range.2 hk, fun j hj => by simpa using hno j hj⟩
  simp [invOf, this]
theorem invOf_ok {S m : Int} (hS : S ∈ primes) (h1 : 1 ≤ m) (h2 : m < S) : (invOf S m : Int) * m % S = 1 ∧ (invOf S m : Int) < S := by
  have hb := size_bd hS
  obtain ⟨i, hi, hiS, he⟩ := has_inverse S hS m.toNat (by omega) (by omega) (by omega)
  have hm : ((m.toNat : Nat) : Int) = m := by omega
  rw [hm] at he
  have key : ∀ n : Nat, (∃ i : Nat, i < n ∧ (i : Int) < S ∧ (i : Int) * m % S = 1) → ∃ k : Nat, k < n ∧ (k : Int) < S ∧ (k : Int) * m % S = 1 ∧ ∀ j : Nat, j < k → ¬ (j : Int) * m % S = 1 := by
    intro n
    induction n with
    | zero => rintro ⟨i, h, _⟩; omega
    | succ n ih =>
      rintro ⟨i, h, h3, h4⟩
      by_cases hex : ∃ i : Nat, i < n ∧ (i : Int) < S ∧ (i : Int) * m % S = 1
      · obtain ⟨k, g1, g2, g3, g4⟩ := ih hex
        exact ⟨k, by omega, g2, g3, g4⟩
      · have hin : i = n := by
          rcases Nat.lt_succ_iff_lt_or_eq.1 h with h5 | h5
          · exact absurd ⟨i, h5, h3, h4⟩ hex
          · exact h5
        subst hin
        exact ⟨i, by omega, h3, h4, fun j hj he => hex ⟨j, hj, by omega, he⟩⟩
  obtain ⟨k, g1, g2, g3, g4⟩ := key 41 ⟨i, hi, hiS, he⟩
  rw [invOf_at g1 g3 g4]
  exact ⟨g3, g2⟩

theorem inverse_any (q : BV) (b : Bk) (m : Int) (w : World) (hS : b.size ∈ primes) (h1 : 1 ≤ m) (h2 : m < b.size) :
    Calls Try.prog 67 #[bookV q b, .int .i64 m] w (Ret (.int .i64 (invOf b.size m)) w) := by
  have hb := size_bd hS
  have HI := Lib.hid (invOf_ok hS h1 h2)
  have hS0 : ¬ b.size = 0 := by omega
  clear hS
  go_enter Try.func67, Try.ntmps67
  go_wp2_with fail
  refine named1 (p := Code.wp _ _ _ _) ?_
  intro W hW B2
  have c2 := B2.cell; have t2 := B2.lt
  go_wp2_with fail
  go_loopw [8] (fun i wr => ∃ k : Nat, (k : Int) ≤ b.size ∧ i = .int .i64 k ∧ Below w.heap.size w wr ∧ Box wr w.heap.size #[.int .i64 b.size, .int .i64 b.words, .slice q.a1 b.keys.length q.c1, .slice q.a2 b.days.length q.c2] 42 ∧ ∀ j : Nat, j < k → ¬ (j : Int) * m % b.size = 1) (fun i _ => b.size.toNat - (intOf i).toNat)
  case atStart => exact ⟨0, by omega, rfl, hW, B2, fun j hj => by omega⟩
  case round =>
    clear hW B2 c2 t2
    obtain ⟨k, hk, rfl, hW, B2, hno⟩ := hrel
    have HN := Lib.hid hno
    clear hno
    have c2 := B2.cell; have t2 := B2.lt
    by_cases hlt : (k : Int) < b.size
    · have p1 := mul_bd (x := (k : Int)) (y := m) (A := 41) (B := 41) (by omega) (by omega) (by omega) (by omega)
      have htm : ((k : Int) * m).tmod b.size = (k : Int) * m % b.size := Int.tmod_eq_emod_of_nonneg p1.1
      by_cases he : (k : Int) * m % b.size = 1
      · have hk' := invOf_at (by omega) he HN.out
        have HK := Lib.hid hk'
        clear hk'
        go_wp2_with fail
        go_ret
        exact ⟨ret_int (by rw [HK.out]), hW⟩
      · go_wp2_with fail
        go_roundw
        case rel =>
          refine ⟨k + 1, by omega, by go_num, hW, B2, fun j hj => ?_⟩
          rcases Nat.lt_succ_iff_lt_or_eq.1 hj with h | h
          · exact HN.out j h
          · subst h; exact he
        case measure => first | omega | (simp [intOf]; omega)
    · exfalso
      have h := HI.out
      exact HN.out _ (by omega) h.1

set_option maxRecDepth 100000 in
set_option maxHeartbeats 1000000 in
theorem decode_any (q : BV) (b : Bk) (k : Ky) (n i : Int) (w : World) (hS : b.size ∈ primes) (hk : k.Ok b.size) (hn : 0 ≤ n ∧ n < b.size) (hi : 0 ≤ i ∧ i ≤ 20) :
    Calls Try.prog 45 #[bookV q b, .agg #[.int .i64 k.m, .int .i64 k.a, .int .i64 k.s], .int .i64 n, .int .i64 i] w (Ret (.int .i64 (decOf b.size ((invOf b.size k.m : Nat) : Int) k n i)) w) := by
  have hb := size_bd hS
  obtain ⟨m1, m2, a1, a2, s1, s2⟩ := hk
  have HInv := Lib.hid (fun W => inverse_any q b k.m W hS m1 m2)
  have hio := (invOf_ok hS m1 m2).2
  have hd : decOf b.size (invOf b.size k.m) k n i = cLeft b.size k n i * (invOf b.size k.m : Nat) % b.size := rfl
  have hl : cLeft b.size k n i = (n + (b.size - k.a) % b.size + i * (b.size - k.s)) % b.size := rfl
  generalize decOf b.size (invOf b.size k.m) k n i = dv at *
  generalize cLeft b.size k n i = lv at *
  obtain ⟨x1, hx1⟩ : ∃ x1, x1 = (b.size - k.a) % b.size := ⟨_, rfl⟩
  rw [← hx1] at hl
  have b1 : 0 ≤ x1 ∧ x1 < b.size := by rw [hx1]; exact ⟨Int.emod_nonneg _ (by omega), Int.emod_lt_of_pos _ (by omega)⟩
  have p2 := mul_bd (x := i) (y := b.size - k.s) (A := 20) (B := 41) hi.1 hi.2 (by omega) (by omega)
  have htm1 : (b.size - k.a).tmod b.size = x1 := by rw [hx1]; exact Int.tmod_eq_emod_of_nonneg (by omega)
  have htm2 : (n + x1 + i * (b.size - k.s)).tmod b.size = lv := by rw [hl]; exact Int.tmod_eq_emod_of_nonneg (by omega)
  have b2 : 0 ≤ lv ∧ lv < b.size := by rw [hl]; exact ⟨Int.emod_nonneg _ (by omega), Int.emod_lt_of_pos _ (by omega)⟩
  generalize invOf b.size k.m = iv at *
  have p3 := mul_bd (x := lv) (y := (iv : Int)) (A := 41) (B := 41) b2.1 (by omega) (by omega) (by omega)
  have htm3 : (lv * (iv : Int)).tmod b.size = dv := by rw [hd]; exact Int.tmod_eq_emod_of_nonneg p3.1
  have e2 : (n + x1 + i * (b.size - k.s)) % b.size = lv := hl.symm
  have e1 : (b.size - k.a) % b.size = x1 := hx1.symm
  have e3 : lv * (iv : Int) % b.size = dv := hd.symm
  have hS0 : ¬ b.size = 0 := by omega
  clear hS hl hd hx1 m1 m2
  go_enter Try.func45, Try.ntmps45
  go_wp2_with fail
  refine named2 (p := Code.wp _ _ _ _) ?_
  intro W hW B2 B3
  have c2 := B2.cell; have t2 := B2.lt; have c3 := B3.cell; have t3 := B3.lt
  refine Fat.wp_region_tail 22 (by kernel_rfl) (by kernel_rfl) ?_
  simp only [List.take_succ_cons, List.drop_succ_cons, List.take_nil, List.drop_nil]
  repeat (go_big_quiet_step (fail))
  refine wpQuiet_nil ?_
  intro W1 hb1
  replace hW := over hW hb1; (try clear c2 t2 c3 t3); replace B2 := B2.later hb1; replace B3 := B3.later hb1; have c2 := B2.cell; have t2 := B2.lt; have c3 := B3.cell; have t3 := B3.lt; clear hb1 
  go_wp2_with fail
  refine Fat.wp_region_tail 10 (by kernel_rfl) (by kernel_rfl) ?_
  simp only [List.take_succ_cons, List.drop_succ_cons, List.take_nil, List.drop_nil]
  repeat (go_big_quiet_step (exact Calls.regrown_of (HInv.out _)))
  refine wpQuiet_nil ?_
  intro W2 hb2
  replace hW := over hW hb2; clear hb2 B2 c2 t2 B3 c3 t3
  go_wp2_with fail
  go_ret
  exact ⟨rfl, hW⟩

theorem ind_any (q : BV) (b : Bk) (day : Nat) (w : World) (hB : BookAt w q b) (ho : b.Ok) (hd : day < b.days.length) : Calls Try.prog 27 #[bookV q b, .int .i64 day] w (Ret (.int .i64 (indOf b day)) w) := by
  obtain ⟨x, hx⟩ : ∃ x, b.days[day]? = some x := ⟨b.days[day], by simp⟩
  have hxb := ho.days x (List.mem_of_getElem? hx)
  have hi : indOf b day = (x + day) % b.keys.length := by unfold indOf; rw [hx]; rfl
  obtain ⟨p1, o1, ea, hC1⟩ := RowAt.at hB.days hd
  have HC := Lib.hid hC1
  have HX := Lib.hid hx
  obtain ⟨h0, h1, h2, h3, h4, h5, h6, h7, h8⟩ := ho
  have htm : (x + (day : Int)).tmod (b.keys.length : Int) = indOf b day := by rw [hi]; exact Int.tmod_eq_emod_of_nonneg (by omega)
  have e1 : (x + (day : Int)) % (b.keys.length : Int) = indOf b day := hi.symm
  have hk0 : ¬ (b.keys.length : Int) = 0 := by omega
  have r1 : (0 : Int) ≤ (day : Int) := by omega
  have r2 : (day : Int) < (b.days.length : Int) := by omega
  clear hC1 hx hB h0 h7 h8 hi
  generalize indOf b day = iv at *
  go_enter Try.func27, Try.ntmps27
  go_wp2_with fail
  refine named1 (p := Code.wp _ _ _ _) ?_
  intro W hW B2
  have e0 := cells_one (HC.out.later hW) HX.out
  have z1 := block_lt_of_cell e0
  have c2 := B2.cell; have t2 := B2.lt
  clear ea
  refine Fat.wp_region_tail 12 (by kernel_rfl) (by kernel_rfl) ?_
  simp only [List.take_succ_cons, List.drop_succ_cons, List.take_nil, List.drop_nil]
  repeat (go_big_quiet_step (fail))
  refine wpQuiet_nil ?_
  intro W2 hb2
  replace hW := over hW hb2; clear hb2 B2 c2 t2 e0 z1
  go_wp2_with fail
  go_ret
  exact ⟨rfl, hW⟩

theorem sumOf_bd {l : List Int} (h : ∀ x ∈ l, 0 ≤ x ∧ x ≤ 41) (h12 : l.length ≤ 20) : ∀ k, k ≤ l.length → 0 ≤ sumOf (l.take k) 1 ∧ sumOf (l.take k) 1 ≤ 1000 * k := by
  intro k
  induction k with
  | zero => intro _; simp [sumOf]
  | succ k ih =>
    intro hk
    obtain ⟨i1, i2⟩ := ih (by omega)
    have hx : l[k]? = some l[k] := by simp
    have hb := h _ (List.mem_of_getElem? hx)
    rw [List.take_add_one, hx]
    simp only [Option.toList_some]
    rw [sumOf_snoc]
    have hl : (l.take k).length = k := by rw [List.length_take]; omega
    rw [hl]
    have := mul_bd (x := 1 + (k : Int)) (y := l[k]) (A := 20) (B := 41) (by omega) (by omega) hb.1 hb.2
    omega
theorem check_any (q : BV) (b : Bk) (l : List Int) (a : Option Addr) (c : Nat) (w : World) (hS : 13 ≤ b.size ∧ b.size ≤ 41) (hl : IntsAt w a l) (h : ∀ x ∈ l, 0 ≤ x ∧ x ≤ 41) (h20 : l.length ≤ 20) :
    Calls Try.prog 30 #[bookV q b, .slice a l.length c] w (Ret (.int .i64 (chkOf b.size l)) w) := by
  have HL := Lib.hid hl
  have HB := Lib.hid (sumOf_bd h h20)
  have HM := Lib.hid h
  have hS0 : ¬ b.size = 0 := by omega
  clear hl h
  go_enter Try.func30, Try.ntmps30
  go_wp2_with fail
  refine named1 (p := Code.wp _ _ _ _) ?_
  intro W hW B2
  go_loopw [4, 9] (fun s i wr => ∃ k : Nat, k ≤ l.length ∧ i = .int .i64 k ∧ s = .int .i64 (sumOf (l.take k) 1) ∧ Below w.heap.size w wr ∧ Box wr w.heap.size #[.int .i64 b.size, .int .i64 b.words, .slice q.a1 b.keys.length q.c1, .slice q.a2 b.days.length q.c2] 42) (fun _ i _ => l.length - (intOf i).toNat)
  case atStart => exact ⟨0, Nat.zero_le _, rfl, by simp [sumOf], hW, B2⟩
  case round =>
    clear hW B2
    obtain ⟨k, hk, rfl, rfl, hW, B2⟩ := hrel
    have c2 := B2.cell; have t2 := B2.lt
    obtain ⟨s1, s2⟩ := HB.out k hk
    by_cases hlt : k < l.length
    · obtain ⟨p1, o1, rfl, hC1⟩ := RowAt.at HL.out hlt
      obtain ⟨x, hx⟩ : ∃ x, l[k]? = some x := ⟨l[k], by simp⟩
      have e0 := cells_one (hC1.later hW) hx
      have z1 := block_lt_of_cell e0
      have hxb := HM.out x (List.mem_of_getElem? hx)
      have p2 := mul_bd (x := (k : Int) + 1) (y := x) (A := 20) (B := 41) (by omega) (by omega) hxb.1 hxb.2
      have hs : sumOf (l.take (k + 1)) 1 = sumOf (l.take k) 1 + (k + 1) * x := by
        rw [List.take_add_one, hx]
        simp only [Option.toList_some]
        rw [sumOf_snoc, List.length_take, show min k l.length = k by omega]
        rw [Int.add_comm 1 (k : Int)]
      have HSm := Lib.hid hs
      clear hs hx hC1
      generalize sumOf (l.take k) 1 = sv at *
      have r1 : (0 : Int) ≤ (k : Int) := by omega
      have r2 : (k : Int) < (l.length : Int) := by omega
      go_wp2_with fail
      go_roundw
      case rel => exact ⟨k + 1, by omega, by go_num, by rw [HSm.out], hW, B2⟩
      case measure => first | omega | (simp [intOf]; omega)
    · obtain rfl : k = l.length := by omega
      have hce : chkOf b.size l = sumOf (l.take l.length) 1 % b.size := by rw [List.take_of_length_le (Nat.le_refl _)]; rfl
      have HCe := Lib.hid hce
      have htm : (sumOf (l.take l.length) 1).tmod b.size = sumOf (l.take l.length) 1 % b.size := Int.tmod_eq_emod_of_nonneg s1
      clear hce
      generalize sumOf (l.take l.length) 1 = sv at *
      go_wp2_with fail
      go_ret
      exact ⟨ret_int HCe.out.symm, hW⟩

/-! ### A list turned -/
theorem mapIdx_take {g : Nat → Int → Int} {l : List Int} {k : Nat} {x : Int} (hx : l[k]? = some x) : (l.take (k + 1)).mapIdx g = (l.take k).mapIdx g ++ [g k x] := by
  have hk : k < l.length := (List.getElem?_eq_some_iff.1 hx).1
  rw [List.take_add_one, hx]
  simp only [Option.toList_some]
  rw [List.mapIdx_concat, List.length_take, show min k l.length = k by omega]
set_option maxRecDepth 100000 in
set_option maxHeartbeats 1000000 in
theorem turned_any (q : BV) (b : Bk) (x : Ky) (l : List Int) (a : Option Addr) (c : Nat) (w : World) (f : Nat) (g : Nat → Int → Int) (hf : ∀ args w, (callFunc f args).run Try.prog w = .ok (.enter f args) w) (hl : IntsAt w a l) (h20 : l.length ≤ 20)
    (hp : ∀ (i : Nat) n, l[i]? = some n → ∀ W, Calls Try.prog f #[bookV q b, .agg #[.int .i64 x.m, .int .i64 x.a, .int .i64 x.s], .int .i64 n, .int .i64 i] W (Ret (.int .i64 (g i n)) W)) :
    Calls Try.prog 28 #[bookV q b, .agg #[.func (.func f) #[] #[]], .agg #[.int .i64 x.m, .int .i64 x.a, .int .i64 x.s], .slice a l.length c] w (RetRow 3 1 (ivs (l.mapIdx g)) w) := by
  have HL := Lib.hid hl
  have HP := Lib.hid hp
  clear hl hp
  go_enter Try.func28, Try.ntmps28
  go_wp2_with fail
  refine named3 (p := Code.wp _ _ _ _) ?_
  intro W hW B4 B5 B6
  go_loopw [8, 13] (fun v i wr => ∃ k : Nat, k ≤ l.length ∧ i = .int .i64 k ∧ Below w.heap.size w wr ∧ Box wr w.heap.size #[.int .i64 b.size, .int .i64 b.words, .slice q.a1 b.keys.length q.c1, .slice q.a2 b.days.length q.c2] 42 ∧ Box wr (w.heap.size + 1) #[.func (.func f) #[] #[]] 90 ∧ Box wr (w.heap.size + 1 + 1) #[.int .i64 x.m, .int .i64 x.a, .int .i64 x.s] 75 ∧
    Own wr w.heap.size 3 1 v (ivs ((l.take k).mapIdx g))) (fun _ i _ => l.length - (intOf i).toNat)
  case atStart => exact ⟨0, Nat.zero_le _, rfl, hW, B4, B5, B6, Own.nil _ _ _ _⟩
  case round =>
    clear hW B4 B5 B6
    obtain ⟨k, hk, rfl, hW, B4, B5, B6, ho⟩ := hrel
    have HO := Lib.hid ho
    clear ho
    have c4 := B4.cell; have t4 := B4.lt; have c5 := B5.cell; have t5 := B5.lt; have c6 := B6.cell; have t6 := B6.lt
    by_cases hlt : k < l.length
    · obtain ⟨p1, o1, rfl, hC1⟩ := RowAt.at HL.out hlt
      obtain ⟨n, hx⟩ : ∃ n, l[k]? = some n := ⟨l[k], by simp⟩
      have e0 := cells_one (hC1.later hW) hx
      have z1 := block_lt_of_cell e0
      have HX := Lib.hid hx
      clear hx hC1
      have r1 : (0 : Int) ≤ (k : Int) := by omega
      have r2 : (k : Int) < (l.length : Int) := by omega
      go_wp2_with fail
      refine (HP.out k n HX.out _).mono ?_
      rintro e w1 ⟨rfl, hb1⟩
      replace HO := Lib.hid (HO.out.later hb1)
      clear e0 z1
      replace hW := over hW hb1; (try clear c4 t4 c5 t5 c6 t6); replace B4 := B4.later hb1; replace B5 := B5.later hb1; replace B6 := B6.later hb1; have c4 := B4.cell; have t4 := B4.lt; have c5 := B5.cell; have t5 := B5.lt; have c6 := B6.cell; have t6 := B6.lt; clear hb1 
      clear c4 t4 c5 t5 c6 t6
      go_wp2_with (at_builtin; refine named1 (p := wpList _ _ _ _ _) ?_; intro w6 hb6 BN; have hO := HO.out.later hb6; refine wpList_grow rfl (.tmp 18) (.tmp 26) 23 rfl elem_int rfl hO rfl BN rfl (by decide) rfl (n := k) (by simp; omega) (by omega) (by decide) (by have := over hW hb6; exact this.size) ?_; intro a' c' W' hO' hb' hg')
      go_roundw
      case rel =>
        have D4 := B4.later hb6
        have D5 := B5.later hb6
        have D6 := B6.later hb6
        refine ⟨k + 1, by omega, by go_num, (over hW hb6).trans hb', (hg'.block _ D4.lt fun he => own_ne hO D4 (by decide) he.symm).trans D4, (hg'.block _ D5.lt fun he => own_ne hO D5 (by decide) he.symm).trans D5, (hg'.block _ D6.lt fun he => own_ne hO D6 (by decide) he.symm).trans D6, ?_⟩
        rw [mapIdx_take HX.out, ivs, List.map_append]
        exact hO'
      case measure => first | omega | (simp [intOf]; omega)
    · obtain rfl : k = l.length := by omega
      have ho := HO.out
      rw [List.take_of_length_le (Nat.le_refl _)] at ho
      have HO' := Lib.hid ho
      clear ho HO
      go_wp2_with fail
      go_ret
      exact ⟨_, rfl, hW, HO'.out⟩
end Go.Proofs.Ytbphpeoddifkfaa
