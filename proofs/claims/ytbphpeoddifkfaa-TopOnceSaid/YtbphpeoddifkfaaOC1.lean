/- Layer 4, the walks: what a book may hold (the statement's words for it). -/
import Derived.Test.YtbphpeoddifkfaaOAll
open Go.RowKit
namespace Go.Proofs.Ytbphpeoddifkfaa
open Go.Once

theorem rin_any (n a b : Int) (w : World) : Calls Try.prog 19 #[.int .i64 n, .int .i64 a, .int .i64 b] w (Ret (.bool (inB n a b)) w) := by
  by_cases h : a ≤ n
  · have hd : decide (a ≤ n) = true := by simpa using h
    go_enter Try.func19, Try.ntmps19
    go_wp2
    go_ret
    exact ⟨ret_bool (by simp [inB]; omega), Below.refl _ _⟩
  · have hd : decide (a ≤ n) = false := by simpa using h
    go_enter Try.func19, Try.ntmps19
    go_wp2
    go_ret
    exact ⟨ret_bool (by simp [inB]; omega), Below.refl _ _⟩
theorem pin_any (n a b : Int) (w : World) : Calls Try.prog 21 #[.int .i64 n, .int .i64 a, .int .i64 b] w (Ret (.bool (inB n a b)) w) := by
  by_cases h : a ≤ n
  · have hd : decide (a ≤ n) = true := by simpa using h
    go_enter Try.func21, Try.ntmps21
    go_wp2
    go_ret
    exact ⟨ret_bool (by simp [inB]; omega), Below.refl _ _⟩
  · have hd : decide (a ≤ n) = false := by simpa using h
    go_enter Try.func21, Try.ntmps21
    go_wp2
    go_ret
    exact ⟨ret_bool (by simp [inB]; omega), Below.refl _ _⟩
theorem cwithin_any (n a b : Int) (w : World) : Calls Try.prog 44 #[.int .i64 n, .int .i64 a, .int .i64 b] w (Ret (.bool (inB n a b)) w) := by
  by_cases h : a ≤ n
  · have hd : decide (a ≤ n) = true := by simpa using h
    go_enter Try.func44, Try.ntmps44
    go_wp2
    go_ret
    exact ⟨ret_bool (by simp [inB]; omega), Below.refl _ _⟩
  · have hd : decide (a ≤ n) = false := by simpa using h
    go_enter Try.func44, Try.ntmps44
    go_wp2
    go_ret
    exact ⟨ret_bool (by simp [inB]; omega), Below.refl _ _⟩
theorem pwithin_any (n a b : Int) (w : World) : Calls Try.prog 71 #[.int .i64 n, .int .i64 a, .int .i64 b] w (Ret (.bool (inB n a b)) w) := by
  by_cases h : a ≤ n
  · have hd : decide (a ≤ n) = true := by simpa using h
    go_enter Try.func71, Try.ntmps71
    go_wp2
    go_ret
    exact ⟨ret_bool (by simp [inB]; omega), Below.refl _ _⟩
  · have hd : decide (a ≤ n) = false := by simpa using h
    go_enter Try.func71, Try.ntmps71
    go_wp2
    go_ret
    exact ⟨ret_bool (by simp [inB]; omega), Below.refl _ _⟩

theorem primes_at : ∀ k, k < 8 → ∃ x : Int, primes[k]? = some x ∧ (#[.int .i64 13, .int .i64 17, .int .i64 19, .int .i64 23, .int .i64 29, .int .i64 31, .int .i64 37, .int .i64 41] : Array Value)[k]? = some (.int .i64 x) := by
  intro k hk
  rcases k with _ | _ | _ | _ | _ | _ | _ | _ | k
  all_goals first
    | exact ⟨_, rfl, rfl⟩
    | omega

theorem thin4_any (q : BV) (b : Bk) (w : World) (hs : BookSane b) : Calls Try.prog 4 #[bookV q b] w (Ret (.bool (decide (b.keys.length ≤ 8) && decide (b.days.length ≤ 11))) w) := by
  obtain ⟨l1, l2⟩ := hs
  go_enter Try.func4, Try.ntmps4
  go_wp2_with fail
  all_goals
    go_ret
    exact ⟨ret_bool (by rw [Bool.eq_iff_iff]; simp; omega), (by repeat (first | exact Below.refl _ _ | refine al ?_ _ | refine Below.drew ?_ | refine sc ?_ (by simp) _))⟩

theorem rprime_any (n : Int) (w : World) : Calls Try.prog 18 #[.int .i64 n] w (Ret (.bool (primes.contains n)) w) := by
  go_enter Try.func18, Try.ntmps18
  go_wp2_with fail
  refine named1 (p := Code.wp _ _ _ _) ?_
  intro W hW B3
  go_loopw [4] (fun i wr => ∃ k : Nat, k ≤ 8 ∧ i = .int .i64 k ∧ Below W.heap.size W wr ∧ ∀ j x, j < k → primes[j]? = some x → ¬ x = n) (fun i _ => 8 - (intOf i).toNat)
  case atStart => exact ⟨0, Nat.zero_le _, rfl, Below.refl _ _, fun j x h => by omega⟩
  case round =>
    obtain ⟨k, hk, rfl, hb, hp⟩ := hrel
    have HP := Lib.hid hp
    clear hp
    replace B3 := B3.later hb
    have t3 := B3.lt
    by_cases hlt : k < 8
    · obtain ⟨x, hx, hc⟩ := primes_at k hlt
      have e0 := (B3.cell k).trans hc
      have HX := Lib.hid hx
      clear hx hc B3
      have r1 : (0 : Int) ≤ (k : Int) := by omega
      have r2 : (k : Int) < 8 := by omega
      by_cases hxn : x = n
      · subst hxn
        go_wp2_with fail
        go_ret
        exact ⟨ret_bool (by have := List.mem_of_getElem? HX.out; simpa using this), over hW hb⟩
      · go_wp2_with fail
        go_roundw
        case rel =>
          refine ⟨k + 1, by omega, by go_num, hb, fun j y hj hy => ?_⟩
          rcases Nat.lt_succ_iff_lt_or_eq.1 hj with h | h
          · exact HP.out j y h hy
          · subst h; rw [HX.out] at hy; cases hy; exact hxn
        case measure => first | omega | (simp [intOf]; omega)
    · go_wp2_with fail
      go_ret
      refine ⟨ret_bool ?_, over hW hb⟩
      symm
      rw [← Bool.not_eq_true]
      intro h
      have hm : n ∈ primes := by simpa using h
      obtain ⟨j, hj⟩ := List.getElem?_of_mem hm
      have hj8 : j < 8 := (List.getElem?_eq_some_iff.1 hj).1
      exact HP.out j n (by omega) hj rfl

def kyB (S : Int) (k : Ky) : Bool := inB k.m 1 (S - 1) && inB k.a 0 (S - 1) && inB k.s 0 (S - 1)
theorem kyB_ok {S : Int} {k : Ky} (h : kyB S k = true) : k.Ok S := by
  unfold kyB inB at h
  simp only [Bool.and_eq_true, decide_eq_true_eq] at h
  exact ⟨by omega, by omega, by omega, by omega, by omega, by omega⟩
theorem kyB_of {S : Int} {k : Ky} (h : k.Ok S) : kyB S k = true := by
  obtain ⟨h1, h2, h3, h4, h5, h6⟩ := h
  unfold kyB inB
  simp only [Bool.and_eq_true, decide_eq_true_eq]
  omega
theorem rkey_any (q : BV) (b : Bk) (k : Ky) (w : World) (hS : 13 ≤ b.size ∧ b.size ≤ 41) : Calls Try.prog 20 #[bookV q b, .agg #[.int .i64 k.m, .int .i64 k.a, .int .i64 k.s]] w (Ret (.bool (kyB b.size k)) w) := by
  have HK : Hid (kyB b.size k = (inB k.m 1 (b.size - 1) && inB k.a 0 (b.size - 1) && inB k.s 0 (b.size - 1))) := rfl
  go_enter Try.func20, Try.ntmps20
  go_wp2_with fail
  refine named2 (p := fun W => Calls _ _ _ W _) ?_
  intro W hW B2 B3
  have c2 := B2.cell; have t2 := B2.lt; have c3 := B3.cell; have t3 := B3.lt
  go_wp2_with (go_at_call 19; refine (rin_any _ _ _ _).mono ?_; rintro e w' ⟨rfl, hb⟩; replace hW := over hW hb; (try clear c2 t2 c3 t3); replace B2 := B2.later hb; replace B3 := B3.later hb; have c2 := B2.cell; have t2 := B2.lt; have c3 := B3.cell; have t3 := B3.lt; clear hb)
  all_goals
    go_ret
    exact ⟨ret_bool (by rw [HK.out]; simp_all), hW⟩

set_option maxRecDepth 100000 in
set_option maxHeartbeats 4000000 in
theorem fault4_any (q : BV) (b : Bk) (w : World) (hB : BookAt w q b) (l1 : b.keys.length ≤ 1000) (l2 : b.days.length ≤ 1000) :
    Calls Try.prog 5 #[bookV q b] w (RetP (fun v _ => ∃ e : Int, v = .int .i64 e ∧ (e = 0 → b.Ok)) w) := by
  have HB := Lib.hid hB
  clear hB
  have HNo : Hid (∀ e : Int, ¬ e = 0 → (e = 0 → b.Ok)) := fun _ h h' => absurd h' h
  go_enter Try.func5, Try.ntmps5
  by_cases hv : b.keys.length ≤ 5 ∧ b.days.length ≤ 8
  case neg =>
    go_wp2_with fail
    all_goals first
      | (exfalso; omega)
      | (go_ret; exact ⟨_, rfl, (by repeat (first | exact Below.refl _ _ | refine al ?_ _ | refine Below.drew ?_ | refine sc ?_ (by simp) _)), _, rfl, HNo.out _ (by decide)⟩)
  obtain ⟨v1, v2⟩ := hv
  have d1 : decide ((5 : Int) < (b.keys.length : Int)) = false := by simp; omega
  have d2 : decide ((8 : Int) < (b.days.length : Int)) = false := by simp; omega
  go_wp2_with fail
  refine named1 (p := fun W => Calls _ _ _ W _) ?_
  intro W hW B1
  have c1 := B1.cell; have t1 := B1.lt
  clear d1 d2
  refine (rprime_any _ _).mono ?_
  rintro e w1 ⟨rfl, hb1⟩
  replace hW := over hW hb1; (try clear c1 t1); replace B1 := B1.later hb1; have c1 := B1.cell; have t1 := B1.lt; clear hb1 
  by_cases hpr : b.size ∈ primes
  case neg =>
    have hp : primes.contains b.size = false := by simpa using hpr
    rw [hp]
    clear hp hpr
    go_wp2_with fail
    go_ret
    exact ⟨_, rfl, hW, _, rfl, HNo.out _ (by decide)⟩
  have hp : primes.contains b.size = true := by simpa using hpr
  have hS := size_bd hpr
  have HPr := Lib.hid hpr
  rw [hp]
  clear hp hpr
  go_wp2_with fail
  refine (rin_any _ _ _ _).mono ?_
  rintro e w2 ⟨rfl, hb2⟩
  replace hW := over hW hb2; (try clear c1 t1); replace B1 := B1.later hb2; have c1 := B1.cell; have t1 := B1.lt; clear hb2 
  cases hw : inB b.words 1 b.size with
  | false =>
    clear hw
    go_wp2_with fail
    go_ret
    exact ⟨_, rfl, hW, _, rfl, HNo.out _ (by decide)⟩
  | true =>
  have HWd := Lib.hid hw
  clear hw
  by_cases hz : b.keys.length = 0 ∨ b.days.length = 0
  case pos =>
    have hor : ((b.keys.length : Int) == 0) = true ∨ (((b.keys.length : Int) == 0) = false ∧ ((b.days.length : Int) == 0) = true) := by
      by_cases h0 : b.keys.length = 0
      · exact .inl (beq_iff_eq.2 (by omega))
      · exact .inr ⟨beq_eq_false_iff_ne.2 (by omega), beq_iff_eq.2 (by omega)⟩
    clear hz
    rcases hor with h | ⟨h, h'⟩
    all_goals
      go_wp2_with fail
      go_ret
      exact ⟨_, rfl, hW, _, rfl, HNo.out _ (by decide)⟩
  have z1 : ((b.keys.length : Int) == 0) = false := by simp; intro h; simp [h] at hz
  have z2 : ((b.days.length : Int) == 0) = false := by simp; intro h; simp [h] at hz
  have HZ := Lib.hid hz
  clear hz
  go_wp2_with fail
  clear z1 z2
  go_loopw [3] (fun i wr => ∃ k : Nat, k ≤ b.keys.length ∧ i = .int .i64 k ∧ Below w.heap.size w wr ∧ Box wr w.heap.size #[.int .i64 b.size, .int .i64 b.words, .slice q.a1 b.keys.length q.c1, .slice q.a2 b.days.length q.c2] 25 ∧ ∀ x ∈ b.keys.take k, x.Ok b.size) (fun i _ => b.keys.length - (intOf i).toNat)
  case atStart => exact ⟨0, Nat.zero_le _, rfl, hW, B1, by simp⟩
  case round =>
    clear hW B1 c1 t1
    obtain ⟨k, hk, rfl, hW, B1, hp⟩ := hrel
    have HP := Lib.hid hp
    clear hp
    have c1 := B1.cell; have t1 := B1.lt
    by_cases hlt : k < b.keys.length
    · obtain ⟨b3, o3, ea, hC⟩ := RowAt.at HB.out.keys hlt
      obtain ⟨x, hx⟩ : ∃ x, b.keys[k]? = some x := ⟨b.keys[k], by simp⟩
      obtain ⟨e0, e1, e2⟩ := cells_ky (hC.later hW) hx
      have z1 := block_lt_of_cell e0
      have HX := Lib.hid hx
      rw [ea] at c1
      clear hx hC
      have r1 : (0 : Int) ≤ (k : Int) := by omega
      have r2 : (k : Int) < (b.keys.length : Int) := by omega
      have HK := Lib.hid (fun W => rkey_any q b x W hS)
      unfold bookV at HK
      rw [ea] at HK
      clear ea
      go_wp2_with fail
      refine Fat.wp_region_tail 8 (by kernel_rfl) (by kernel_rfl) ?_
      simp only [List.take_succ_cons, List.drop_succ_cons, List.take_nil, List.drop_nil]
      repeat (go_big_quiet_step (exact Calls.regrown_of (HK.out _)))
      refine wpQuiet_nil ?_
      intro w6 hb6
      replace hW := over hW hb6; (try clear c1 t1); replace B1 := B1.later hb6; have c1 := B1.cell; have t1 := B1.lt; clear hb6 
      clear e0 e1 e2 z1 HK
      obtain ⟨kv, hkv⟩ : ∃ kv, kv = kyB b.size x := ⟨_, rfl⟩
      rw [← hkv]
      cases kv with
      | false =>
        clear hkv
        go_wp2_with fail
        go_ret
        exact ⟨_, rfl, hW, _, rfl, HNo.out _ (by decide)⟩
      | true =>
        have HKv := Lib.hid hkv
        clear hkv
        go_wp2_with fail
        go_roundw
        case rel =>
          refine ⟨k + 1, by omega, by go_num, hW, B1, fun y hy => ?_⟩
          rw [List.take_add_one, HX.out] at hy
          rcases List.mem_append.1 hy with hy | hy
          · exact HP.out y hy
          · simp at hy; subst hy; exact kyB_ok HKv.out.symm
        case measure => first | omega | (simp [intOf]; omega)
    · obtain rfl : k = b.keys.length := by omega
      have HKs : Hid (∀ x ∈ b.keys, x.Ok b.size) := by
        have h := HP.out
        rw [List.take_of_length_le (Nat.le_refl _)] at h
        exact h
      clear HP hlt hk
      go_wp2_with fail
      go_loopw [4] (fun i wr => ∃ k : Nat, k ≤ b.days.length ∧ i = .int .i64 k ∧ Below w.heap.size w wr ∧ Box wr w.heap.size #[.int .i64 b.size, .int .i64 b.words, .slice q.a1 b.keys.length q.c1, .slice q.a2 b.days.length q.c2] 25 ∧ ∀ x ∈ b.days.take k, 0 ≤ x ∧ x < b.keys.length) (fun i _ => b.days.length - (intOf i).toNat)
      case atStart => exact ⟨0, Nat.zero_le _, rfl, hW, B1, by simp⟩
      case round =>
        clear hW B1 c1 t1
        obtain ⟨k, hk, rfl, hW, B1, hp⟩ := hrel
        have HP := Lib.hid hp
        clear hp
        have c1 := B1.cell; have t1 := B1.lt
        by_cases hlt : k < b.days.length
        · obtain ⟨b3, o3, ea, hC⟩ := RowAt.at HB.out.days hlt
          obtain ⟨x, hx⟩ : ∃ x, b.days[k]? = some x := ⟨b.days[k], by simp⟩
          have e0 := cells_one (hC.later hW) hx
          have z1 := block_lt_of_cell e0
          have HX := Lib.hid hx
          rw [ea] at c1 B1
          clear hx hC
          have r1 : (0 : Int) ≤ (k : Int) := by omega
          have r2 : (k : Int) < (b.days.length : Int) := by omega
          have HEa := Lib.hid ea
          clear ea
          go_wp2_with fail
          refine Fat.wp_region_tail 11 (by kernel_rfl) (by kernel_rfl) ?_
          simp only [List.take_succ_cons, List.drop_succ_cons, List.take_nil, List.drop_nil]
          repeat (go_big_quiet_step (exact Calls.regrown_of (rin_any _ _ _ _)))
          refine wpQuiet_nil ?_
          intro w6 hb6
          replace hW := over hW hb6; (try clear c1 t1); replace B1 := B1.later hb6; have c1 := B1.cell; have t1 := B1.lt; clear hb6 
          clear e0 z1
          obtain ⟨kv, hkv⟩ : ∃ kv, kv = inB x 0 (b.keys.length - 1) := ⟨_, rfl⟩
          rw [← hkv]
          cases kv with
          | false =>
            clear hkv
            go_wp2_with fail
            go_ret
            exact ⟨_, rfl, hW, _, rfl, HNo.out _ (by decide)⟩
          | true =>
            have HKv := Lib.hid hkv
            clear hkv
            rw [← HEa.out] at B1
            go_wp2_with fail
            go_roundw
            case rel =>
              refine ⟨k + 1, by omega, by go_num, hW, B1, fun y hy => ?_⟩
              rw [List.take_add_one, HX.out] at hy
              rcases List.mem_append.1 hy with hy | hy
              · exact HP.out y hy
              · simp at hy; subst hy
                have h := HKv.out
                simp [inB] at h
                omega
            case measure => first | omega | (simp [intOf]; omega)
        · obtain rfl : k = b.days.length := by omega
          have hDs : ∀ x ∈ b.days, 0 ≤ x ∧ x < b.keys.length := by
            have h := HP.out
            rw [List.take_of_length_le (Nat.le_refl _)] at h
            exact h
          have hZ := HZ.out
          have hWd := HWd.out
          simp [inB] at hWd
          have HOk : Hid b.Ok := ⟨HPr.out, hWd.1, hWd.2, by omega, v1, by omega, v2, HKs.out, hDs⟩
          clear HP hDs hZ hWd
          go_wp2_with fail
          go_ret
          exact ⟨_, rfl, hW, _, rfl, fun _ => HOk.out⟩
end Go.Proofs.Ytbphpeoddifkfaa
