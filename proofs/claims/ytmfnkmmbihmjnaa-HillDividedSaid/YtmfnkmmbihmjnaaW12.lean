/- The statements' own helpers: lands that are ready, pairs of stations, lists within lists. -/
import Derived.Test.YtmfnkmmbihmjnaaW11
open Go.RowKit
namespace Go.Proofs.Ytmfnkmmbihmjnaa
open Go.Hill

def readyB (L : Land) : Bool := thinB L && L.chk == 0 && decide (1 < L.st.length)

set_option maxRecDepth 100000 in
theorem ready_any (q : LV) (L : Land) (w : World) (hL : LandAt w q L) (hs : Sane L) :
    Calls Try.prog 30 #[.agg #[.slice q.a1 L.st.length q.c1, .slice q.a2 L.rd.length q.c2, .slice q.a3 L.cs.length q.c3, .slice q.a4 L.sn.length q.c4]] w (Ret (.bool (readyB L)) w) := by
  have HL := Lib.hid hL
  have HK : Hid (readyB L = (thinB L && L.chk == 0 && decide (1 < L.st.length))) := rfl
  have l1 := hs.l1
  have HS := Lib.hid hs
  clear hL hs
  go_enter Try.func30, Try.ntmps30
  go_wp2_with fail
  refine named1 (p := fun W => Calls _ _ _ W _) ?_
  intro W hW B1
  refine (thin_any q L W (HL.out.later hW) HS.out).mono ?_
  rintro e w1 ⟨rfl, hb1⟩
  replace hW := over hW hb1
  (try clear c1 t1); replace B1 := B1.later hb1; have c1 := B1.cell; have t1 := B1.lt
  clear hb1
  obtain ⟨tb, htb⟩ : ∃ b, b = thinB L := ⟨_, rfl⟩
  rw [← htb]
  have HT := Lib.hid htb
  clear htb
  cases tb with
  | false =>
    go_wp2_with fail
    go_ret
    exact ⟨ret_bool (by rw [HK.out, ← HT.out]; rfl), hW⟩
  | true =>
    go_wp2_with fail
    refine (lfault_any q L _ (HL.out.later hW) (thin_small HT.out.symm)).mono ?_
    rintro e w2 ⟨rfl, hb2⟩
    replace hW := over hW hb2
    (try clear c1 t1); replace B1 := B1.later hb2; have c1 := B1.cell; have t1 := B1.lt
    clear hb2
    by_cases hc : L.chk = 0
    · have hcb : (L.chk == 0) = true := by simpa using hc
      have HC := Lib.hid hcb
      clear hc
      go_wp2_with fail
      go_ret
      exact ⟨ret_bool (by rw [HK.out, ← HT.out, HC.out]; simp; omega), hW⟩
    · have hcb : (L.chk == 0) = false := by simpa using hc
      have HC := Lib.hid hcb
      clear hc
      go_wp2_with fail
      go_ret
      exact ⟨ret_bool (by rw [HK.out, ← HT.out, HC.out]; rfl), hW⟩

/-- Two different stations, by a number. -/
def pairA (n c : Nat) : Nat := c % n
def pairB (n c : Nat) : Nat := (c % n + 1 + c / 8 % (n - 1)) % n
theorem pair_spec {n c : Nat} (h : 1 < n) : pairA n c < n ∧ pairB n c < n ∧ pairA n c ≠ pairB n c := by
  unfold pairA pairB
  have h1 := Nat.mod_lt c (show 0 < n by omega)
  have h2 := Nat.mod_lt (c / 8) (show 0 < n - 1 by omega)
  generalize c % n = x at *
  generalize c / 8 % (n - 1) = y at *
  refine ⟨h1, Nat.mod_lt _ (by omega), ?_⟩
  by_cases h3 : x + 1 + y < n
  · rw [Nat.mod_eq_of_lt h3]; omega
  · rw [Nat.mod_eq_sub_mod (by omega), Nat.mod_eq_of_lt (by omega)]; omega

theorem pair_any (q : LV) (n n2 n3 n4 c : Nat) (w : World) (hn : 1 < n) (hn9 : n ≤ 9) (hc : c < 256) :
    Calls Try.prog 31 #[.agg #[.slice q.a1 n q.c1, .slice q.a2 n2 q.c2, .slice q.a3 n3 q.c3, .slice q.a4 n4 q.c4], .int .u8 c] w
      (Ret (.tuple #[.int .i64 (pairA n c : Nat), .int .i64 (pairB n c : Nat)]) w) := by
  go_enter Try.func31, Try.ntmps31
  go_wp2_with fail
  refine named1 (p := Code.wp _ _ _ _) ?_
  intro W hW B2
  have c2 := B2.cell; have t2 := B2.lt
  have hm1 : ((c % n : Nat) : Int) = (c : Int) % (n : Int) := by simp
  have hm2 : ((c / 8 % (n - 1) : Nat) : Int) = (c : Int) / 8 % ((n : Int) - 1) := by
    rw [Int.natCast_emod, Int.natCast_ediv, Int.natCast_sub (by omega)]; rfl
  have hm3 := Nat.mod_lt c (show 0 < n by omega)
  have hm4 := Nat.mod_lt (c / 8) (show 0 < n - 1 by omega)
  have hm5 : (0 : Int) ≤ (c : Int) % (n : Int) ∧ (c : Int) % (n : Int) < 9 := by omega
  have hm6 : (0 : Int) ≤ (c : Int) / 8 % ((n : Int) - 1) ∧ (c : Int) / 8 % ((n : Int) - 1) < 9 := by omega
  have hz1 : IntKind.i64.wrap (c : Int) = (c : Int) := IntWalk.i64_in _ (by omega)
  refine Fat.wp_region_tail 14 (by kernel_rfl) (by kernel_rfl) ?_
  simp only [List.take_succ_cons, List.drop_succ_cons, List.take_nil, List.drop_nil]
  repeat (go_big_quiet_step (fail))
  refine wpQuiet_nil ?_
  intro w1 hb1
  replace hW := over hW hb1
  go_wp2_with fail
  have hA : ((pairA n c : Nat) : Int) = (c : Int) % (n : Int) := by unfold pairA; exact hm1
  have hB : ((pairB n c : Nat) : Int) = ((c : Int) % (n : Int) + 1 + (c : Int) / 8 % ((n : Int) - 1)) % (n : Int) := by
    unfold pairB; rw [Int.natCast_emod, Int.natCast_add, Int.natCast_add, hm1, hm2]; rfl
  rw [hA, hB]
  go_ret2
  exact ⟨rfl, hW⟩

/-- All numbers of one list are in another one. -/
def withinB (l m : List Int) : Bool := l.all fun x => m.contains x
theorem withinB_true {l m : List Int} (h : ∀ x, x ∈ l → m.contains x = true) : withinB l m = true := by
  simpa [withinB] using h
theorem withinB_false {l m : List Int} {k : Nat} {x : Int} (h : l[k]? = some x) (hm : m.contains x = false) : withinB l m = false := by
  have := List.mem_of_getElem? h
  have hm' : ¬ x ∈ m := by simpa using hm
  simp only [withinB, List.all_eq_false]
  exact ⟨x, this, by simpa using hm'⟩
theorem contains_take_succ {m : List Int} {j : Nat} {x y : Int} (h : m[j]? = some y) : (m.take (j + 1)).contains x = ((m.take j).contains x || y == x) := by
  rw [List.take_add_one, h]
  have e : (y == x) = decide (x = y) := by
    by_cases e : y = x
    · subst e; simp
    · have e' : ¬ x = y := fun h => e h.symm
      simp [e, e']
  rw [e]; simp

set_option maxRecDepth 100000 in
theorem within_any2 (l m : List Int) (a b : Option Addr) (c d : Nat) (w : World) (hl : IntsAt w a l) (hm : IntsAt w b m) (l1 : l.length ≤ 1000) (l2 : m.length ≤ 1000) :
    Calls Try.prog 34 #[.slice a l.length c, .slice b m.length d] w (Ret (.bool (withinB l m)) w) := by
  have HA := Lib.hid hl
  have HB := Lib.hid hm
  obtain ⟨r, hr⟩ : ∃ r, r = withinB l m := ⟨_, rfl⟩
  rw [← hr]
  have HR := Lib.hid hr
  clear hl hm hr
  go_enter Try.func34, Try.ntmps34
  go_wp2_with fail
  go_loopw [5] (fun i wr => ∃ k : Nat, k ≤ l.length ∧ i = .int .i64 k ∧ Below w.heap.size w wr ∧ ∀ j x, j < k → l[j]? = some x → m.contains x = true) (fun i _ => l.length - (intOf i).toNat)
  case atStart => exact ⟨0, Nat.zero_le _, rfl, Below.refl _ _, fun j _ hj => absurd hj (Nat.not_lt_zero _)⟩
  case round =>
    obtain ⟨k, hk, rfl, hb, hp⟩ := hrel
    have HP := Lib.hid hp
    clear hp
    by_cases hlt : k < l.length
    · obtain ⟨p1, o1, rfl, hC1⟩ := RowAt.at HA.out hlt
      obtain ⟨x, hx⟩ : ∃ x, l[k]? = some x := ⟨l[k], by simp⟩
      have e0 := cells_one (hC1.later hb) hx
      have HX := Lib.hid hx
      have HC := Lib.hid hC1
      clear hx hC1 e0
      have r1 : (0 : Int) ≤ (k : Int) := by omega
      have r2 : (k : Int) < (l.length : Int) := by omega
      go_wp2_with fail
      go_loopw [6, 7] (fun h i wi => ∃ (j : Nat) (hs : Bool), j ≤ m.length ∧ h = .bool hs ∧ i = .int .i64 j ∧ Below w.heap.size w wi ∧ hs = (m.take j).contains x) (fun _ i _ => m.length - (intOf i).toNat)
      case atStart => exact ⟨0, false, Nat.zero_le _, rfl, rfl, hb, rfl⟩
      case round =>
        obtain ⟨j, hs, hj, rfl, rfl, hbi, hq⟩ := hrel
        have HQ := Lib.hid hq
        clear hq
        by_cases hlj : j < m.length
        · obtain ⟨p2, o2, rfl, hC2⟩ := RowAt.at HB.out hlj
          obtain ⟨y, hy⟩ : ∃ y, m[j]? = some y := ⟨m[j], by simp⟩
          have e0 := cells_one (HC.out.later hbi) HX.out
          have e1 := cells_one (hC2.later hbi) hy
          have z1 := block_lt_of_cell e0
          have z2 := block_lt_of_cell e1
          have HY := Lib.hid hy
          clear hy hC2
          have r3 : (0 : Int) ≤ (j : Int) := by omega
          have r4 : (j : Int) < (m.length : Int) := by omega
          obtain ⟨q, hq⟩ : ∃ q, q = (y == x) := ⟨_, rfl⟩
          have HE := Lib.hid hq
          replace hq := hq.symm
          cases hs with
          | false =>
            go_wp2_with fail
            refine Fat.wp_region_tail 13 (by kernel_rfl) (by kernel_rfl) ?_
            simp only [List.take_succ_cons, List.drop_succ_cons, List.take_nil, List.drop_nil]
            repeat (go_big_quiet_step (fail))
            refine wpQuiet_nil ?_
            intro w1 hb1
            replace hbi := over hbi hb1
            clear hb1
            go_wp2_with fail
            go_roundw
            case rel => exact ⟨j + 1, q, by omega, by first | rfl | simp only [hq], by go_num, hbi, by rw [contains_take_succ HY.out, ← HQ.out, ← HE.out]; rfl⟩
            case measure => simp [intOf]; omega
          | true =>
            go_wp2_with fail
            refine Fat.wp_region_tail 13 (by kernel_rfl) (by kernel_rfl) ?_
            simp only [List.take_succ_cons, List.drop_succ_cons, List.take_nil, List.drop_nil]
            repeat (go_big_quiet_step (fail))
            refine wpQuiet_nil ?_
            intro w1 hb1
            replace hbi := over hbi hb1
            clear hb1
            go_wp2_with fail
            go_roundw
            case rel => exact ⟨j + 1, true, by omega, rfl, by go_num, hbi, by rw [contains_take_succ HY.out, ← HQ.out]; rfl⟩
            case measure => simp [intOf]; omega
        · have hqm : hs = m.contains x := by
            have h1 := HQ.out
            rw [List.take_of_length_le (by omega)] at h1
            exact h1
          have HM := Lib.hid hqm
          clear hqm
          cases hs with
          | false =>
            go_wp2_with fail
            go_ret
            exact ⟨ret_bool (by rw [HR.out]; exact (withinB_false HX.out HM.out.symm).symm), hbi⟩
          | true =>
            go_wp2_with fail
            go_roundw
            case rel => exact ⟨k + 1, by omega, by go_num, hbi, fun j' x' hj' hx' => by
                by_cases e : j' < k
                · exact HP.out j' x' e hx'
                · have : j' = k := by omega
                  subst this
                  have h1 := HX.out
                  rw [hx'] at h1
                  cases h1
                  exact HM.out.symm⟩
            case measure => simp [intOf]; omega
    · go_wp2_with fail
      go_ret
      refine ⟨ret_bool ?_, hb⟩
      rw [HR.out]
      refine (withinB_true ?_).symm
      intro x hx
      obtain ⟨j, hj⟩ := List.getElem?_of_mem hx
      have h2 : j < l.length := by
        have := List.getElem?_eq_some_iff.1 hj
        exact this.1
      exact HP.out j x (by omega) hj
end Go.Proofs.Ytmfnkmmbihmjnaa
