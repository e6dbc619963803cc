/- The statements' own helpers: errors, lists compared, lands that are thin. -/
import Derived.Test.YtmfnkmmbihmjnaaW9
open Go.RowKit
namespace Go.Proofs.Ytmfnkmmbihmjnaa
open Go.Hill

/-- Lengths that no counter outgrows. -/
structure Small (L : Land) : Prop where
  l1 : L.st.length ≤ 1000
  l2 : L.rd.length ≤ 1000
  l3 : L.cs.length ≤ 1000
  l4 : L.sn.length ≤ 1000
  l5 : ∀ c ∈ L.cs, c.length ≤ 1000

theorem lfault_any (q : LV) (L : Land) (w : World) (hL : LandAt w q L) (hs : Small L) :
    Calls Try.prog 22 #[.agg #[.slice q.a1 L.st.length q.c1, .slice q.a2 L.rd.length q.c2, .slice q.a3 L.cs.length q.c3, .slice q.a4 L.sn.length q.c4]] w (Ret (.int .i64 L.chk) w) := by
  go_enter Try.func22, Try.ntmps22
  go_wp2_with fail
  refine named1 (p := fun W => Calls _ _ _ W _) ?_
  intro W hW B1
  refine (fault_any q L W (hL.later hW) hs.l1 hs.l2 hs.l3 hs.l4 hs.l5).mono ?_
  rintro e w1 ⟨rfl, hb1⟩
  replace hW := over hW hb1
  go_wp2_with fail
  go_ret
  exact ⟨rfl, hW⟩

/-- The error of a land with stations, a case and an hour. -/
def Land.ask (L : Land) (fr to k t : Int) : Int := if L.chk = 0 then askd L.st.length L.cs.length L.sn.length fr to k t else L.chk

theorem lasked_any (q : LV) (L : Land) (fr to k t : Int) (w : World) (hL : LandAt w q L) (hs : Small L) :
    Calls Try.prog 26 #[.agg #[.slice q.a1 L.st.length q.c1, .slice q.a2 L.rd.length q.c2, .slice q.a3 L.cs.length q.c3, .slice q.a4 L.sn.length q.c4], .int .i64 fr, .int .i64 to, .int .i64 k, .int .i64 t] w
      (Ret (.int .i64 (Land.ask L fr to k t)) w) := by
  have HK : Hid (Land.ask L fr to k t = if L.chk = 0 then askd L.st.length L.cs.length L.sn.length fr to k t else L.chk) := rfl
  have HL := Lib.hid hL
  clear hL
  go_enter Try.func26, Try.ntmps26
  go_wp2_with fail
  refine named1 (p := fun W => Calls _ _ _ W _) ?_
  intro W hW B5
  refine (lfault_any q L W (HL.out.later hW) hs).mono ?_
  rintro e w1 ⟨rfl, hb1⟩
  replace hW := over hW hb1
  (try clear c5 t5); replace B5 := B5.later hb1; have c5 := B5.cell; have t5 := B5.lt
  clear hb1
  by_cases hc : L.chk = 0
  · rw [hc]
    have HC := Lib.hid hc
    clear hc
    go_wp2_with fail
    refine (rasked_any q _ _ _ _ fr to k t _ hs.l1 hs.l3 hs.l4).mono ?_
    rintro e w2 ⟨rfl, hb2⟩
    replace hW := over hW hb2
    go_wp2_with fail
    go_ret
    exact ⟨ret_int (by rw [HK.out, if_pos HC.out]), hW⟩
  · have hcb : (L.chk != 0) = true := by simpa using hc
    have HC := Lib.hid hc
    clear hc
    go_wp2_with fail
    go_ret
    exact ⟨ret_int (by rw [HK.out, if_neg HC.out]), hW⟩

/-- A list of ints in memory. -/
abbrev IntsAt (W : World) (a : Option Addr) (l : List Int) : Prop := RowAt W a 1 (l.map fun n => [Value.int .i64 n])

theorem take_eq_succ {α : Type} {l m : List α} {k : Nat} {x : α} (h : l.take k = m.take k) (h1 : l[k]? = some x) (h2 : m[k]? = some x) : l.take (k + 1) = m.take (k + 1) := by
  obtain ⟨k1, rfl⟩ := List.getElem?_eq_some_iff.1 h1
  obtain ⟨k2, e⟩ := List.getElem?_eq_some_iff.1 h2
  rw [List.take_succ_eq_append_getElem k1, List.take_succ_eq_append_getElem k2, h, e]

theorem ints_any (l m : List Int) (a b : Option Addr) (c d : Nat) (w : World) (hl : IntsAt w a l) (hm : IntsAt w b m) (l1 : l.length ≤ 1000) (l2 : m.length ≤ 1000) :
    Calls Try.prog 25 #[.slice a l.length c, .slice b m.length d] w (Ret (.bool (decide (l = m))) w) := by
  have HA := Lib.hid hl
  have HB := Lib.hid hm
  clear hl hm
  by_cases hlen : l.length = m.length
  case neg =>
    have hne : ((l.length : Int) != (m.length : Int)) = true := by simp; omega
    have HN := Lib.hid hlen
    clear hlen
    go_enter Try.func25, Try.ntmps25
    go_wp2_with fail
    go_ret
    exact ⟨ret_bool (by symm; simp; intro e; exact HN.out (by rw [e])), Below.refl _ _⟩
  have hne : ((l.length : Int) != (m.length : Int)) = false := by simp; omega
  have HN := Lib.hid hlen
  clear hlen
  go_enter Try.func25, Try.ntmps25
  go_wp2_with fail
  clear hne
  go_loopw [5] (fun i wr => ∃ k : Nat, k ≤ l.length ∧ i = .int .i64 k ∧ Below w.heap.size w wr ∧ l.take k = m.take k) (fun i _ => l.length - (intOf i).toNat)
  case atStart => exact ⟨0, Nat.zero_le _, rfl, Below.refl _ _, rfl⟩
  case round =>
    obtain ⟨k, hk, rfl, hb, hp⟩ := hrel
    have HP := Lib.hid hp
    clear hp
    by_cases hlt : k < l.length
    · have hltm : k < m.length := by have := HN.out; omega
      obtain ⟨p1, o1, rfl, hC1⟩ := RowAt.at HA.out hlt
      obtain ⟨p2, o2, rfl, hC2⟩ := RowAt.at HB.out hltm
      obtain ⟨x, hx⟩ : ∃ x, l[k]? = some x := ⟨l[k], by simp⟩
      obtain ⟨y, hy⟩ : ∃ y, m[k]? = some y := ⟨m[k], by simp⟩
      have e0 := cells_one (hC1.later hb) hx
      have e1 := cells_one (hC2.later hb) hy
      have z1 : p1 < wr.heap.size := block_lt_of_cell e0
      have z2 : p2 < wr.heap.size := block_lt_of_cell e1
      have HX := Lib.hid hx
      have HY := Lib.hid hy
      clear hx hy hC1 hC2
      have r1 : (0 : Int) ≤ (k : Int) := by omega
      have r2 : (k : Int) < (l.length : Int) := by omega
      have r3 : (k : Int) < (m.length : Int) := by omega
      by_cases hxy : x = y
      · subst hxy
        go_wp2_with fail
        refine Fat.wp_region_tail 9 (by kernel_rfl) (by kernel_rfl) ?_
        simp only [List.take_succ_cons, List.drop_succ_cons, List.take_nil, List.drop_nil]
        repeat (go_big_quiet_step (fail))
        refine wpQuiet_nil ?_
        intro w1 hb1
        replace hb := over hb hb1
        clear hb1
        go_wp2_with fail
        go_roundw
        case rel => exact ⟨k + 1, by omega, by go_num, hb, take_eq_succ HP.out HX.out HY.out⟩
        case measure => simp [intOf]; omega
      · have hxb : (x != y) = true := by simpa using hxy
        have HXY := Lib.hid hxy
        clear hxy
        go_wp2_with fail
        refine Fat.wp_region_tail 9 (by kernel_rfl) (by kernel_rfl) ?_
        simp only [List.take_succ_cons, List.drop_succ_cons, List.take_nil, List.drop_nil]
        repeat (go_big_quiet_step (fail))
        refine wpQuiet_nil ?_
        intro w1 hb1
        replace hb := over hb hb1
        clear hb1
        go_wp2_with fail
        go_ret
        exact ⟨ret_bool (by symm; simp; intro e; subst e; have h1 := HX.out; rw [HY.out] at h1; cases h1; exact HXY.out rfl), hb⟩
    · go_wp2_with fail
      go_ret
      refine ⟨ret_bool ?_, hb⟩
      symm
      have h1 := HP.out
      rw [List.take_of_length_le (by omega), List.take_of_length_le (by have := HN.out; omega)] at h1
      simpa using h1
end Go.Proofs.Ytmfnkmmbihmjnaa
