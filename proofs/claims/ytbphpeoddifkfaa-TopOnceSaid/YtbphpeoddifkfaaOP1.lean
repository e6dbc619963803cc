/- Layer 5, the walks: what a post may hold (the statement's words for it). -/
import Derived.Test.YtbphpeoddifkfaaOC5
open Go.RowKit
namespace Go.Proofs.Ytbphpeoddifkfaa
open Go.Once

theorem take_eq_succ {α : Type} {l m : List α} {k : Nat} {x : α} (h : l.take k = m.take k) (h1 : l[k]? = some x) (h2 : m[k]? = some x) : l.take (k + 1) = m.take (k + 1) := by
  obtain ⟨k1, rfl⟩ := List.getElem?_eq_some_iff.1 h1
  obtain ⟨k2, e⟩ := List.getElem?_eq_some_iff.1 h2
  rw [List.take_succ_eq_append_getElem k1, List.take_succ_eq_append_getElem k2, h, e]

theorem same4_any (l m : List Int) (a b : Option Addr) (c d : Nat) (w : World) (hl : IntsAt w a l) (hm : IntsAt w b m) (l1 : l.length ≤ 1000) (l2 : m.length ≤ 1000) :
    Calls Try.prog 17 #[.slice a l.length c, .slice b m.length d] w (Ret (.bool (decide (l = m))) w) := by
  have HA := Lib.hid hl
  have HB := Lib.hid hm
  clear hl hm
  by_cases hlen : l.length = m.length
  case neg =>
    have hne : ((l.length : Int) != (m.length : Int)) = true := by simp; omega
    have HN := Lib.hid hlen
    clear hlen
    go_enter Try.func17, Try.ntmps17
    go_wp2_with fail
    go_ret
    exact ⟨ret_bool (by symm; simp; intro e; exact HN.out (by rw [e])), Below.refl _ _⟩
  have hne : ((l.length : Int) != (m.length : Int)) = false := by simp; omega
  have HN := Lib.hid hlen
  clear hlen
  go_enter Try.func17, Try.ntmps17
  go_wp2_with fail
  clear hne
  go_loopw [5] (fun i wr => ∃ k : Nat, k ≤ l.length ∧ i = .int .i64 k ∧ Below w.heap.size w wr ∧ l.take k = m.take k) (fun i _ => l.length - (intOf i).toNat)
  case atStart => exact ⟨0, Nat.zero_le _, rfl, Below.refl _ _, rfl⟩
  case round =>
    obtain ⟨k, hk, rfl, hb, hp⟩ := hrel
    have HP := Lib.hid hp
    clear hp
    by_cases hlt : k < l.length
    · have hltm : k < m.length := by have := HN.out; omega
      obtain ⟨p1, o1, rfl, hC1⟩ := RowAt.at HA.out hlt
      obtain ⟨p2, o2, rfl, hC2⟩ := RowAt.at HB.out hltm
      obtain ⟨x, hx⟩ : ∃ x, l[k]? = some x := ⟨l[k], by simp⟩
      obtain ⟨y, hy⟩ : ∃ y, m[k]? = some y := ⟨m[k], by simp⟩
      have e0 := cells_one (hC1.later hb) hx
      have e1 := cells_one (hC2.later hb) hy
      have z1 : p1 < wr.heap.size := block_lt_of_cell e0
      have z2 : p2 < wr.heap.size := block_lt_of_cell e1
      have HX := Lib.hid hx
      have HY := Lib.hid hy
      clear hx hy hC1 hC2
      have r1 : (0 : Int) ≤ (k : Int) := by omega
      have r2 : (k : Int) < (l.length : Int) := by omega
      have r3 : (k : Int) < (m.length : Int) := by omega
      by_cases hxy : x = y
      · subst hxy
        go_wp2_with fail
        refine Fat.wp_region_tail 9 (by kernel_rfl) (by kernel_rfl) ?_
        simp only [List.take_succ_cons, List.drop_succ_cons, List.take_nil, List.drop_nil]
        repeat (go_big_quiet_step (fail))
        refine wpQuiet_nil ?_
        intro w1 hb1
        replace hb := over hb hb1
        clear hb1
        go_wp2_with fail
        go_roundw
        case rel => exact ⟨k + 1, by omega, by go_num, hb, take_eq_succ HP.out HX.out HY.out⟩
        case measure => simp [intOf]; omega
      · have hxb : (x != y) = true := by simpa using hxy
        have HXY := Lib.hid hxy
        clear hxy
        go_wp2_with fail
        refine Fat.wp_region_tail 9 (by kernel_rfl) (by kernel_rfl) ?_
        simp only [List.take_succ_cons, List.drop_succ_cons, List.take_nil, List.drop_nil]
        repeat (go_big_quiet_step (fail))
        refine wpQuiet_nil ?_
        intro w1 hb1
        replace hb := over hb hb1
        clear hb1
        go_wp2_with fail
        go_ret
        exact ⟨ret_bool (by symm; simp; intro e; subst e; have h1 := HX.out; rw [HY.out] at h1; cases h1; exact HXY.out rfl), hb⟩
    · go_wp2_with fail
      go_ret
      refine ⟨ret_bool ?_, hb⟩
      symm
      have h1 := HP.out
      rw [List.take_of_length_le (by omega), List.take_of_length_le (by have := HN.out; omega)] at h1
      simpa using h1

/-! ### A post's cells -/
theorem PostAt.send {W : World} {q : PV} {p : Ps} {k : Nat} {s : Int} (h : PostAt W q p) (hs : p.sends[k]? = some s) :
    ∃ b o, q.a1 = some ⟨b, o, none⟩ ∧ W.cell? ⟨b, o + k, none⟩ = some (.int .i64 s) ∧ b < W.heap.size := by
  obtain ⟨b, o, e, hC⟩ := RowAt.at (k := k) h.sends (by have := (List.getElem?_eq_some_iff.1 hs).1; omega)
  have e0 := cells_one (f := fun n : Int => Value.int .i64 n) hC hs
  exact ⟨b, o, e, e0, block_lt_of_cell e0⟩
theorem PostAt.route {W : World} {q : PV} {p : Ps} {k : Nat} {x : RtV} (h : PostAt W q p) (hx : q.rs[k]? = some x) :
    ∃ b o, q.a2 = some ⟨b, o, none⟩ ∧ W.cell? ⟨b, o + k * 2, none⟩ = some (.slice x.a x.legs.length x.c) ∧ W.cell? ⟨b, o + k * 2 + 1, none⟩ = some (.bool x.lossy) ∧ b < W.heap.size ∧ RtAt W x := by
  obtain ⟨b, o, e, hC⟩ := RowAt.at (k := k) h.row (by have := (List.getElem?_eq_some_iff.1 hx).1; omega)
  obtain ⟨e0, e1⟩ := cells_rt hC hx
  exact ⟨b, o, e, e0, e1, block_lt_of_cell e0, h.rts x (List.mem_of_getElem? hx)⟩
theorem RtAt.leg {W : World} {x : RtV} {k : Nat} {l : LgV} (h : RtAt W x) (hl : x.legs[k]? = some l) :
    ∃ b o, x.a = some ⟨b, o, none⟩ ∧ W.cell? ⟨b, o + k * 3, none⟩ = some (.int .i64 l.lg.lo) ∧ W.cell? ⟨b, o + k * 3 + 1, none⟩ = some (.int .i64 l.lg.hi) ∧ W.cell? ⟨b, o + k * 3 + 2, none⟩ = some (.slice l.a l.lg.as.length l.c) ∧ b < W.heap.size ∧ LgAt W l := by
  obtain ⟨b, o, e, hC⟩ := RowAt.at (k := k) h.row (by have := (List.getElem?_eq_some_iff.1 hl).1; omega)
  obtain ⟨e0, e1, e2⟩ := cells_lg hC hl
  exact ⟨b, o, e, e0, e1, e2, block_lt_of_cell e0, h.legs l (List.mem_of_getElem? hl)⟩
theorem LgAt.rg {W : World} {l : LgV} {k : Nat} {r : Rg} (h : LgAt W l) (hr : l.lg.as[k]? = some r) :
    ∃ b o, l.a = some ⟨b, o, none⟩ ∧ W.cell? ⟨b, o + k * 2, none⟩ = some (.int .i64 r.lo) ∧ W.cell? ⟨b, o + k * 2 + 1, none⟩ = some (.int .i64 r.hi) ∧ b < W.heap.size := by
  obtain ⟨b, o, e, hC⟩ := RowAt.at (k := k) h (by have := (List.getElem?_eq_some_iff.1 hr).1; omega)
  obtain ⟨e0, e1⟩ := cells_rg hC hr
  exact ⟨b, o, e, e0, e1, block_lt_of_cell e0⟩

/-! ### Ranges -/
def spanB (r : Rg) (m : Int) : Bool := inB r.lo 0 r.hi && decide (r.hi ≤ m)
theorem spanB_ok {r : Rg} {m : Int} (h : spanB r m = true) : r.Ok m := by
  simp [spanB, inB] at h
  exact ⟨h.1.1, h.1.2, h.2⟩
theorem spanB_of {r : Rg} {m : Int} (h : r.Ok m) : spanB r m = true := by
  obtain ⟨h1, h2, h3⟩ := h
  simp [spanB, inB]; omega
theorem rspan_any (r : Rg) (m : Int) (w : World) : Calls Try.prog 22 #[.agg #[.int .i64 r.lo, .int .i64 r.hi], .int .i64 m] w (Ret (.bool (spanB r m)) w) := by
  have HK : Hid (spanB r m = (inB r.lo 0 r.hi && decide (r.hi ≤ m))) := rfl
  go_enter Try.func22, Try.ntmps22
  go_wp2_with fail
  refine named1 (p := fun W => Calls _ _ _ W _) ?_
  intro W hW B2
  have c2 := B2.cell; have t2 := B2.lt
  go_wp2_with (go_at_call 21; refine (pin_any _ _ _ _).mono ?_; rintro e w' ⟨rfl, hb⟩; replace hW := over hW hb; (try clear c2 t2); replace B2 := B2.later hb; have c2 := B2.cell; have t2 := B2.lt; clear hb)
  all_goals
    go_ret
    exact ⟨ret_bool (by rw [HK.out]; simp_all), hW⟩

/-! ### A thin post -/
/-- A truth value: if it is true, so is something. -/
def YesTo (P : Prop) (v : Value) : Prop := ∃ b : Bool, v = .bool b ∧ (b = true → P)
structure PostSane (q : PV) (p : Ps) : Prop where
  l1 : p.sends.length ≤ 9223372036854775807
  l2 : q.rs.length ≤ 9223372036854775807
  l3 : ∀ x ∈ q.rs, x.legs.length ≤ 9223372036854775807
  l4 : ∀ x ∈ q.rs, ∀ l ∈ x.legs, l.lg.as.length ≤ 9223372036854775807
structure Thin5 (q : PV) (p : Ps) : Prop where
  l1 : p.sends.length ≤ 7
  l2 : q.rs.length ≤ 6
  l3 : ∀ x ∈ q.rs, x.legs.length ≤ 6
  l4 : ∀ x ∈ q.rs, ∀ l ∈ x.legs, l.lg.as.length ≤ 5

set_option maxRecDepth 100000 in
set_option maxHeartbeats 4000000 in
theorem thin5_any (q : PV) (p : Ps) (w : World) (hB : PostAt w q p) (hs : PostSane q p) :
    Calls Try.prog 6 #[postV q p] w (RetP (fun v _ => YesTo (Thin5 q p) v) w) := by
  have HB := Lib.hid hB
  obtain ⟨l1, l2, l3, l4⟩ := hs
  have H3 := Lib.hid l3
  have H4 := Lib.hid l4
  clear hB l3 l4
  go_enter Try.func6, Try.ntmps6
  by_cases hv : p.sends.length ≤ 7 ∧ q.rs.length ≤ 6
  case neg =>
    go_wp2_with fail
    all_goals first
      | (exfalso; omega)
      | (go_ret; exact ⟨_, rfl, (by repeat (first | exact Below.refl _ _ | refine al ?_ _ | refine Below.drew ?_ | refine sc ?_ (by simp) _)), _, rfl, fun h => by cases h⟩)
  obtain ⟨v1, v2⟩ := hv
  have d1 : decide ((7 : Int) < (p.sends.length : Int)) = false := by simp; omega
  have d2 : decide ((6 : Int) < (q.rs.length : Int)) = false := by simp; omega
  go_wp2_with fail
  refine named1 (p := Code.wp _ _ _ _) ?_
  intro W hW B1
  clear d1 d2
  go_loopw [3] (fun i wr => ∃ k : Nat, k ≤ q.rs.length ∧ i = .int .i64 k ∧ Below w.heap.size w wr ∧ Box wr w.heap.size #[.slice q.a1 p.sends.length q.c1, .slice q.a2 q.rs.length q.c2, .int .i64 p.pat] 28 ∧ ∀ x ∈ q.rs.take k, x.legs.length ≤ 6 ∧ ∀ l ∈ x.legs, l.lg.as.length ≤ 5) (fun i _ => q.rs.length - (intOf i).toNat)
  case atStart => exact ⟨0, Nat.zero_le _, rfl, hW, B1, by simp⟩
  case round =>
    clear hW B1
    obtain ⟨k, hk, rfl, hW, B1, hp⟩ := hrel
    have HP := Lib.hid hp
    clear hp
    have c1 := B1.cell; have t1 := B1.lt
    by_cases hlt : k < q.rs.length
    · obtain ⟨x, hx⟩ : ∃ x, q.rs[k]? = some x := ⟨q.rs[k], by simp⟩
      obtain ⟨pb, po, ea, e0, _, z1, hR⟩ := (HB.out.later hW).route hx
      have HR := Lib.hid hR
      have x3 := H3.out x (List.mem_of_getElem? hx)
      have HX4 := Lib.hid (H4.out x (List.mem_of_getElem? hx))
      have HX := Lib.hid hx
      rw [ea] at c1
      clear hx ea hR
      have r1 : (0 : Int) ≤ (k : Int) := by omega
      have r2 : (k : Int) < (q.rs.length : Int) := by omega
      by_cases h6 : x.legs.length ≤ 6
      case neg =>
        go_wp2_with fail
        go_ret
        exact ⟨_, rfl, hW, _, rfl, fun h => by cases h⟩
      go_wp2_with fail
      go_loopw [4] (fun i wi => ∃ m : Nat, m ≤ x.legs.length ∧ i = .int .i64 m ∧ Below w.heap.size w wi ∧ Box wi w.heap.size #[.slice q.a1 p.sends.length q.c1, .slice q.a2 q.rs.length q.c2, .int .i64 p.pat] 28 ∧ ∀ l ∈ x.legs.take m, l.lg.as.length ≤ 5) (fun i _ => x.legs.length - (intOf i).toNat)
      case atStart => exact ⟨0, Nat.zero_le _, rfl, hW, B1, by simp⟩
      case round =>
        clear hW B1 c1 t1 HR e0 z1
        obtain ⟨m, hm, rfl, hW, B1, hp⟩ := hrel
        have HPm := Lib.hid hp
        clear hp
        have c1 := B1.cell; have t1 := B1.lt
        obtain ⟨pb, po, ea, e0, _, z1, hR⟩ := (HB.out.later hW).route HX.out
        have HR := Lib.hid hR
        rw [ea] at c1
        clear ea hR
        by_cases hmt : m < x.legs.length
        · obtain ⟨l, hl⟩ : ∃ l, x.legs[m]? = some l := ⟨x.legs[m], by simp⟩
          obtain ⟨lb, lo, ex, _, _, f2, z2, _⟩ := HR.out.leg hl
          have x4 := HX4.out l (List.mem_of_getElem? hl)
          have HL := Lib.hid hl
          rw [ex] at e0
          clear hl ex
          have r3 : (0 : Int) ≤ (m : Int) := by omega
          have r4 : (m : Int) < (x.legs.length : Int) := by omega
          by_cases h5 : l.lg.as.length ≤ 5
          case neg =>
            go_wp2_with fail
            go_ret
            exact ⟨_, rfl, hW, _, rfl, fun h => by cases h⟩
          go_wp2_with fail
          go_roundw
          case rel =>
            refine ⟨m + 1, by omega, by go_num, hW, B1, fun y hy => ?_⟩
            rw [List.take_add_one, HL.out] at hy
            rcases List.mem_append.1 hy with hy | hy
            · exact HPm.out y hy
            · simp at hy; subst hy; exact h5
          case measure => first | omega | (simp [intOf]; omega)
        · obtain rfl : m = x.legs.length := by omega
          have hQ := HPm.out
          rw [List.take_of_length_le (Nat.le_refl _)] at hQ
          have HQ := Lib.hid hQ
          clear hQ HPm
          go_wp2_with fail
          go_roundw
          case rel =>
            refine ⟨k + 1, by omega, by go_num, hW, B1, fun y hy => ?_⟩
            rw [List.take_add_one, HX.out] at hy
            rcases List.mem_append.1 hy with hy | hy
            · exact HP.out y hy
            · simp at hy; subst hy; exact ⟨h6, HQ.out⟩
          case measure => first | omega | (simp [intOf]; omega)
    · obtain rfl : k = q.rs.length := by omega
      have hQ := HP.out
      rw [List.take_of_length_le (Nat.le_refl _)] at hQ
      have HQ := Lib.hid hQ
      clear hQ HP
      go_wp2_with fail
      go_ret
      exact ⟨_, rfl, hW, _, rfl, fun _ => ⟨v1, v2, fun x hx => (HQ.out x hx).1, fun x hx => (HQ.out x hx).2⟩⟩
end Go.Proofs.Ytbphpeoddifkfaa
