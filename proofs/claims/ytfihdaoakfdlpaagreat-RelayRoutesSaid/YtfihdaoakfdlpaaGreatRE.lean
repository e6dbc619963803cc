import Derived.Test.YtfihdaoakfdlpaaGreatRefA
import Derived.Test.YtfihdaoakfdlpaaGreatRB
import Derived.Test.YtfihdaoakfdlpaaGreatRC
import Derived.Deep.DeepCutAuto
import Derived.Deep.OwnRows
section
/- The statements on relays: their own helpers; what the reference asks for. -/
open Go.RowKit
namespace Go.Proofs.YtfihdaoakfdlpaaGreat
open Go.Hill

set_option maxRecDepth 100000 in
theorem rend_any (q : LV) (L : Land) (w : World) : Calls Tryz.prog 35 #[landV q L] w (Ret (.int .i64 L.sn.length) w) := by
  go_enter Tryz.func35, Tryz.ntmps35
  go_wp2_with fail
  go_ret
  exact ⟨rfl, (by repeat (first | exact Below.refl _ _ | refine al ?_ _ | refine Below.drew ?_ | refine sc ?_ (by simp) _))⟩
set_option maxRecDepth 100000 in
set_option maxHeartbeats 1000000 in
theorem rasked3_any (q : LV) (L : Land) (fr ta st k : Int) (w : World) (hL : LandAt w q L) (hs : Small L) :
    Calls Tryz.prog 54 #[landV q L, .int .i64 fr, .int .i64 ta, .int .i64 st, .int .i64 k] w (Ret (.int .i64 (L.askr fr ta st k)) w) := by
  obtain ⟨c, hc⟩ : ∃ c, c = L.chk := ⟨_, rfl⟩
  obtain ⟨b1, h1⟩ : ∃ b, b = inB fr 0 ((L.st.length : Int) - 1) := ⟨_, rfl⟩
  obtain ⟨b2, h2⟩ : ∃ b, b = inB ta 0 ((L.st.length : Int) - 1) := ⟨_, rfl⟩
  obtain ⟨b3, h3⟩ : ∃ b, b = inB st 0 L.sn.length := ⟨_, rfl⟩
  obtain ⟨b4, h4⟩ : ∃ b, b = inB k 0 ((L.cs.length : Int) - 1) := ⟨_, rfl⟩
  have HG : Hid (L.askr fr ta st k = if c = 0 then (if b1 && (b2 && (b3 && b4)) then 0 else 2) else c) := by rw [hc, h1, h2, h3, h4]; rfl
  have C0 : Hid (∀ W, Below w.heap.size w W → Calls Tryz.prog 56 #[landV q L] W (Ret (.int .i64 c) W)) := fun W hW => by rw [hc]; exact fault_any q L W (hL.later hW) hs.l1 hs.l2 hs.l3 hs.l4 hs.l5
  have C1 : Hid (∀ w, Calls Tryz.prog 40 #[.int .i64 fr, .int .i64 0, .int .i64 ((L.st.length : Int) - 1)] w (Ret (.bool b1) w)) := fun w => by rw [h1]; exact in_any _ _ _ _
  have C2 : Hid (∀ w, Calls Tryz.prog 40 #[.int .i64 ta, .int .i64 0, .int .i64 ((L.st.length : Int) - 1)] w (Ret (.bool b2) w)) := fun w => by rw [h2]; exact in_any _ _ _ _
  have C3 : Hid (∀ w, Calls Tryz.prog 40 #[.int .i64 st, .int .i64 0, .int .i64 L.sn.length] w (Ret (.bool b3) w)) := fun w => by rw [h3]; exact in_any _ _ _ _
  have C4 : Hid (∀ w, Calls Tryz.prog 40 #[.int .i64 k, .int .i64 0, .int .i64 ((L.cs.length : Int) - 1)] w (Ret (.bool b4) w)) := fun w => by rw [h4]; exact in_any _ _ _ _
  have CE : Hid (∀ W, Calls Tryz.prog 35 #[landV q L] W (Ret (.int .i64 L.sn.length) W)) := fun W => rend_any q L W
  obtain ⟨l1, _, l3, l4, _⟩ := hs
  clear h1 h2 h3 h4 hc hL
  go_enter Tryz.func54, Tryz.ntmps54
  go_wp2_with fail
  refine named1 (p := fun W => Calls _ _ _ W _) ?_
  intro W hW B5
  refine (C0.out W hW).mono ?_
  rintro e w1 ⟨rfl, hb⟩
  replace hW := over hW hb
  (try clear c5 t5); replace B5 := B5.later hb; have c5 := B5.cell; have t5 := B5.lt
  clear hb
  by_cases hc : c = 0
  case neg =>
    have hcb : (c != 0) = true := by simpa using hc
    have HC := Lib.hid hc
    clear hc
    go_wp2_with fail
    go_ret
    exact ⟨ret_int (by rw [HG.out, if_neg HC.out]), hW⟩
  subst hc
  go_wp2_with fail
  cases b1 with
  | false =>
    refine (C1.out _).mono ?_
    rintro e w1 ⟨rfl, hb⟩; replace hW := over hW hb; clear hb
    go_wp2_with fail
    go_ret
    exact ⟨ret_int (by rw [HG.out]; rfl), hW⟩
  | true =>
    refine (C1.out _).mono ?_
    rintro e w1 ⟨rfl, hb⟩; replace hW := over hW hb; (try clear c5 t5); replace B5 := B5.later hb; have c5 := B5.cell; have t5 := B5.lt; clear hb
    go_wp2_with fail
    cases b2 with
    | false =>
      refine (C2.out _).mono ?_
      rintro e w1 ⟨rfl, hb⟩; replace hW := over hW hb; clear hb
      go_wp2_with fail
      go_ret
      exact ⟨ret_int (by rw [HG.out]; rfl), hW⟩
    | true =>
      refine (C2.out _).mono ?_
      rintro e w1 ⟨rfl, hb⟩; replace hW := over hW hb; (try clear c5 t5); replace B5 := B5.later hb; have c5 := B5.cell; have t5 := B5.lt; clear hb
      go_wp2_with fail
      refine (CE.out _).mono ?_
      rintro e w1 ⟨rfl, hb⟩; replace hW := over hW hb; (try clear c5 t5); replace B5 := B5.later hb; have c5 := B5.cell; have t5 := B5.lt; clear hb
      go_wp2_with fail
      cases b3 with
      | false =>
        refine (C3.out _).mono ?_
        rintro e w1 ⟨rfl, hb⟩; replace hW := over hW hb; clear hb
        go_wp2_with fail
        go_ret
        exact ⟨ret_int (by rw [HG.out]; rfl), hW⟩
      | true =>
        refine (C3.out _).mono ?_
        rintro e w1 ⟨rfl, hb⟩; replace hW := over hW hb; (try clear c5 t5); replace B5 := B5.later hb; have c5 := B5.cell; have t5 := B5.lt; clear hb
        go_wp2_with fail
        cases b4
        all_goals
          refine (C4.out _).mono ?_
          rintro e w1 ⟨rfl, hb⟩; replace hW := over hW hb; clear hb
          go_wp2_with fail
          go_ret
          exact ⟨ret_int (by rw [HG.out]; rfl), hW⟩
theorem asked3_any (q : LV) (L : Land) (fr ta st k : Int) (w : World) (hL : LandAt w q L) (hs : Small L) :
    Calls Tryz.prog 18 #[landV q L, .int .i64 fr, .int .i64 ta, .int .i64 st, .int .i64 k] w (Ret (.int .i64 (L.askr fr ta st k)) w) := by
  have HC := Lib.hid fun W hW => rasked3_any q L fr ta st k W (LandAt.later hL hW) hs
  generalize L.askr fr ta st k = v at *
  clear hL hs
  go_enter Tryz.func18, Tryz.ntmps18
  go_wp2_with fail
  refine named1 (p := fun W => Calls _ _ _ W _) ?_
  intro W hW B5
  refine (HC.out W hW).mono ?_
  rintro e w1 ⟨rfl, hb⟩
  replace hW := over hW hb
  clear hb B5
  go_wp2_with fail
  go_ret
  exact ⟨rfl, hW⟩
theorem ints3_any (l m : List Int) (a b : Option Addr) (c d : Nat) (w : World) (hl : IntsAt w a l) (hm : IntsAt w b m) (l1 : l.length ≤ 1000) (l2 : m.length ≤ 1000) :
    Calls Tryz.prog 21 #[.slice a l.length c, .slice b m.length d] w (Ret (.bool (decide (l = m))) w) := by
  have HA := Lib.hid hl
  have HB := Lib.hid hm
  clear hl hm
  by_cases hlen : l.length = m.length
  case neg =>
    have hne : ((l.length : Int) != (m.length : Int)) = true := by simp; omega
    have HN := Lib.hid hlen
    clear hlen
    go_enter Tryz.func21, Tryz.ntmps21
    go_wp2_with fail
    go_ret
    exact ⟨ret_bool (by symm; simp; intro e; exact HN.out (by rw [e])), Below.refl _ _⟩
  have hne : ((l.length : Int) != (m.length : Int)) = false := by simp; omega
  have HN := Lib.hid hlen
  clear hlen
  go_enter Tryz.func21, Tryz.ntmps21
  go_wp2_with fail
  clear hne
  go_loopw [5] (fun i wr => ∃ k : Nat, k ≤ l.length ∧ i = .int .i64 k ∧ Below w.heap.size w wr ∧ l.take k = m.take k) (fun i _ => l.length - (intOf i).toNat)
  case atStart => exact ⟨0, Nat.zero_le _, rfl, Below.refl _ _, rfl⟩
  case round =>
    obtain ⟨k, hk, rfl, hb, hp⟩ := hrel
    have HP := Lib.hid hp
    clear hp
    by_cases hlt : k < l.length
    · have hltm : k < m.length := by have := HN.out; omega
      obtain ⟨p1, o1, rfl, hC1⟩ := RowAt.at HA.out hlt
      obtain ⟨p2, o2, rfl, hC2⟩ := RowAt.at HB.out hltm
      obtain ⟨x, hx⟩ : ∃ x, l[k]? = some x := ⟨l[k], by simp⟩
      obtain ⟨y, hy⟩ : ∃ y, m[k]? = some y := ⟨m[k], by simp⟩
      have e0 := cells_one (hC1.later hb) hx
      have e1 := cells_one (hC2.later hb) hy
      have z1 : p1 < wr.heap.size := block_lt_of_cell e0
      have z2 : p2 < wr.heap.size := block_lt_of_cell e1
      have HX := Lib.hid hx
      have HY := Lib.hid hy
      clear hx hy hC1 hC2
      have r1 : (0 : Int) ≤ (k : Int) := by omega
      have r2 : (k : Int) < (l.length : Int) := by omega
      have r3 : (k : Int) < (m.length : Int) := by omega
      by_cases hxy : x = y
      · subst hxy
        go_wp2_with fail
        refine Fat.wp_region_tail 9 (by kernel_rfl) (by kernel_rfl) ?_
        simp only [List.take_succ_cons, List.drop_succ_cons, List.take_nil, List.drop_nil]
        repeat (go_big_quiet_step (fail))
        refine wpQuiet_nil ?_
        intro w1 hb1
        replace hb := over hb hb1
        clear hb1
        go_wp2_with fail
        go_roundw
        case rel => exact ⟨k + 1, by omega, by go_num, hb, take_eq_succ HP.out HX.out HY.out⟩
        case measure => simp [intOf]; omega
      · have hxb : (x != y) = true := by simpa using hxy
        have HXY := Lib.hid hxy
        clear hxy
        go_wp2_with fail
        refine Fat.wp_region_tail 9 (by kernel_rfl) (by kernel_rfl) ?_
        simp only [List.take_succ_cons, List.drop_succ_cons, List.take_nil, List.drop_nil]
        repeat (go_big_quiet_step (fail))
        refine wpQuiet_nil ?_
        intro w1 hb1
        replace hb := over hb hb1
        clear hb1
        go_wp2_with fail
        go_ret
        exact ⟨ret_bool (by symm; simp; intro e; subst e; have h1 := HX.out; rw [HY.out] at h1; cases h1; exact HXY.out rfl), hb⟩
    · go_wp2_with fail
      go_ret
      refine ⟨ret_bool ?_, hb⟩
      symm
      have h1 := HP.out
      rw [List.take_of_length_le (by omega), List.take_of_length_le (by have := HN.out; omega)] at h1
      simpa using h1
theorem ints3_yes (l : List Int) (a b : Option Addr) (c d : Nat) (w : World) (hl : IntsAt w a l) (hm : IntsAt w b l) (l1 : l.length ≤ 1000) :
    Calls Tryz.prog 21 #[.slice a l.length c, .slice b l.length d] w (Ret (.bool true) w) := by
  have := ints3_any l l a b c d w hl hm l1 l1
  rwa [show decide (l = l) = true by simp] at this
set_option maxRecDepth 100000 in
set_option maxHeartbeats 1000000 in
theorem hops3_yes (l : List Hp) (a b : Option Addr) (c d : Nat) (w : World) (hl : HopsAt w a l) (hm : HopsAt w b l) (l1 : l.length ≤ 1000) :
    Calls Tryz.prog 43 #[.slice a l.length c, .slice b l.length d] w (Ret (.bool true) w) := by
  have HA := Lib.hid hl
  have HB := Lib.hid hm
  clear hl hm
  go_enter Tryz.func43, Tryz.ntmps43
  go_wp2_with fail
  go_loopw [5] (fun i wr => ∃ k : Nat, k ≤ l.length ∧ i = .int .i64 k ∧ Below w.heap.size w wr) (fun i _ => l.length - (intOf i).toNat)
  case atStart => exact ⟨0, Nat.zero_le _, rfl, Below.refl _ _⟩
  case round =>
    obtain ⟨k, hk, rfl, hb⟩ := hrel
    by_cases hlt : k < l.length
    · obtain ⟨p1, o1, rfl, hC1⟩ := RowAt.at HA.out hlt
      obtain ⟨p2, o2, rfl, hC2⟩ := RowAt.at HB.out hlt
      obtain ⟨x, hx⟩ : ∃ x, l[k]? = some x := ⟨l[k], by simp⟩
      obtain ⟨e0, e1, e2⟩ := cells_hp (hC1.later hb) hx
      obtain ⟨f0, f1, f2⟩ := cells_hp (hC2.later hb) hx
      have z1 : p1 < wr.heap.size := block_lt_of_cell e0
      have z2 : p2 < wr.heap.size := block_lt_of_cell f0
      clear hx hC1 hC2
      have r1 : (0 : Int) ≤ (k : Int) := by omega
      have r2 : (k : Int) < (l.length : Int) := by omega
      go_wp2_with fail
      refine Fat.wp_region_tail 37 (by kernel_rfl) (by kernel_rfl) ?_
      simp only [List.take_succ_cons, List.drop_succ_cons, List.take_nil, List.drop_nil]
      repeat (go_big_quiet_step (fail))
      refine wpQuiet_nil ?_
      intro w1 hb1
      replace hb := over hb hb1
      clear hb1
      go_wp2_with fail
      go_roundw
      case rel => exact ⟨k + 1, by omega, by go_num, hb⟩
      case measure => simp [intOf]; omega
    · go_wp2_with fail
      go_ret
      exact ⟨rfl, hb⟩
end Go.Proofs.YtfihdaoakfdlpaaGreat
end

section
/- Layer 3, the references, the walks: the earliest hours, hour by hour. -/
open Go.RowKit
namespace Go.Proofs.YtfihdaoakfdlpaaGreat
open Go.Hill

abbrev rowN (g : Nat → Int) : Nat → Value := fun x => .int .i64 (g x)
theorem rowIs_later {W W' : World} {b n : Nat} {t : TypeId} {f : Nat → Value} (h : W.rowIs b t n f) (hb : Below W.heap.size W W') : W'.rowIs b t n f := World.rowIs.of_block h (hb.block b (World.rowIs.lt h))
theorem ints_row {W : World} {b n : Nat} {g : Nat → Int} (h : W.rowIs b 3 n (rowN g)) : IntsAt W (some ⟨b, 0, none⟩) ((List.range n).map g) := .inr ⟨b, 0, rfl, fun i y hi j v hv => by
  rw [List.getElem?_map, List.getElem?_map] at hi
  rcases Nat.lt_or_ge i n with hlt | hge
  · rw [List.getElem?_range hlt] at hi
    simp at hi; subst hi
    rcases j with _ | j
    · simp at hv; subst hv
      have := World.rowIs.cell h hlt
      simpa using this
    · simp at hv
  · rw [List.getElem?_eq_none (by simpa using hge)] at hi
    simp at hi⟩
theorem make_ints (n : Nat) (hn : n ≤ 1000) (w : World) : (Instr.makeSlice 40 (.int .i64 (n : Int)) (.int .i64 (n : Int))).run Tryz.prog w = .ok (.slice (some ⟨w.heap.size, 0, none⟩) n n) (w.alloc (.cells (madeCells #[.int .i64 0] n) 3)) :=
  run_make_row' 40 3 (.int .i64 0) 8 (by kernel_rfl) (by kernel_rfl) rfl .i64 .i64 n (by omega) (by omega) w
theorem has_start {r : Rel} {f s n : Nat} : ∀ x, x < n → (if x = f then Value.int .i64 (s : Int) else rowN (fun x => if x < n then -1 else 0) x) = rowN (r.has f s 0) x := fun x hx => by
  rw [show rowN (r.has f s 0) x = .int .i64 (if x = f then (s : Int) else -1) from rfl]
  split
  · rfl
  · show Value.int .i64 (if x < n then -1 else 0) = _
    rw [if_pos hx]
/-- The table while station a flashes: those before b have it from a already. -/
def cur (r : Rel) (R : Nat → Int) (h a b x : Nat) : Int := if x < b then r.step R h (a + 1) x else r.step R h a x
theorem cur_was {r : Rel} {R : Nat → Int} {h a b x : Nat} : (0 ≤ cur r R h a b x ∧ cur r R h a b x ≤ h) ↔ (0 ≤ R x ∧ R x ≤ h) := by
  unfold cur; split <;> exact Rel.step_was
theorem cur_at {r : Rel} {R : Nat → Int} {h a b : Nat} : cur r R h a b b = r.step R h a b := by unfold cur; rw [if_neg (Nat.lt_irrefl _)]
theorem cur_zero {r : Rel} {R : Nat → Int} {h a x : Nat} : cur r R h a 0 x = r.step R h a x := rfl
theorem cur_all {r : Rel} {R : Nat → Int} {h a x n : Nat} (hx : x < n) : cur r R h a n x = r.step R h (a + 1) x := by unfold cur; rw [if_pos hx]
theorem cur_same {r : Rel} {R : Nat → Int} {h a b : Nat} (hno : 0 ≤ r.step R h a b ∨ r.ok R h a b = false) (x : Nat) : cur r R h a b x = cur r R h a (b + 1) x := by
  unfold cur
  by_cases hx : x = b
  · subst hx
    rw [if_neg (Nat.lt_irrefl _), if_pos (Nat.lt_succ_self _)]
    rcases hno with h1 | h1
    · exact (Rel.step_pos h1).symm
    · exact (Rel.step_no h1).symm
  · by_cases h1 : x < b
    · rw [if_pos h1, if_pos (by omega)]
    · rw [if_neg h1, if_neg (by omega)]
theorem cur_set {r : Rel} {R : Nat → Int} {h a b : Nat} (h1 : r.step R h a b < 0) (h2 : r.ok R h a b = true) (x : Nat) : (if x = b then Value.int .i64 ((h : Int) + 1) else rowN (cur r R h a b) x) = rowN (cur r R h a (b + 1)) x := by
  show _ = Value.int .i64 _
  unfold cur
  by_cases hx : x = b
  · subst hx
    rw [if_pos rfl, if_pos (Nat.lt_succ_self _), Rel.step_yes h1 h2]
  · rw [if_neg hx]
    show Value.int .i64 (if x < b then _ else _) = _
    by_cases h1 : x < b
    · rw [if_pos h1, if_pos (by omega)]
    · rw [if_neg h1, if_neg (by omega)]
theorem ok_of {r : Rel} {R : Nat → Int} {h a b : Nat} (h1 : (a : Int) ≠ r.out) (h2 : (b : Int) ≠ r.out) (h3 : 0 ≤ R a) (h4 : R a ≤ h) (v : Bool) (h5 : r.c a b h = v) : r.ok R h a b = v := by
  unfold Rel.ok
  rw [h5, show decide ((a : Int) ≠ r.out) = true by simpa using h1, show decide ((b : Int) ≠ r.out) = true by simpa using h2, show decide (0 ≤ R a) = true by simpa using h3, show decide (R a ≤ h) = true by simpa using h4]
  cases v <;> rfl
theorem ok_no {r : Rel} {R : Nat → Int} {h a b : Nat} (h1 : ((a : Int) = r.out) ∨ ((b : Int) = r.out) ∨ ¬ (0 ≤ R a ∧ R a ≤ h)) : r.ok R h a b = false := by
  unfold Rel.ok
  rcases h1 with h1 | h1 | h1
  · simp [h1]
  · simp [h1]
  · by_cases h2 : 0 ≤ R a
    · have h3 : ¬ R a ≤ h := fun h3 => h1 ⟨h2, h3⟩
      simp [h3]
    · simp [h2]

/-- It returns a list. -/
def RetI (l : List Int) (w : World) (e : Ending) (w' : World) : Prop := ∃ a c, e = .returned (.slice a l.length c) ∧ Below w.heap.size w w' ∧ IntsAt w' a l

theorem row_made {W : World} {b n : Nat} {t : TypeId} {z : Value} (h : Box W b (madeCells #[z] n) t) : W.rowIs b t n (fun _ => z) := by
  obtain ⟨c, h1, h2, h3⟩ := World.rowIs_made W z n t
  have h4 := heap_alloc_new W (.cells (madeCells #[z] n) t)
  rw [h4] at h1
  injection h1 with h1
  injection h1 with h1
  subst h1
  exact ⟨_, h, h2, h3⟩
abbrev landC (q : LV) (L : Land) : Array Value := #[.slice q.a1 L.st.length q.c1, .slice q.a2 L.rd.length q.c2, .slice q.a3 L.cs.length q.c3, .slice q.a4 L.sn.length q.c4]
/-- The list under way. -/
structure Run (q : LV) (L : Land) (w : World) (g : Nat → Int) (wr : World) : Prop where
  W : Below w.heap.size w wr
  B : Box wr w.heap.size (landC q L) 27
  R : wr.rowIs (w.heap.size + 1) 3 L.st.length (rowN g)
theorem Run.later {q : LV} {L : Land} {w wr wr' : World} {g : Nat → Int} (h : Run q L w g wr) (hb : Below wr.heap.size wr wr') : Run q L w g wr' := ⟨over h.W hb, h.B.later hb, rowIs_later h.R hb⟩
theorem Run.congr {q : LV} {L : Land} {w wr : World} {g g' : Nat → Int} (h : Run q L w g wr) (e : ∀ x, x < L.st.length → g x = g' x) : Run q L w g' wr := ⟨h.W, h.B, h.R.congr fun x hx => by show Value.int .i64 _ = Value.int .i64 _; rw [e x hx]⟩
theorem Run.set {q : LV} {L : Land} {w wr : World} {g g' : Nat → Int} {i : Nat} {v : Int} (h : Run q L w g wr) (e : ∀ x, x < L.st.length → (if x = i then v else g x) = g' x) : Run q L w g' (wr.setCell ⟨w.heap.size + 1, i, none⟩ (.int .i64 v)) := by
  have hbut := setCell_but wr (w.heap.size + 1) i (.int .i64 v)
  refine ⟨hbut.below h.W (by omega), hbut.box h.B (by omega), (h.R.set i (.int .i64 v)).congr fun x hx => ?_⟩
  show _ = Value.int .i64 (g' x)
  rw [← e x hx]
  split <;> rfl
set_option maxRecDepth 100000 in
set_option maxHeartbeats 8000000 in
theorem rEarliest_any (q : LV) (L : Land) (f s k : Nat) (out : Int) (w : World) (hL : LandAt w q L) (hc : L.chk = 0) (hf : f < L.st.length) (hs : s ≤ L.sn.length) (hk : k < L.cs.length) :
    Calls Tryz.prog 25 #[landV q L, .int .i64 f, .int .i64 s, .int .i64 k, .int .i64 out] w (RetI (Land.fins L f s k out) w) := by
  have HL := Lib.hid hL
  have HC := Lib.hid hc
  obtain ⟨n6, n0, e12, e0, m4, m0⟩ := st_six hc
  have hmk := make_ints L.st.length (by omega)
  obtain ⟨r, hr⟩ : ∃ r, r = L.rel k out := ⟨_, rfl⟩
  have HOut : Hid (r.out = out) := by rw [hr]; rfl
  have HNn : Hid (r.n = L.st.length) := by rw [hr]; rfl
  have HCan : Hid (∀ a b h, r.c a b h = L.can a b k h) := fun a b h => by rw [hr]; rfl
  have HFin : Hid (Land.fins L f s k out = (List.range L.st.length).map (r.has f s (L.sn.length - s))) := by rw [hr]; rfl
  clear hL hc hr
  go_enter Tryz.func25, Tryz.ntmps25
  go_wp2_with fail
  refine named2 (p := Code.wp _ _ _ _) ?_
  intro W hW B5 B11
  have HRun : Hid (Run q L w (fun _ => 0) W) := ⟨hW, B5, row_made B11⟩
  clear B11 hmk hW B5
  go_loopw [12] (fun i' wr => ∃ i : Nat, i ≤ L.st.length ∧ i' = .int .i64 i ∧ Run q L w (fun x => if x < i then -1 else 0) wr) (fun i' _ => L.st.length - (intOf i').toNat)
  case atStart => exact ⟨0, Nat.zero_le _, rfl, HRun.out.congr fun x _ => by rw [if_neg (by omega)]⟩
  case round =>
    clear HRun
    obtain ⟨i, hi, rfl, hrun⟩ := hrel
    by_cases hlt : i < L.st.length
    · have e0 := hrun.R.cell hlt
      have f0 := hrun.R.frozen i
      have t0 := hrun.R.lt
      have r1 : (0 : Int) ≤ (i : Int) := by omega
      have r2 : (i : Int) < (L.st.length : Int) := by omega
      have HN : Hid (Run q L w (fun x => if x < i + 1 then -1 else 0) (wr.setCell ⟨w.heap.size + 1, i, none⟩ (.int .i64 (-1)))) := hrun.set fun x _ => by
        show (if x = i then (-1 : Int) else if x < i then -1 else 0) = if x < i + 1 then -1 else 0
        by_cases h1 : x = i
        · rw [if_pos h1, if_pos (by omega)]
        · rw [if_neg h1]
          by_cases h2 : x < i
          · rw [if_pos h2, if_pos (by omega)]
          · rw [if_neg h2, if_neg (by omega)]
      clear hrun
      go_wp2_with fail
      go_roundw
      case rel => exact ⟨i + 1, by omega, by go_num, HN.out⟩
      case measure => simp [intOf]; omega
    · obtain rfl : i = L.st.length := by omega
      have e0 := hrun.R.cell hf
      have f0 := hrun.R.frozen f
      have t0 := hrun.R.lt
      have r1 : (0 : Int) ≤ (f : Int) := by omega
      have r2 : (f : Int) < (L.st.length : Int) := by omega
      have HN : Hid (Run q L w (r.has f s 0) (wr.setCell ⟨w.heap.size + 1, f, none⟩ (.int .i64 (s : Int)))) := hrun.set fun x hx => by
        show (if x = f then (s : Int) else if x < L.st.length then -1 else 0) = if x = f then (s : Int) else -1
        split <;> first | rfl | exact if_pos hx
      clear hrun
      go_wp2_with fail
      clear e0 f0 t0 r1 r2
      go_loopw [13] (fun h' wr => ∃ j : Nat, s + j ≤ L.sn.length ∧ h' = .int .i64 ((s + j : Nat) : Int) ∧ Run q L w (r.has f s j) wr) (fun h' _ => L.sn.length - (intOf h').toNat)
      case atStart => exact ⟨0, by omega, by simp, HN.out⟩
      case round =>
        clear HN
        rename_i wr0 wr
        obtain ⟨j, hj, rfl, hrun⟩ := hrel
        have HRun := Lib.hid hrun
        have B5 := hrun.B
        clear hrun
        have c5 := B5.cell; have t5 := B5.lt
        go_wp2_with fail
        refine (rend_any q L wr).mono ?_
        rintro e w1 ⟨rfl, hb1⟩
        have HRun1 := Lib.hid (HRun.out.later hb1)
        clear HRun B5 c5 t5 hb1
        by_cases hlt2 : s + j < L.sn.length
        · have r1 : ((s + j : Nat) : Int) < (L.sn.length : Int) := by omega
          have HNext : Hid (∀ x, r.has f s (j + 1) x = r.step (r.has f s j) (s + j) L.st.length x) := fun x => by rw [← HNn.out]; rfl
          have HNeg : Hid (∀ x, r.has f s j x < 0 → r.has f s j x = -1) := fun x => Rel.has_neg _ _
          obtain ⟨R, hR⟩ : ∃ R, R = r.has f s j := ⟨_, rfl⟩
          rw [← hR] at HNext HNeg HRun1
          obtain ⟨hh, hhh⟩ : ∃ hh, hh = s + j := ⟨_, rfl⟩
          rw [← hhh] at r1 HNext hlt2 ⊢
          have HHh := Lib.hid hhh
          clear hR hhh
          go_wp2_with fail
          go_loopw [14] (fun a' wr => ∃ a : Nat, a ≤ L.st.length ∧ a' = .int .i64 a ∧ Run q L w (r.step R hh a) wr) (fun a' _ => L.st.length - (intOf a').toNat)
          case atStart => exact ⟨0, Nat.zero_le _, rfl, HRun1.out.congr fun x _ => (Rel.step_zero (HNeg.out x)).symm⟩
          case round =>
            clear HRun1
            rename_i wq wr
            obtain ⟨a, ha, rfl, hrun⟩ := hrel
            have HRun := Lib.hid hrun
            clear hrun
            by_cases hlta : a < L.st.length
            · have r2 : (0 : Int) ≤ (a : Int) := by omega
              have r3 : (a : Int) < (L.st.length : Int) := by omega
              go_wp2_with fail
              go_loopw [15] (fun b' wr => ∃ b : Nat, b ≤ L.st.length ∧ b' = .int .i64 b ∧ Run q L w (cur r R hh a b) wr) (fun b' _ => L.st.length - (intOf b').toNat)
              case atStart => exact ⟨0, Nat.zero_le _, rfl, HRun.out.congr fun x _ => cur_zero.symm⟩
              case round =>
                clear HRun
                rename_i wp wr
                obtain ⟨b, hb, rfl, hrun⟩ := hrel
                have HRun := Lib.hid hrun
                by_cases hltb : b < L.st.length
                · have ea : wr.cell? ⟨w.heap.size + 1, a, none⟩ = some (.int .i64 (cur r R hh a b a)) := hrun.R.cell hlta
                  have eb : wr.cell? ⟨w.heap.size + 1, b, none⟩ = some (.int .i64 (cur r R hh a b b)) := hrun.R.cell hltb
                  have fb := hrun.R.frozen b
                  have tb := hrun.R.lt
                  have B5 := hrun.B
                  have HWas := Lib.hid (cur_was (r := r) (R := R) (h := hh) (a := a) (b := b) (x := a))
                  have HVb : Hid (cur r R hh a b b = r.step R hh a b) := cur_at
                  have HBel := Lib.hid hrun.W
                  generalize cur r R hh a b a = va at *
                  generalize cur r R hh a b b = vb at *
                  have r4 : (0 : Int) ≤ (b : Int) := by omega
                  have r5 : (b : Int) < (L.st.length : Int) := by omega
                  have c5 := B5.cell; have t5 := B5.lt
                  clear hrun
                  by_cases e1 : (a : Int) = out
                  · have d1 : ((a : Int) != out) = false := by simpa using e1
                    have HE := Lib.hid e1
                    clear e1
                    have HN : Hid (Run q L w (cur r R hh a (b + 1)) wr) := HRun.out.congr fun x _ => cur_same (.inr (ok_no (.inl (by rw [HOut.out]; exact HE.out)))) x
                    clear HRun
                    go_wp2_with fail
                    go_roundw
                    case rel => exact ⟨b + 1, by omega, by go_num, HN.out⟩
                    case measure => simp [intOf]; omega
                  have d1 : ((a : Int) != out) = true := by simpa using e1
                  have HE1 := Lib.hid e1
                  clear e1
                  by_cases e2 : (b : Int) = out
                  · have d2 : ((b : Int) != out) = false := by simpa using e2
                    have HE := Lib.hid e2
                    clear e2
                    have HN : Hid (Run q L w (cur r R hh a (b + 1)) wr) := HRun.out.congr fun x _ => cur_same (.inr (ok_no (.inr (.inl (by rw [HOut.out]; exact HE.out))))) x
                    clear HRun
                    go_wp2_with fail
                    go_roundw
                    case rel => exact ⟨b + 1, by omega, by go_num, HN.out⟩
                    case measure => simp [intOf]; omega
                  have d2 : ((b : Int) != out) = true := by simpa using e2
                  have HE2 := Lib.hid e2
                  clear e2
                  by_cases e3 : 0 ≤ va
                  case neg =>
                    have HN : Hid (Run q L w (cur r R hh a (b + 1)) wr) := HRun.out.congr fun x _ => cur_same (.inr (ok_no (.inr (.inr fun h => e3 (HWas.out.2 h).1)))) x
                    clear HRun
                    go_wp2_with fail
                    go_roundw
                    case rel => exact ⟨b + 1, by omega, by go_num, HN.out⟩
                    case measure => simp [intOf]; omega
                  by_cases e4 : va ≤ (hh : Int)
                  case neg =>
                    have HN : Hid (Run q L w (cur r R hh a (b + 1)) wr) := HRun.out.congr fun x _ => cur_same (.inr (ok_no (.inr (.inr fun h => e4 (HWas.out.2 h).2)))) x
                    clear HRun
                    go_wp2_with fail
                    go_roundw
                    case rel => exact ⟨b + 1, by omega, by go_num, HN.out⟩
                    case measure => simp [intOf]; omega
                  by_cases e5 : vb < 0
                  case neg =>
                    have HN : Hid (Run q L w (cur r R hh a (b + 1)) wr) := HRun.out.congr fun x _ => cur_same (.inl (by rw [← HVb.out]; omega)) x
                    clear HRun
                    go_wp2_with fail
                    go_roundw
                    case rel => exact ⟨b + 1, by omega, by go_num, HN.out⟩
                    case measure => simp [intOf]; omega
                  obtain ⟨cv, hcv⟩ : ∃ cv, cv = L.can a b k hh := ⟨_, rfl⟩
                  have HCall := rCan_any q L a b k hh wr (HL.out.later HBel.out) HC.out hlta hltb hk hlt2
                  rw [← hcv] at HCall
                  replace HCall := Lib.hid HCall
                  have HOk : Hid (r.ok R hh a b = cv) := ok_of (by rw [HOut.out]; exact HE1.out) (by rw [HOut.out]; exact HE2.out) (HWas.out.1 ⟨e3, e4⟩).1 (HWas.out.1 ⟨e3, e4⟩).2 cv (by rw [HCan.out, hcv])
                  clear hcv
                  go_wp2_with fail
                  refine HCall.out.mono ?_
                  rintro e w2 ⟨rfl, hb2⟩
                  have HRun2 := Lib.hid (HRun.out.later hb2)
                  clear HRun HCall ea eb fb tb B5 c5 t5 hb2
                  have fb := HRun2.out.R.frozen b
                  have tb := HRun2.out.R.lt
                  have eb := HRun2.out.R.cell hltb
                  cases cv with
                  | false =>
                    have HN : Hid (Run q L w (cur r R hh a (b + 1)) w2) := HRun2.out.congr fun x _ => cur_same (.inr HOk.out) x
                    clear HRun2
                    go_wp2_with fail
                    go_roundw
                    case rel => exact ⟨b + 1, by omega, by go_num, HN.out⟩
                    case measure => simp [intOf]; omega
                  | true =>
                    have HN : Hid (Run q L w (cur r R hh a (b + 1)) (w2.setCell ⟨w.heap.size + 1, b, none⟩ (.int .i64 ((hh : Int) + 1)))) := HRun2.out.set fun x _ => by
                      have h := cur_set (r := r) (R := R) (h := hh) (a := a) (b := b) (by rw [← HVb.out]; exact e5) HOk.out x
                      by_cases hx : x = b
                      · rw [if_pos hx] at h ⊢; injection h
                      · rw [if_neg hx] at h ⊢; injection h
                    clear HRun2
                    go_wp2_with fail
                    go_roundw
                    case rel => exact ⟨b + 1, by omega, by go_num, HN.out⟩
                    case measure => simp [intOf]; omega
                · obtain rfl : b = L.st.length := by omega
                  have HN : Hid (Run q L w (r.step R hh (a + 1)) wr) := hrun.congr fun x hx => cur_all hx
                  clear HRun hrun
                  go_wp2_with fail
                  go_roundw
                  case rel => exact ⟨a + 1, by omega, by go_num, HN.out⟩
                  case measure => simp [intOf]; omega
            · obtain rfl : a = L.st.length := by omega
              have HN : Hid (Run q L w (r.has f s (j + 1)) wr) := HRun.out.congr fun x _ => (HNext.out x).symm
              clear HRun
              go_wp2_with fail
              go_roundw
              case rel => exact ⟨j + 1, by have := HHh.out; omega, by rw [HHh.out]; go_num, HN.out⟩
              case measure =>
                show L.sn.length - ((hh : Int) + 1).toNat < L.sn.length - (((s + j : Nat) : Int)).toNat
                have := HHh.out
                omega
        · have hj2 : j = L.sn.length - s := by omega
          have HI : Hid (IntsAt w1 (some ⟨w.heap.size + 1, 0, none⟩) (Land.fins L f s k out)) := by
            show IntsAt _ _ _
            rw [HFin.out, ← hj2]
            exact ints_row HRun1.out.R
          have HW := Lib.hid HRun1.out.W
          have HLn : Hid (L.st.length = (Land.fins L f s k out).length) := by show _ = _; rw [HFin.out]; simp
          clear HRun1 hj2
          go_wp2_with fail
          go_ret
          exact ⟨some ⟨w.heap.size + 1, 0, none⟩, L.st.length, by rw [← HLn.out]; rfl, HW.out, HI.out⟩
end Go.Proofs.YtfihdaoakfdlpaaGreat
end

section
/- Layer 3, the references, the walks: where it sticks, the sure hour, the latest start. -/
open Go.RowKit
namespace Go.Proofs.YtfihdaoakfdlpaaGreat
open Go.Hill

theorem fins_at {L : Land} {f s k t : Nat} {out : Int} (ht : t < L.st.length) : (Land.fins L f s k out)[t]? = some (L.fin f s k out t) := by
  show ((List.range L.st.length).map fun x => L.fin f s k out x)[t]? = _
  rw [List.getElem?_map, List.getElem?_range ht]; rfl
theorem fins_len {L : Land} {f s k : Nat} {out : Int} : (Land.fins L f s k out).length = L.st.length := by
  show ((List.range L.st.length).map fun x => L.fin f s k out x).length = _
  simp
theorem fin_neg {L : Land} {f s k t : Nat} {out : Int} (hs : s ≤ L.sn.length) : L.fin f s k out t < 0 ↔ (L.sn.length : Int) < L.hat f s k out t := (Rel.hat_gt (r := L.rel k out) hs).symm
theorem fin_eq {L : Land} {f s k t : Nat} {out : Int} (h : ¬ L.fin f s k out t < 0) : L.hat f s k out t = L.fin f s k out t := by
  show (if (L.rel k out).fin f s t < 0 then _ else _) = _
  exact if_neg h
set_option maxRecDepth 100000 in
set_option maxHeartbeats 4000000 in
theorem rStuck3_any (q : LV) (L : Land) (f t s : Nat) (out : Int) (w : World) (hL : LandAt w q L) (hc : L.chk = 0) (hf : f < L.st.length) (ht : t < L.st.length) (hs : s ≤ L.sn.length) :
    Calls Tryz.prog 20 #[landV q L, .int .i64 f, .int .i64 t, .int .i64 s, .int .i64 out] w (RetI (L.stk f t s out) w) := by
  have HL := Lib.hid hL
  have HC := Lib.hid hc
  obtain ⟨n6, n0, e12, e0, m4, m0⟩ := st_six hc
  obtain ⟨p, hp⟩ : ∃ p : Nat → Bool, p = fun k => decide ((L.sn.length : Int) < L.hat f s k out t) := ⟨_, rfl⟩
  have HStk : Hid (L.stk f t s out = sel p L.cs.length) := by rw [hp]; rfl
  have HP : Hid (∀ k, p k = decide (L.fin f s k out t < 0)) := fun k => by rw [hp]; exact decide_eq_decide.2 (fin_neg hs).symm
  clear hL hc hp
  go_enter Tryz.func20, Tryz.ntmps20
  go_wp2_with fail
  refine named1 (p := Code.wp _ _ _ _) ?_
  intro W hW B5
  have HB5 := Lib.hid B5
  have hsz := hW.size
  clear B5
  go_loopw [11, 12] (fun v i' wr => ∃ k : Nat, k ≤ L.cs.length ∧ i' = .int .i64 k ∧ Below W.heap.size W wr ∧ Own wr W.heap.size 3 1 v (ivs (sel p k))) (fun _ i' _ => L.cs.length - (intOf i').toNat)
  case atStart => exact ⟨0, Nat.zero_le _, rfl, Below.refl _ _, Own.nil _ _ _ _⟩
  case round =>
    obtain ⟨k, hk, rfl, hb, hO⟩ := hrel
    have HO := Lib.hid hO
    have B5 := HB5.out.later hb
    clear hO
    have c5 := B5.cell; have t5 := B5.lt
    by_cases hlt : k < L.cs.length
    · have HE := Lib.hid (rEarliest_any q L f s k out wr (HL.out.later (over hW hb)) HC.out hf hs hlt)
      have HPk := Lib.hid (HP.out k)
      have HAt : Hid ((Land.fins L f s k out)[t]? = some (L.fin f s k out t)) := fins_at ht
      have HLn : Hid ((Land.fins L f s k out).length = L.st.length) := fins_len
      generalize Land.fins L f s k out = fl at *
      generalize L.fin f s k out t = g at *
      have r1 : (0 : Int) ≤ (t : Int) := by omega
      go_wp2_with fail
      refine HE.out.mono ?_
      rintro e w2 ⟨a, c, rfl, hb2, hr2⟩
      have htl : t < fl.length := by have := HLn.out; omega
      obtain ⟨p1, o1, rfl, hC1⟩ := RowAt.at hr2 htl
      have e0 := cells_one hC1 HAt.out
      have z1 : p1 < w2.heap.size := block_lt_of_cell e0
      have r2 : (t : Int) < (fl.length : Int) := by omega
      have hb := over hb hb2
      replace HO := Lib.hid (HO.out.later hb2)
      clear HE hb2 hr2 hC1 c5 t5 B5
      by_cases hneg : g < 0
      · have hpt : p k = true := by rw [HPk.out]; simpa using hneg
        have hn := sel_len p k
        have HPt := Lib.hid hpt
        have hszb := hb.size
        clear hpt HPk
        go_wp2_with (at_builtin; refine named1 (p := wpList _ _ _ _ _) ?_; intro w6 hb6 B53; have hO := HO.out.later hb6; refine wpList_grow rfl (.tmp 30) (.tmp 32) 40 rfl elem_int rfl hO rfl B53 rfl (by omega) rfl (n := (sel p k).length) (by simp) (by omega) (by omega) (Nat.le_trans hszb hb6.size) ?_; intro a' c' W' hO' hb' hg'; have hb := (over hb hb6).trans hb'; clear hg' hO B53 hb' hb6)
        have HN : Hid (Own W' W.heap.size 3 1 (.slice a' ((sel p k).length + 1) c') (ivs (sel p (k + 1)))) := by
          rw [Hid, sel_yes HPt.out, ivs, List.map_append]; exact hO'
        clear hO'
        go_roundw
        case rel => exact ⟨k + 1, by omega, by go_num, hb, HN.out⟩
        case measure => simp [intOf]; omega
      · have hpf : p k = false := by rw [HPk.out]; simpa using hneg
        have HPf := Lib.hid hpf
        clear hpf HPk
        go_wp2_with fail
        go_roundw
        case rel => exact ⟨k + 1, by omega, by go_num, hb, by rw [sel_no HPf.out]; exact HO.out⟩
        case measure => simp [intOf]; omega
    · obtain rfl : k = L.cs.length := by omega
      obtain ⟨ra, rc, rfl, _, hr⟩ := HO.out.row
      rw [List.length_map]
      have HRw := Lib.hid hr
      have hWb := over hW hb
      clear hr HO
      go_wp2_with fail
      go_ret
      rw [HStk.out]
      exact ⟨ra, rc, rfl, hWb, HRw.out⟩

/-- The sure hour, or -1. -/
def Land.rsur (L : Land) (f t s : Nat) : Int × Int := if (L.sur f t s (-1)).1 ≤ L.sn.length then ((L.sur f t s (-1)).1, (L.sur f t s (-1)).2) else (-1, 0)
set_option maxRecDepth 100000 in
set_option maxHeartbeats 4000000 in
theorem rSure3_any (q : LV) (L : Land) (f t s : Nat) (w : World) (hL : LandAt w q L) (hc : L.chk = 0) (hf : f < L.st.length) (ht : t < L.st.length) (hs : s ≤ L.sn.length) :
    Calls Tryz.prog 26 #[landV q L, .int .i64 f, .int .i64 t, .int .i64 s] w (Ret (.tuple #[.int .i64 (Land.rsur L f t s).1, .int .i64 (Land.rsur L f t s).2]) w) := by
  have HL := Lib.hid hL
  have HC := Lib.hid hc
  obtain ⟨n6, n0, e12, e0, m4, m0⟩ := st_six hc
  obtain ⟨hv, hhv⟩ : ∃ hv : Nat → Int, hv = fun k => L.hat f s k (-1) t := ⟨_, rfl⟩
  obtain ⟨r, hr⟩ : ∃ r, r = Land.rsur L f t s := ⟨_, rfl⟩
  rw [← hr]
  have HR : Hid (r = if (surF hv L.cs.length).1 ≤ L.sn.length then ((surF hv L.cs.length).1, ((surF hv L.cs.length).2 : Int)) else (-1, 0)) := by rw [hr, hhv]; rfl
  have HHv : Hid (∀ k, (L.fin f s k (-1) t < 0 ↔ (L.sn.length : Int) < hv k) ∧ (¬ L.fin f s k (-1) t < 0 → hv k = L.fin f s k (-1) t)) := fun k => by rw [hhv]; exact ⟨fin_neg hs, fin_eq⟩
  clear hL hc hr hhv
  go_enter Tryz.func26, Tryz.ntmps26
  go_wp2_with fail
  refine named1 (p := Code.wp _ _ _ _) ?_
  intro W hW B4
  have HB4 := Lib.hid B4
  clear B4
  go_loopw [10, 11, 12] (fun h' a' i' wr => ∃ k : Nat, k ≤ L.cs.length ∧ i' = .int .i64 k ∧ h' = .int .i64 (surF hv k).1 ∧ a' = .int .i64 ((surF hv k).2 : Nat) ∧ Below W.heap.size W wr ∧ ∀ j, j < k → hv j ≤ L.sn.length) (fun _ _ i' _ => L.cs.length - (intOf i').toNat)
  case atStart => exact ⟨0, Nat.zero_le _, rfl, rfl, rfl, Below.refl _ _, fun j hj => by omega⟩
  case round =>
    obtain ⟨k, hk, rfl, rfl, rfl, hb, hall⟩ := hrel
    have HAll := Lib.hid hall
    have B4 := HB4.out.later hb
    clear hall
    have c4 := B4.cell; have t4 := B4.lt
    by_cases hlt : k < L.cs.length
    · have HE := Lib.hid (rEarliest_any q L f s k (-1) wr (HL.out.later (over hW hb)) HC.out hf hs hlt)
      obtain ⟨hk1, hk2⟩ := HHv.out k
      have HK1 := Lib.hid hk1
      have HK2 := Lib.hid hk2
      have HAt : Hid ((Land.fins L f s k (-1))[t]? = some (L.fin f s k (-1) t)) := fins_at ht
      have HLn : Hid ((Land.fins L f s k (-1)).length = L.st.length) := fins_len
      have HSt : Hid (surF hv (k + 1) = if (surF hv k).1 < hv k then (hv k, k) else surF hv k) := rfl
      generalize hsf : surF hv k = sf at HSt ⊢
      obtain ⟨s1, s2⟩ := sf
      clear hk1 hk2 hsf
      generalize Land.fins L f s k (-1) = fl at *
      generalize L.fin f s k (-1) t = g at *
      have r1 : (0 : Int) ≤ (t : Int) := by omega
      go_wp2_with fail
      refine HE.out.mono ?_
      rintro e w2 ⟨a, c, rfl, hb2, hr2⟩
      have htl : t < fl.length := by have := HLn.out; omega
      obtain ⟨p1, o1, rfl, hC1⟩ := RowAt.at hr2 htl
      have e0 := cells_one hC1 HAt.out
      have z1 : p1 < w2.heap.size := block_lt_of_cell e0
      have r2 : (t : Int) < (fl.length : Int) := by omega
      have hb := over hb hb2
      clear HE hb2 hr2 hC1 c4 t4 B4
      by_cases hneg : g < 0
      · have HEnd : Hid (r = (-1, 0)) := by
          show _ = _
          rw [HR.out, if_neg]
          have h1 := HK1.out.1 hneg
          have h2 := surF_le (g := hv) hlt
          omega
        have hWb := over hW hb
        clear HR
        go_wp2_with fail
        go_ret2
        rw [HEnd.out]
        exact ⟨rfl, hWb⟩
      · have hkg : hv k = g := HK2.out (by omega)
        have HAll2 : Hid (∀ j, j < k + 1 → hv j ≤ L.sn.length) := fun j hj => by
          rcases Nat.lt_succ_iff_lt_or_eq.1 hj with h | rfl
          · exact HAll.out j h
          · exact Int.not_lt.1 fun h => by have := HK1.out.2 h; omega
        have hst := HSt.out
        rw [hkg] at hst
        clear HAll HK1 HK2 HSt
        by_cases hgt : s1 < g
        · rw [if_pos hgt] at hst
          have HS2 := Lib.hid hst
          clear hst hkg
          go_wp2_with fail
          go_roundw
          case rel => exact ⟨k + 1, by omega, by go_num, by rw [HS2.out], by rw [HS2.out], hb, HAll2.out⟩
          case measure => simp [intOf]; omega
        · rw [if_neg hgt] at hst
          have HS2 := Lib.hid hst
          clear hst hkg
          go_wp2_with fail
          go_roundw
          case rel => exact ⟨k + 1, by omega, by go_num, by rw [HS2.out], by rw [HS2.out], hb, HAll2.out⟩
          case measure => simp [intOf]; omega
    · obtain rfl : k = L.cs.length := by omega
      have HEnd : Hid (r = ((surF hv L.cs.length).1, ((surF hv L.cs.length).2 : Int))) := by
        show _ = _
        rw [HR.out, if_pos]
        rcases surF_cases hv L.cs.length with ⟨h1, _⟩ | ⟨h1, h2, _⟩
        · rw [h1]; simp only; omega
        · rw [h2]; exact HAll.out _ h1
      have hWb := over hW hb
      generalize surF hv L.cs.length = sf at *
      clear HR HAll
      go_wp2_with fail
      go_ret2
      rw [HEnd.out]
      exact ⟨rfl, hWb⟩

theorem sur_ge {L : Land} {f t s : Nat} (hc : 0 < L.cs.length) (hs : s ≤ L.sn.length) : (s : Int) ≤ (L.sur f t s (-1)).1 := by
  have h1 := surF_le (g := fun k => L.hat f s k (-1) t) hc
  have h2 : (s : Int) ≤ L.hat f s 0 (-1) t := (Rel.hat_bd (r := L.rel 0 (-1)) (f := f) hs t).1
  exact Int.le_trans h2 h1
theorem lat_all {L : Land} {f t u : Nat} (hc : 0 < L.cs.length) (hu : u ≤ L.sn.length) : lastF (fun s => decide ((L.sur f t s (-1)).1 ≤ u)) (L.sn.length + 1) = L.lat f t u := by
  unfold Land.lat
  rw [show L.sn.length + 1 = (u + 1) + (L.sn.length - u) by omega]
  exact lastF_more _ fun k h1 h2 => by
    have := sur_ge (f := f) (t := t) hc (show k ≤ L.sn.length by omega)
    simp only [decide_eq_false_iff_not]
    omega
set_option maxRecDepth 100000 in
set_option maxHeartbeats 4000000 in
theorem rLatest3_any (q : LV) (L : Land) (f t u : Nat) (w : World) (hL : LandAt w q L) (hc : L.chk = 0) (hf : f < L.st.length) (ht : t < L.st.length) (hu : u ≤ L.sn.length) :
    Calls Tryz.prog 19 #[landV q L, .int .i64 f, .int .i64 t, .int .i64 u] w (Ret (.int .i64 (L.lat f t u)) w) := by
  have HL := Lib.hid hL
  have HC := Lib.hid hc
  obtain ⟨n6, n0, e12, e0, m4, m0⟩ := st_six hc
  obtain ⟨p, hp⟩ : ∃ p : Nat → Bool, p = fun s => decide ((L.sur f t s (-1)).1 ≤ u) := ⟨_, rfl⟩
  have HLat : Hid (lastF p (L.sn.length + 1) = L.lat f t u) := by rw [hp]; exact lat_all m0 hu
  have HP : Hid (∀ s, s ≤ L.sn.length → p s = (decide (0 ≤ (Land.rsur L f t s).1) && decide ((Land.rsur L f t s).1 ≤ u))) := fun s hs => by
    have h1 := sur_ge (f := f) (t := t) m0 hs
    rw [hp]
    unfold Land.rsur
    split
    · simp only
      rw [show decide (0 ≤ (L.sur f t s (-1)).1) = true by simp only [decide_eq_true_eq]; omega, Bool.true_and]
    · simp only
      rw [show decide ((0 : Int) ≤ -1) = false from rfl, Bool.false_and]
      simp only [decide_eq_false_iff_not]
      omega
  clear hL hc hp
  go_enter Tryz.func19, Tryz.ntmps19
  go_wp2_with fail
  refine named1 (p := Code.wp _ _ _ _) ?_
  intro W hW B4
  have HB4 := Lib.hid B4
  clear B4
  go_loopw [9, 10] (fun b' i' wr => ∃ s : Nat, s ≤ L.sn.length + 1 ∧ i' = .int .i64 s ∧ b' = .int .i64 (lastF p s) ∧ Below W.heap.size W wr) (fun _ i' _ => L.sn.length + 1 - (intOf i').toNat)
  case atStart => exact ⟨0, Nat.zero_le _, rfl, rfl, Below.refl _ _⟩
  case round =>
    obtain ⟨s, hs, rfl, rfl, hb⟩ := hrel
    have B4 := HB4.out.later hb
    have c4 := B4.cell; have t4 := B4.lt
    go_wp2_with fail
    refine (rend_any q L wr).mono ?_
    rintro e w1 ⟨rfl, hb1⟩
    replace hb := over hb hb1
    (try clear c4 t4); replace B4 := B4.later hb1; have c4 := B4.cell; have t4 := B4.lt
    clear hb1
    by_cases hlt : s ≤ L.sn.length
    · have HS := Lib.hid (rSure3_any q L f t s w1 (HL.out.later (over hW hb)) HC.out hf ht hlt)
      have HPs := Lib.hid (HP.out s hlt)
      have HNx : Hid (lastF p (s + 1) = if p s then (s : Int) else lastF p s) := rfl
      generalize Land.rsur L f t s = r at *
      obtain ⟨r1, r2⟩ := r
      generalize lastF p s = b at *
      go_wp2_with fail
      refine HS.out.mono ?_
      rintro e w2 ⟨rfl, hb2⟩
      replace hb := over hb hb2
      clear hb2 HS c4 t4 B4
      by_cases h0 : 0 ≤ r1
      · by_cases h1 : r1 ≤ (u : Int)
        · have HN2 : Hid (lastF p (s + 1) = s) := by
            show _ = _
            rw [HNx.out, HPs.out, show decide (0 ≤ r1) = true by simpa using h0, show decide (r1 ≤ (u : Int)) = true by simpa using h1]; rfl
          clear HNx HPs
          go_wp2_with fail
          go_roundw
          case rel => exact ⟨s + 1, by omega, by go_num, by rw [HN2.out], hb⟩
          case measure => simp [intOf]; omega
        · have HN2 : Hid (lastF p (s + 1) = b) := by
            show _ = _
            rw [HNx.out, HPs.out, show decide (r1 ≤ (u : Int)) = false by simpa using h1, Bool.and_false]; rfl
          clear HNx HPs
          go_wp2_with fail
          go_roundw
          case rel => exact ⟨s + 1, by omega, by go_num, by rw [HN2.out], hb⟩
          case measure => simp [intOf]; omega
      · have HN2 : Hid (lastF p (s + 1) = b) := by
          show _ = _
          rw [HNx.out, HPs.out, show decide (0 ≤ r1) = false by simpa using h0]; rfl
        clear HNx HPs
        go_wp2_with fail
        go_roundw
        case rel => exact ⟨s + 1, by omega, by go_num, by rw [HN2.out], hb⟩
        case measure => simp [intOf]; omega
    · obtain rfl : s = L.sn.length + 1 := by omega
      have hWb := over hW hb
      rw [HLat.out]
      generalize L.lat f t u = lv at *
      have r1 : (((L.sn.length + 1 : Nat) : Int) ≤ (L.sn.length : Int)) = False := by simp only [eq_iff_iff, iff_false]; omega
      clear c4 t4 B4 HLat
      go_wp2_with fail
      go_ret
      exact ⟨rfl, hWb⟩
end Go.Proofs.YtfihdaoakfdlpaaGreat
end
