import Derived.Test.YtingfmdbihbamaaGreatWC
import Derived.Test.YtingfmdbihbamaaGreatGen0
section
/- Rows that a call of layer 1 makes for itself. -/
open Go.RowKit
namespace Go.Proofs.YtingfmdbihbamaaGreat
end Go.Proofs.YtingfmdbihbamaaGreat
end

section
/- The statements' own helpers: clouds converted. -/
open Go.RowKit
namespace Go.Proofs.YtingfmdbihbamaaGreat
open Go.Hill

theorem elem_cd : Elem Tryz.prog 101 129 8 64 := ⟨by kernel_rfl, by kernel_rfl⟩
theorem elem_st : Elem Tryz.prog 34 86 4 32 := ⟨by kernel_rfl, by kernel_rfl⟩
theorem elem_wl : Elem Tryz.prog 35 99 6 48 := ⟨by kernel_rfl, by kernel_rfl⟩
theorem elem_sn : Elem Tryz.prog 37 87 3 24 := ⟨by kernel_rfl, by kernel_rfl⟩
theorem elem_cs : Elem Tryz.prog 36 101 1 24 := ⟨by kernel_rfl, by kernel_rfl⟩

set_option maxRecDepth 100000 in
theorem clouds_any (l : List Cd) (a : Option Addr) (c : Nat) (w : World) (hl : RowAt w a 8 (l.map Cd.vs)) (l1 : l.length ≤ 1000) :
    Calls Tryz.prog 22 #[.slice a l.length c] w (RetRow 129 8 (l.map Cd.vs) w) := by
  have HA := Lib.hid hl
  clear hl
  go_enter Tryz.func22, Tryz.ntmps22
  go_wp2_with fail
  go_loopw [3, 4] (fun v i wr => ∃ k : Nat, k ≤ l.length ∧ i = .int .i64 k ∧ Below w.heap.size w wr ∧ Own wr w.heap.size 129 8 v ((l.take k).map Cd.vs)) (fun _ i _ => l.length - (intOf i).toNat)
  case atStart => exact ⟨0, Nat.zero_le _, rfl, Below.refl _ _, Own.nil _ _ _ _⟩
  case round =>
    obtain ⟨k, hk, rfl, hb, hp⟩ := hrel
    have HP := Lib.hid hp
    clear hp
    by_cases hlt : k < l.length
    · obtain ⟨p1, o1, rfl, hC1⟩ := RowAt.at HA.out hlt
      obtain ⟨x, hx⟩ : ∃ x, l[k]? = some x := ⟨l[k], by simp⟩
      obtain ⟨e0, e1, e2, e3, e4, e5, e6, e7⟩ := cells_cd (hC1.later hb) hx
      have z1 := block_lt_of_cell e0
      have HX := Lib.hid hx
      clear hx hC1
      have r1 : (0 : Int) ≤ (k : Int) := by omega
      have r2 : (k : Int) < (l.length : Int) := by omega
      go_wp2_with fail
      refine Fat.wp_region 19 [6, 17, 18] [] (fun i => if i = 6 then isSpec (.agg #[.int .i64 x.wl.X1, .int .i64 x.wl.Y1, .int .i64 x.wl.X2, .int .i64 x.wl.Y2, .int .i64 x.wl.B, .int .i64 x.wl.T]) else if i = 17 then isSpec (.agg #[.int .i64 x.wl.X1, .int .i64 x.wl.Y1, .int .i64 x.wl.X2, .int .i64 x.wl.Y2, .int .i64 x.wl.B, .int .i64 x.wl.T, .int .i64 x.fr, .int .i64 x.to]) else oneSpec 129 #[.int .i64 x.wl.X1, .int .i64 x.wl.Y1, .int .i64 x.wl.X2, .int .i64 x.wl.Y2, .int .i64 x.wl.B, .int .i64 x.wl.T, .int .i64 x.fr, .int .i64 x.to])
        (fun i => by (repeat' split) <;> first | exact isSpec_lasting _ | exact oneSpec_lasting _ _)
        (fun i => by (repeat' split) <;> first | exact isSpec_local _ | exact oneSpec_local _ _) (by kernel_rfl) (by kernel_rfl) ?_
      simp only [List.take_succ_cons, List.take_zero, Fat.pick, List.contains_cons, List.contains_nil, Nat.reduceAdd, Nat.reduceBEq]
      repeat (first | simp only [Bool.or_false] | simp only [Bool.or_true] | simp only [Bool.true_or] | simp only [Bool.false_eq_true] | simp only [if_true] | simp only [if_false])
      repeat (go_big_quiet_step (fail))
      refine wpQuiet_nil ?_
      refine ⟨?_, ?_, ?_⟩
      · intro i o hi hown ho vals lo hi' W hW hdep
        simp only [List.contains_cons, List.contains_nil, Bool.or_false] at hi
        (try simp only [Bool.or_eq_true] at hi)
        simp only [beq_iff_eq] at hi
        rcases hi with rfl | rfl | rfl
        all_goals first
          | exact absurd hown (by decide)
          | (simp only [List.getElem?_cons_succ, List.getElem?_cons_zero, Option.some.injEq] at ho; subst ho; refine .inl ⟨rfl, ?_⟩; simp only [Fat.putN, Fat.dstOf, Act.put, List.getElem?_toArray, List.getElem?_cons_succ, List.getElem?_cons_zero, Option.bind_some, List.setIfInBounds_toArray, List.set_cons_succ, List.set_cons_zero])
        · go_simp
          exact (wall_any x.wl W).mono fun e w'' ⟨he, h⟩ => ⟨_, he, h, rfl⟩
        · obtain ⟨_, _, _, (hv : vals 6 = _)⟩ := hdep 6 rfl (by kernel_rfl)
          rw [hv]
          go_simp
          exact ⟨Below.refl _ _, rfl⟩
        · obtain ⟨_, _, _, (hv : vals 17 = _)⟩ := hdep 17 rfl (by kernel_rfl)
          rw [hv]
          go_simp
          exact oneSpec_new _ _ _
      · intro i o hi hown ho vals lo hi' W hW hdep
        simp only [List.contains_cons, List.contains_nil, Bool.or_false] at hi
        (try simp only [Bool.or_eq_true] at hi)
        simp only [beq_iff_eq] at hi
        rcases hi with rfl | rfl | rfl
        all_goals first
          | exact absurd (by decide) hown
          | (simp only [List.getElem?_cons_succ, List.getElem?_cons_zero, Option.some.injEq] at ho; subst ho; refine ⟨rfl, ?_⟩; simp only [Fat.putN, Fat.dstOf, Act.put, List.getElem?_toArray, List.getElem?_cons_succ, List.getElem?_cons_zero, Option.bind_some, List.setIfInBounds_toArray, List.set_cons_succ, List.set_cons_zero]; (try simp only [Option.bind_none]))
      · intro vals lo hi' w5 hb3 hphi hdis htied
        obtain ⟨_, _, _, (q6 : vals 6 = _)⟩ := hphi 6 rfl
        obtain ⟨_, _, _, (q17 : vals 17 = _)⟩ := hphi 17 rfl
        obtain ⟨_, _, _, (q18 : vals 18 = _), _, (B29 : Box w5 (lo 18) _ _)⟩ := hphi 18 rfl
        simp only [Fat.putN, Fat.dstOf, Act.put, List.getElem?_toArray, List.getElem?_cons_succ, List.getElem?_cons_zero, Option.bind_some, List.setIfInBounds_toArray, List.set_cons_succ, List.set_cons_zero, List.drop_succ_cons, List.drop_zero]
        rw [q6, q17, q18]
        clear q6 q17 q18 hphi hdis htied vals
        generalize lo 18 = b29 at *
        have hO := HP.out.later hb3
        replace hb := over hb hb3
        clear hb3 e0 e1 e2 e3 e4 e5 e6 e7 z1
        refine wpList_grow rfl (.tmp 11) (.tmp 29) 101 rfl elem_cd rfl hO rfl B29 rfl (by omega) rfl (n := k) (by simp; omega) (by omega) (by omega) hb.size ?_
        intro a' c' W' hO' hb' _
        replace hb := hb.trans hb'
        have HO : Hid (Own W' w.heap.size 129 8 (.slice a' (k + 1) c') ((l.take (k + 1)).map Cd.vs)) := by rw [Hid, take_map_succ HX.out]; exact hO'
        clear hO' hb' B29 hO
        go_wp2_with fail
        go_roundw
        case rel => exact ⟨k + 1, by omega, by go_num, hb, HO.out⟩
        case measure => simp [intOf]; omega
    · go_wp2_with fail
      go_ret
      refine ⟨_, rfl, hb, ?_⟩
      have h1 := HP.out
      rw [List.take_of_length_le (by omega)] at h1
      exact h1
end Go.Proofs.YtingfmdbihbamaaGreat
end

section
/- The statements' own helpers: lands converted. -/
open Go.RowKit
namespace Go.Proofs.YtingfmdbihbamaaGreat
open Go.Hill

/-- It returns a land, in memory of its own. -/
def RetLand (L : Land) (w : World) (e : Ending) (w' : World) : Prop :=
  ∃ q : LV, e = .returned (.agg #[.slice q.a1 L.st.length q.c1, .slice q.a2 L.rd.length q.c2, .slice q.a3 L.cs.length q.c3, .slice q.a4 L.sn.length q.c4]) ∧ Below w.heap.size w w' ∧ LandAt w' q L

/-- Cases in memory of the call's own. -/
def CasesOwn (W : World) (n0 : Nat) (v : Value) (css : List (List Cd)) : Prop :=
  ∃ l : List CV, l.map (·.cs) = css ∧ Own W n0 101 1 v (l.map fun x => [.slice x.a x.cs.length x.c]) ∧ ∀ x ∈ l, Own W n0 129 8 (.slice x.a x.cs.length x.c) (x.cs.map Cd.vs)
theorem CasesOwn.later {W W' : World} {n0 : Nat} {v : Value} {css : List (List Cd)} (h : CasesOwn W n0 v css) (hb : Below W.heap.size W W') : CasesOwn W' n0 v css := by
  obtain ⟨l, h1, h2, h3⟩ := h
  exact ⟨l, h1, h2.later hb, fun x hx => (h3 x hx).later hb⟩
theorem CasesOwn.nil (W : World) (n0 : Nat) : CasesOwn W n0 (.slice none 0 0) [] := ⟨[], rfl, Own.nil _ _ _ _, by simp⟩
theorem CasesOwn.aside {wr w5 W' W'' : World} {B b : Nat} {E : TypeId} {s : Nat} {v1 v : Value} {css : List (List Cd)} {xs : List (List Value)} (h : CasesOwn wr B v1 css) (hb : Below wr.heap.size wr w5) (h2 : Own w5 B E s v xs) (hne : 101 ≠ E) (hne2 : 129 ≠ E) (hg : w5.grownBy W' v.ownBlock)
    (hbut : But b W' W'') (hlt : b < B) : CasesOwn W'' B v1 css := by
  obtain ⟨l, h1, h3, h4⟩ := h
  exact ⟨l, h1, h3.aside hb h2 hne hg hbut hlt, fun x hx => (h4 x hx).aside hb h2 hne2 hg hbut hlt⟩
theorem CasesOwn.row {W : World} {n0 : Nat} {v : Value} {css : List (List Cd)} (h : CasesOwn W n0 v css) : ∃ a c, v = .slice a css.length c ∧ css.length ≤ c ∧ CasesAt W a css := by
  obtain ⟨l, h1, h2, h3⟩ := h
  obtain ⟨a, c, hv, hle, hr⟩ := h2.row
  have hl : css.length = l.length := by rw [← h1]; simp
  refine ⟨a, c, by rw [hv, hl]; simp, by rw [hl]; simpa using hle, l, h1, hr, fun x hx => ?_⟩
  obtain ⟨a2, c2, hv2, _, hr2⟩ := (h3 x hx).row
  simp only [List.length_map, Value.slice.injEq] at hv2
  obtain ⟨rfl, _, _⟩ := hv2
  exact hr2

theorem CasesOwn.casesAt {W : World} {n0 : Nat} {a : Option Addr} {n c : Nat} {css : List (List Cd)} (h : CasesOwn W n0 (.slice a n c) css) : css.length = n ∧ n ≤ c ∧ CasesAt W a css := by
  obtain ⟨a', c', e, hle, hr⟩ := h.row
  cases e; exact ⟨rfl, hle, hr⟩
theorem CasesOwn.but {W W' : World} {n0 b : Nat} {v : Value} {css : List (List Cd)} (h : CasesOwn W n0 v css) (hb : But b W W') (hlt : b < n0) : CasesOwn W' n0 v css := by
  obtain ⟨l, h1, h2, h3⟩ := h
  exact ⟨l, h1, h2.but hb hlt, fun x hx => (h3 x hx).but hb hlt⟩
theorem CasesOwn.push {wr w5 W' W'' : World} {n0 b : Nat} {l : List CV} {v3 v' : Value} {a : Option Addr} {c : Nat} {x : List Cd} {css : List (List Cd)} (h1 : l.map (·.cs) = css)
    (h3 : ∀ y ∈ l, Own wr n0 129 8 (.slice y.a y.cs.length y.c) (y.cs.map Cd.vs)) (hb : Below wr.heap.size wr w5) (hO : Own w5 n0 101 1 v3 (l.map fun y => [.slice y.a y.cs.length y.c]))
    (hx : Own w5 n0 129 8 (.slice a x.length c) (x.map Cd.vs)) (hO' : Own W' n0 101 1 v' ((l.map fun y => [.slice y.a y.cs.length y.c]) ++ [[.slice a x.length c]])) (hg : w5.grownBy W' v3.ownBlock)
    (hbut : But b W' W'') (hlt : b < n0) : CasesOwn W'' n0 v' (css ++ [x]) := by
  refine ⟨l ++ [⟨a, c, x⟩], by simp [h1], ?_, ?_⟩
  · have := hO'.but hbut hlt
    simpa using this
  · intro y hy
    rcases List.mem_append.1 hy with hy | hy
    · exact (h3 y hy).aside hb hO (by decide) hg hbut hlt
    · simp at hy; subst hy
      exact (hx.apart hO (by decide) hg).but hbut hlt

/-- A land that is being converted. -/
structure LS (q : LV) (L : Land) (w : World) (n0 k1 k2 k3 k4 : Nat) (wr : World) : Prop where
  hW : Below w.heap.size w wr
  hsz : n0 ≤ wr.heap.size
  b1 : Box wr w.heap.size #[.slice q.a1 L.st.length q.c1, .slice q.a2 L.rd.length q.c2, .slice q.a3 L.cs.length q.c3, .slice q.a4 L.sn.length q.c4] 27
  b2 : Box wr (w.heap.size + 1) #[.slice none 0 0, .slice none 0 0, .slice none 0 0, .slice none 0 0] 39
  ex : ∃ v1 v2 v3 v4, Box wr (w.heap.size + 1 + 1) #[v1, v2, v3, v4] 39 ∧ Own wr n0 86 4 v1 ((L.st.take k1).map Stn.vs) ∧ Own wr n0 99 6 v2 ((L.rd.take k2).map Wl.vs) ∧
    CasesOwn wr n0 v3 (L.cs.take k3) ∧ Own wr n0 87 3 v4 ((L.sn.take k4).map Sn.vs)

section
variable {q : LV} {L : Land} {w : World} {n0 k1 k2 k3 k4 : Nat} {wr w5 W' : World}
theorem LS.begin (hW : Below w.heap.size w wr) (b1 : Box wr w.heap.size #[.slice q.a1 L.st.length q.c1, .slice q.a2 L.rd.length q.c2, .slice q.a3 L.cs.length q.c3, .slice q.a4 L.sn.length q.c4] 27)
    (b2 : Box wr (w.heap.size + 1) #[.slice none 0 0, .slice none 0 0, .slice none 0 0, .slice none 0 0] 39) (b3 : Box wr (w.heap.size + 1 + 1) #[.slice none 0 0, .slice none 0 0, .slice none 0 0, .slice none 0 0] 39) :
    LS q L w wr.heap.size 0 0 0 0 wr :=
  ⟨hW, Nat.le_refl _, b1, b2, _, _, _, _, b3, Own.nil _ _ _ _, Own.nil _ _ _ _, CasesOwn.nil _ _, Own.nil _ _ _ _⟩
/-- The frame's part of a round: an append, and a store into the land's variable. -/
theorem LS.turn (hW : Below w.heap.size w wr) (hsz : n0 ≤ wr.heap.size) (b1 : Box W' w.heap.size #[.slice q.a1 L.st.length q.c1, .slice q.a2 L.rd.length q.c2, .slice q.a3 L.cs.length q.c3, .slice q.a4 L.sn.length q.c4] 27)
    (b2 : Box W' (w.heap.size + 1) #[.slice none 0 0, .slice none 0 0, .slice none 0 0, .slice none 0 0] 39) {cs : Array Value} (b3 : Box W' (w.heap.size + 1 + 1) cs 39) (hn : w.heap.size + 1 + 1 < n0)
    (hb5 : Below wr.heap.size wr w5) (hb' : Below n0 w5 W') (i : Nat) (u : Value) :
    Below w.heap.size w (W'.setCell ⟨w.heap.size + 1 + 1, i, none⟩ u) ∧ n0 ≤ (W'.setCell ⟨w.heap.size + 1 + 1, i, none⟩ u).heap.size ∧
    Box (W'.setCell ⟨w.heap.size + 1 + 1, i, none⟩ u) w.heap.size #[.slice q.a1 L.st.length q.c1, .slice q.a2 L.rd.length q.c2, .slice q.a3 L.cs.length q.c3, .slice q.a4 L.sn.length q.c4] 27 ∧
    Box (W'.setCell ⟨w.heap.size + 1 + 1, i, none⟩ u) (w.heap.size + 1) #[.slice none 0 0, .slice none 0 0, .slice none 0 0, .slice none 0 0] 39 ∧
    Box (W'.setCell ⟨w.heap.size + 1 + 1, i, none⟩ u) (w.heap.size + 1 + 1) (cs.setIfInBounds i u) 39 := by
  have hbut := setCell_but W' (w.heap.size + 1 + 1) i u
  refine ⟨?_, ?_, hbut.box b1 (by omega), hbut.box b2 (by omega), setCell_box b3 i u⟩
  · exact hbut.below ((over hW hb5).trans (hb'.mono (by omega))) (by omega)
  · rw [hbut.size]; exact Nat.le_trans hsz (Nat.le_trans hb5.size hb'.size)
end
end Go.Proofs.YtingfmdbihbamaaGreat
end

section
/- The statements' own helpers: lands converted (the walk). -/
open Go.RowKit
namespace Go.Proofs.YtingfmdbihbamaaGreat
open Go.Hill

set_option maxRecDepth 100000 in
set_option maxHeartbeats 4000000 in
theorem land_any (q : LV) (L : Land) (w : World) (hL : LandAt w q L) (hs : Small L) :
    Calls Tryz.prog 8 #[.agg #[.slice q.a1 L.st.length q.c1, .slice q.a2 L.rd.length q.c2, .slice q.a3 L.cs.length q.c3, .slice q.a4 L.sn.length q.c4]] w (RetLand L w) := by
  have HL := Lib.hid hL
  have HS := Lib.hid hs
  obtain ⟨s1, s2, s3, s4, _⟩ := hs
  clear hL
  go_enter Tryz.func8, Tryz.ntmps8
  go_wp2_with fail
  refine named3 (p := Code.wp _ _ _ _) ?_
  intro W hW B1 B2 B3
  have hWs : w.heap.size + 1 + 1 < W.heap.size := B3.lt
  obtain ⟨n0, hn0⟩ : ∃ n, n = W.heap.size := ⟨_, rfl⟩
  have hLS : LS q L w n0 0 0 0 0 W := by rw [hn0]; exact LS.begin hW B1 B2 B3
  rw [← hn0] at hWs
  clear hW B1 B2 B3 hn0
  go_loopw [4] (fun i wr => ∃ k : Nat, k ≤ L.st.length ∧ i = .int .i64 k ∧ LS q L w n0 k 0 0 0 wr) (fun i _ => L.st.length - (intOf i).toNat)
  case atStart => exact ⟨0, Nat.zero_le _, rfl, hLS⟩
  case round =>
    clear hLS W
    obtain ⟨k, hk, rfl, hW, hsz, B1, B2, v1, v2, v3, v4, B3, o1, o2, o3, o4⟩ := hrel
    have O1 := Lib.hid o1
    have O2 := Lib.hid o2
    have O3 := Lib.hid o3
    have O4 := Lib.hid o4
    clear o1 o2 o3 o4
    have c1 := B1.cell; have t1 := B1.lt; have c2 := B2.cell; have t2 := B2.lt; have c3 := B3.cell; have t3 := B3.lt
    by_cases hlt : k < L.st.length
    · obtain ⟨p1, o1, ea, hC1⟩ := RowAt.at HL.out.st hlt
      obtain ⟨x, hx⟩ : ∃ x, L.st[k]? = some x := ⟨L.st[k], by simp⟩
      obtain ⟨e0, e1, e2, e3⟩ := cells_st (hC1.later hW) hx
      have z1 := block_lt_of_cell e0
      have HX := Lib.hid hx
      clear hx hC1
      rw [ea] at c1
      have r1 : (0 : Int) ≤ (k : Int) := by omega
      have r2 : (k : Int) < (L.st.length : Int) := by omega
      have HEA := Lib.hid ea
      clear ea
      go_wp2_with (at_builtin; refine named2 (p := wpList _ _ _ _ _) ?_; intro w5 hb5 _ B32; have hO := O1.out.later hb5; refine wpList_grow rfl (.tmp 22) (.tmp 32) 34 rfl elem_st rfl hO rfl B32 rfl (by omega) rfl (n := k) (by simp; omega) (by omega) (by omega) (Nat.le_trans hsz hb5.size) ?_; intro a' c' W' hO' hb' hg'; (try clear c1 t1 c2 t2 c3 t3); replace B1 := (B1.later hb5).past hb' (by omega); replace B2 := (B2.later hb5).past hb' (by omega); replace B3 := (B3.later hb5).past hb' (by omega); have c1 := B1.cell; have t1 := B1.lt; have c2 := B2.cell; have t2 := B2.lt; have c3 := B3.cell; have t3 := B3.lt; rw [HEA.out] at c1; have f3 := B3.frozen)
      go_roundw
      case rel =>
        obtain ⟨g1, g2, g3, g4, g5⟩ := LS.turn hW hsz B1 B2 B3 hWs hb5 hb' 0 (.slice a' (k + 1) c')
        have hbut := setCell_but W' (w.heap.size + 1 + 1) 0 (.slice a' (k + 1) c')
        exact ⟨k + 1, by omega, by go_num, g1, g2, g3, g4, _, _, _, _, g5, by rw [take_map_succ HX.out]; exact hO'.but hbut hWs, O2.out.aside hb5 hO (by decide) hg' hbut hWs, O3.out.aside hb5 hO (by decide) (by decide) hg' hbut hWs, O4.out.aside hb5 hO (by decide) hg' hbut hWs⟩
      case measure => simp [intOf]; omega
    · obtain rfl : k = L.st.length := by omega
      have hLS : LS q L w n0 L.st.length 0 0 0 wr := ⟨hW, hsz, B1, B2, v1, v2, v3, v4, B3, O1.out, O2.out, O3.out, O4.out⟩
      go_wp2_with fail
      clear O1 O2 O3 O4 B1 B2 B3 c1 c2 c3 t1 t2 t3 v1 v2 v3 v4 hW hsz hk hlt
      rename World => W2
      go_loopw [6] (fun i wr => ∃ k : Nat, k ≤ L.rd.length ∧ i = .int .i64 k ∧ LS q L w n0 L.st.length k 0 0 wr) (fun i _ => L.rd.length - (intOf i).toNat)
      case atStart => exact ⟨0, Nat.zero_le _, rfl, hLS⟩
      case round =>
        clear hLS W2
        obtain ⟨k, hk, rfl, hW, hsz, B1, B2, v1, v2, v3, v4, B3, o1, o2, o3, o4⟩ := hrel
        have O1 := Lib.hid o1
        have O2 := Lib.hid o2
        have O3 := Lib.hid o3
        have O4 := Lib.hid o4
        clear o1 o2 o3 o4
        have c1 := B1.cell; have t1 := B1.lt; have c2 := B2.cell; have t2 := B2.lt; have c3 := B3.cell; have t3 := B3.lt
        by_cases hlt : k < L.rd.length
        · obtain ⟨p1, o1, ea, hC1⟩ := RowAt.at HL.out.rd hlt
          obtain ⟨x, hx⟩ : ∃ x, L.rd[k]? = some x := ⟨L.rd[k], by simp⟩
          obtain ⟨e0, e1, e2, e3, e4, e5⟩ := cells_wl (hC1.later hW) hx
          have z1 := block_lt_of_cell e0
          have HX := Lib.hid hx
          clear hx hC1
          rw [ea] at c1
          have r1 : (0 : Int) ≤ (k : Int) := by omega
          have r2 : (k : Int) < (L.rd.length : Int) := by omega
          have HEA := Lib.hid ea
          clear ea
          go_wp2_with fail
          refine Fat.wp_region0 9 [7, 8] (fun i => if i = 7 then isSpec (.agg #[.int .i64 x.X1, .int .i64 x.Y1, .int .i64 x.X2, .int .i64 x.Y2, .int .i64 x.B, .int .i64 x.T]) else oneSpec 99 #[.int .i64 x.X1, .int .i64 x.Y1, .int .i64 x.X2, .int .i64 x.Y2, .int .i64 x.B, .int .i64 x.T])
            (fun i => by (repeat' split) <;> first | exact isSpec_lasting _ | exact oneSpec_lasting _ _) (by kernel_rfl) (by kernel_rfl) ?_
          simp only [List.take_succ_cons, List.take_zero, Fat.pick, List.contains_cons, List.contains_nil, Nat.reduceAdd, Nat.reduceBEq]
          repeat (first | simp only [Bool.or_false] | simp only [Bool.or_true] | simp only [Bool.true_or] | simp only [Bool.false_eq_true] | simp only [if_true] | simp only [if_false])
          repeat (go_big_quiet_step (fail))
          refine wpQuiet_nil ?_
          refine ⟨?_, ?_, ?_⟩
          · intro i o hi hown ho vals lo hi' W hW hdep
            simp only [List.contains_cons, List.contains_nil, Bool.or_false] at hi
            (try simp only [Bool.or_eq_true] at hi)
            simp only [beq_iff_eq] at hi
            rcases hi with rfl | rfl
            all_goals first
              | exact absurd hown (by decide)
              | (simp only [List.getElem?_cons_succ, List.getElem?_cons_zero, Option.some.injEq] at ho; subst ho; refine .inl ⟨rfl, ?_⟩; simp only [Fat.putN, Fat.dstOf, Act.put, List.getElem?_toArray, List.getElem?_cons_succ, List.getElem?_cons_zero, Option.bind_some, List.setIfInBounds_toArray, List.set_cons_succ, List.set_cons_zero])
            · go_simp
              exact (wall_any x W).mono fun e w'' ⟨he, h⟩ => ⟨_, he, h, rfl⟩
            · obtain ⟨_, _, _, (hv : vals 7 = _)⟩ := hdep 7 rfl (by kernel_rfl)
              rw [hv]
              go_simp
              exact oneSpec_new _ _ _
          · intro i o hi hown ho vals lo hi' W hW hdep
            simp only [List.contains_cons, List.contains_nil, Bool.or_false] at hi
            (try simp only [Bool.or_eq_true] at hi)
            simp only [beq_iff_eq] at hi
            rcases hi with rfl | rfl
            all_goals first
              | exact absurd (by decide) hown
              | (simp only [List.getElem?_cons_succ, List.getElem?_cons_zero, Option.some.injEq] at ho; subst ho; refine ⟨rfl, ?_⟩; simp only [Fat.putN, Fat.dstOf, Act.put, List.getElem?_toArray, List.getElem?_cons_succ, List.getElem?_cons_zero, Option.bind_some, List.setIfInBounds_toArray, List.set_cons_succ, List.set_cons_zero]; (try simp only [Option.bind_none]))
          · intro vals lo hi' w5 hb5 hphi hdis htied
            obtain ⟨_, _, _, (q7 : vals 7 = _)⟩ := hphi 7 rfl
            obtain ⟨_, _, _, (q8 : vals 8 = _), _, (B32 : Box w5 (lo 8) _ _)⟩ := hphi 8 rfl
            simp only [Fat.putN, Fat.dstOf, Act.put, List.getElem?_toArray, List.getElem?_cons_succ, List.getElem?_cons_zero, Option.bind_some, List.setIfInBounds_toArray, List.set_cons_succ, List.set_cons_zero, List.drop_succ_cons, List.drop_zero]
            rw [q7, q8]
            clear q7 q8 hphi hdis htied vals
            generalize lo 8 = b32 at *
            have hO := O2.out.later hb5
            clear e0 e1 e2 e3 e4 e5 z1
            refine wpList_grow rfl (.tmp 43) (.tmp 50) 35 rfl elem_wl rfl hO rfl B32 rfl (by omega) rfl (n := k) (by simp; omega) (by omega) (by omega) (Nat.le_trans hsz hb5.size) ?_
            intro a' c' W' hO' hb' hg'
            (try clear c1 t1 c2 t2 c3 t3); replace B1 := (B1.later hb5).past hb' (by omega); replace B2 := (B2.later hb5).past hb' (by omega); replace B3 := (B3.later hb5).past hb' (by omega); have c1 := B1.cell; have t1 := B1.lt; have c2 := B2.cell; have t2 := B2.lt; have c3 := B3.cell; have t3 := B3.lt
            rw [HEA.out] at c1
            have f3 := B3.frozen
            go_wp2_with fail
            go_roundw
            case rel =>
              obtain ⟨g1, g2, g3, g4, g5⟩ := LS.turn hW hsz B1 B2 B3 hWs hb5 hb' 1 (.slice a' (k + 1) c')
              have hbut := setCell_but W' (w.heap.size + 1 + 1) 1 (.slice a' (k + 1) c')
              exact ⟨k + 1, by omega, by go_num, g1, g2, g3, g4, _, _, _, _, g5, O1.out.aside hb5 hO (by decide) hg' hbut hWs, by rw [take_map_succ HX.out]; exact hO'.but hbut hWs, O3.out.aside hb5 hO (by decide) (by decide) hg' hbut hWs, O4.out.aside hb5 hO (by decide) hg' hbut hWs⟩
            case measure => simp [intOf]; omega
        · obtain rfl : k = L.rd.length := by omega
          have hLS : LS q L w n0 L.st.length L.rd.length 0 0 wr := ⟨hW, hsz, B1, B2, v1, v2, v3, v4, B3, O1.out, O2.out, O3.out, O4.out⟩
          go_wp2_with fail
          clear O1 O2 O3 O4 B1 B2 B3 c1 c2 c3 t1 t2 t3 v1 v2 v3 v4 hW hsz hk hlt
          rename World => W2
          go_loopw [7] (fun i wr => ∃ k : Nat, k ≤ L.cs.length ∧ i = .int .i64 k ∧ LS q L w n0 L.st.length L.rd.length k 0 wr) (fun i _ => L.cs.length - (intOf i).toNat)
          case atStart => exact ⟨0, Nat.zero_le _, rfl, hLS⟩
          case round =>
            clear hLS W2
            obtain ⟨k, hk, rfl, hW, hsz, B1, B2, v1, v2, v3, v4, B3, o1, o2, o3, o4⟩ := hrel
            obtain ⟨l, o3a, o3b, o3c⟩ := o3
            have O1 := Lib.hid o1
            have O2 := Lib.hid o2
            have O3a := Lib.hid o3a
            have O3b := Lib.hid o3b
            have O3c := Lib.hid o3c
            have O4 := Lib.hid o4
            have HLn : Hid (l.length = k) := by
              have := congrArg List.length o3a
              simp at this; unfold Hid; omega
            clear o1 o2 o3a o3b o3c o4
            have c1 := B1.cell; have t1 := B1.lt; have c2 := B2.cell; have t2 := B2.lt; have c3 := B3.cell; have t3 := B3.lt
            by_cases hlt : k < L.cs.length
            · obtain ⟨cl, hcl, hrow, hcs⟩ := HL.out.cs
              have hcll : cl.length = L.cs.length := by rw [← hcl]; simp
              obtain ⟨p1, o1, ea, hC1⟩ := RowAt.at (k := k) hrow (by rw [hcll]; exact hlt)
              obtain ⟨x, hx⟩ : ∃ x, cl[k]? = some x := ⟨cl[k]'(by rw [hcll]; exact hlt), by simp⟩
              have e0 := cells_one (hC1.later hW) hx
              have hxl := HS.out.l5 x.cs (by rw [← hcl]; exact List.mem_map_of_mem (List.mem_of_getElem? hx))
              have HX : Hid (L.cs[k]? = some x.cs) := by rw [Hid, ← hcl, List.getElem?_map, hx]; rfl
              have HR := Lib.hid (hcs x (List.mem_of_getElem? hx))
              have z1 := block_lt_of_cell e0
              clear hx hC1 hcl hrow hcs hcll
              rw [ea] at c1
              have r1 : (0 : Int) ≤ (k : Int) := by omega
              have r2 : (k : Int) < (L.cs.length : Int) := by omega
              have HEA := Lib.hid ea
              clear ea
              go_wp2_with fail
              have hWr := hW
              refine Fat.wp_region0 9 [7, 8] (fun i => if i = 7 then ownSpec n0 129 8 (x.cs.map Cd.vs) else oneOwnSpec 101 n0 129 8 (x.cs.map Cd.vs))
                (fun i => by (repeat' split) <;> first | exact ownSpec_lasting _ _ _ _ | exact oneOwnSpec_lasting _ _ _ _ _) (by kernel_rfl) (by kernel_rfl) ?_
              simp only [List.take_succ_cons, List.take_zero, Fat.pick, List.contains_cons, List.contains_nil, Nat.reduceAdd, Nat.reduceBEq]
              repeat (first | simp only [Bool.or_false] | simp only [Bool.or_true] | simp only [Bool.true_or] | simp only [Bool.false_eq_true] | simp only [if_true] | simp only [if_false])
              repeat (go_big_quiet_step (fail))
              refine wpQuiet_nil ?_
              refine ⟨?_, ?_, ?_⟩
              · intro i o hi hown ho vals lo hi' W hW hdep
                simp only [List.contains_cons, List.contains_nil, Bool.or_false] at hi
                (try simp only [Bool.or_eq_true] at hi)
                simp only [beq_iff_eq] at hi
                rcases hi with rfl | rfl
                all_goals first
                  | exact absurd hown (by decide)
                  | (simp only [List.getElem?_cons_succ, List.getElem?_cons_zero, Option.some.injEq] at ho; subst ho; refine .inl ⟨rfl, ?_⟩; simp only [Fat.putN, Fat.dstOf, Act.put, List.getElem?_toArray, List.getElem?_cons_succ, List.getElem?_cons_zero, Option.bind_some, List.setIfInBounds_toArray, List.set_cons_succ, List.set_cons_zero])
                · go_simp
                  exact (clouds_any x.cs x.a x.c W ((HR.out.later hWr).later hW) hxl).mono fun e w'' ⟨v, he, h, ho⟩ => ⟨v, he, h, ho.mono (Nat.le_trans hsz hW.size)⟩
                · obtain ⟨_, _, _, (hv : Own _ _ _ _ (vals 7) _)⟩ := hdep 7 rfl (by kernel_rfl)
                  obtain ⟨a7, c7, e7, _, _⟩ := hv.row
                  rw [List.length_map] at e7
                  rw [e7] at hv ⊢
                  go_simp
                  exact oneOwnSpec_new _ hv
              · intro i o hi hown ho vals lo hi' W hW hdep
                simp only [List.contains_cons, List.contains_nil, Bool.or_false] at hi
                (try simp only [Bool.or_eq_true] at hi)
                simp only [beq_iff_eq] at hi
                rcases hi with rfl | rfl
                all_goals first
                  | exact absurd (by decide) hown
                  | (simp only [List.getElem?_cons_succ, List.getElem?_cons_zero, Option.some.injEq] at ho; subst ho; refine ⟨rfl, ?_⟩; simp only [Fat.putN, Fat.dstOf, Act.put, List.getElem?_toArray, List.getElem?_cons_succ, List.getElem?_cons_zero, Option.bind_some, List.setIfInBounds_toArray, List.set_cons_succ, List.set_cons_zero]; (try simp only [Option.bind_none]))
              · intro vals lo hi' w5 hb5 hphi hdis htied
                obtain ⟨_, _, _, (q8 : vals 8 = _), _, u, (B68 : Box w5 (lo 8) _ _), hu⟩ := hphi 8 rfl
                simp only [Fat.putN, Fat.dstOf, Act.put, List.getElem?_toArray, List.getElem?_cons_succ, List.getElem?_cons_zero, Option.bind_some, List.setIfInBounds_toArray, List.set_cons_succ, List.set_cons_zero, List.drop_succ_cons, List.drop_zero]
                rw [q8]
                clear q8 hphi hdis htied
                generalize vals 7 = v7 at *
                clear vals
                generalize lo 8 = b68 at *
                obtain ⟨ua, uc, eu, _, _⟩ := hu.row
                rw [List.length_map] at eu
                subst eu
                have hO := O3b.out.later hb5
                have HU := Lib.hid hu
                clear hu e0 z1
                refine wpList_grow rfl (.tmp 61) (.tmp 68) 36 rfl elem_cs rfl hO rfl B68 rfl (by omega) rfl (n := k) (by rw [List.length_map]; exact HLn.out) (by omega) (by omega) (Nat.le_trans hsz hb5.size) ?_
                intro a' c' W' hO' hb' hg'
                (try clear c1 t1 c2 t2 c3 t3); replace B1 := (B1.later hb5).past hb' (by omega); replace B2 := (B2.later hb5).past hb' (by omega); replace B3 := (B3.later hb5).past hb' (by omega); have c1 := B1.cell; have t1 := B1.lt; have c2 := B2.cell; have t2 := B2.lt; have c3 := B3.cell; have t3 := B3.lt
                rw [HEA.out] at c1
                have f3 := B3.frozen
                go_wp2_with fail
                go_roundw
                case rel =>
                  obtain ⟨g1, g2, g3, g4, g5⟩ := LS.turn hW hsz B1 B2 B3 hWs hb5 hb' 2 (.slice a' (k + 1) c')
                  have hbut := setCell_but W' (w.heap.size + 1 + 1) 2 (.slice a' (k + 1) c')
                  refine ⟨k + 1, by omega, by go_num, g1, g2, g3, g4, _, _, _, _, g5, O1.out.aside hb5 hO (by decide) hg' hbut hWs, O2.out.aside hb5 hO (by decide) hg' hbut hWs, ?_, O4.out.aside hb5 hO (by decide) hg' hbut hWs⟩
                  have := CasesOwn.push O3a.out O3c.out hb5 hO HU.out hO' hg' hbut hWs
                  rw [List.take_add_one, HX.out]
                  exact this
                case measure => simp [intOf]; omega
            · obtain rfl : k = L.cs.length := by omega
              have hLS : LS q L w n0 L.st.length L.rd.length L.cs.length 0 wr := ⟨hW, hsz, B1, B2, v1, v2, v3, v4, B3, O1.out, O2.out, ⟨l, O3a.out, O3b.out, O3c.out⟩, O4.out⟩
              go_wp2_with fail
              clear O1 O2 O3a O3b O3c O4 B1 B2 B3 c1 c2 c3 t1 t2 t3 v1 v2 v3 v4 hW hsz hk hlt HLn l
              rename World => W2
              go_loopw [8] (fun i wr => ∃ k : Nat, k ≤ L.sn.length ∧ i = .int .i64 k ∧ LS q L w n0 L.st.length L.rd.length L.cs.length k wr) (fun i _ => L.sn.length - (intOf i).toNat)
              case atStart => exact ⟨0, Nat.zero_le _, rfl, hLS⟩
              case round =>
                clear hLS W2
                obtain ⟨k, hk, rfl, hW, hsz, B1, B2, v1, v2, v3, v4, B3, o1, o2, o3, o4⟩ := hrel
                have O1 := Lib.hid o1
                have O2 := Lib.hid o2
                have O3 := Lib.hid o3
                have O4 := Lib.hid o4
                clear o1 o2 o3 o4
                have c1 := B1.cell; have t1 := B1.lt; have c2 := B2.cell; have t2 := B2.lt; have c3 := B3.cell; have t3 := B3.lt
                by_cases hlt : k < L.sn.length
                · obtain ⟨p1, o1, ea, hC1⟩ := RowAt.at HL.out.sn hlt
                  obtain ⟨x, hx⟩ : ∃ x, L.sn[k]? = some x := ⟨L.sn[k], by simp⟩
                  obtain ⟨e0, e1, e2⟩ := cells_sn (hC1.later hW) hx
                  have z1 := block_lt_of_cell e0
                  have HX := Lib.hid hx
                  clear hx hC1
                  rw [ea] at c1
                  have r1 : (0 : Int) ≤ (k : Int) := by omega
                  have r2 : (k : Int) < (L.sn.length : Int) := by omega
                  have HEA := Lib.hid ea
                  clear ea
                  go_wp2_with fail
                  refine Fat.wp_region0 22 [21] (fun _ => oneSpec 87 #[.int .i64 x.E, .int .i64 x.N, .int .i64 x.U]) (fun _ => oneSpec_lasting _ _) (by kernel_rfl) (by kernel_rfl) ?_
                  simp only [List.take_succ_cons, List.take_zero, Fat.pick, List.contains_cons, List.contains_nil, Nat.reduceAdd, Nat.reduceBEq]
                  repeat (first | simp only [Bool.or_false] | simp only [Bool.or_true] | simp only [Bool.true_or] | simp only [Bool.false_eq_true] | simp only [if_true] | simp only [if_false])
                  repeat (go_big_quiet_step (fail))
                  refine wpQuiet_nil ?_
                  refine ⟨?_, ?_, ?_⟩
                  · intro i o hi hown ho vals lo hi' W hW hdep
                    simp only [List.contains_cons, List.contains_nil, Bool.or_false] at hi
                    (try simp only [Bool.or_eq_true] at hi)
                    simp only [beq_iff_eq] at hi
                    rcases hi with rfl
                    all_goals first
                      | exact absurd hown (by decide)
                      | (simp only [List.getElem?_cons_succ, List.getElem?_cons_zero, Option.some.injEq] at ho; subst ho; refine .inl ⟨rfl, ?_⟩; simp only [Fat.putN, Fat.dstOf, Act.put, List.getElem?_toArray, List.getElem?_cons_succ, List.getElem?_cons_zero, Option.bind_some, List.setIfInBounds_toArray, List.set_cons_succ, List.set_cons_zero])
                    · go_simp
                      exact oneSpec_new _ _ _
                  · intro i o hi hown ho vals lo hi' W hW hdep
                    simp only [List.contains_cons, List.contains_nil, Bool.or_false] at hi
                    (try simp only [Bool.or_eq_true] at hi)
                    simp only [beq_iff_eq] at hi
                    rcases hi with rfl
                    all_goals first
                      | exact absurd (by decide) hown
                      | (simp only [List.getElem?_cons_succ, List.getElem?_cons_zero, Option.some.injEq] at ho; subst ho; refine ⟨rfl, ?_⟩; simp only [Fat.putN, Fat.dstOf, Act.put, List.getElem?_toArray, List.getElem?_cons_succ, List.getElem?_cons_zero, Option.bind_some, List.setIfInBounds_toArray, List.set_cons_succ, List.set_cons_zero]; (try simp only [Option.bind_none]))
                  · intro vals lo hi' w5 hb5 hphi hdis htied
                    obtain ⟨_, _, _, (q8 : vals 21 = _), _, (B32 : Box w5 (lo 21) _ _)⟩ := hphi 21 rfl
                    simp only [Fat.putN, Fat.dstOf, Act.put, List.getElem?_toArray, List.getElem?_cons_succ, List.getElem?_cons_zero, Option.bind_some, List.setIfInBounds_toArray, List.set_cons_succ, List.set_cons_zero, List.drop_succ_cons, List.drop_zero]
                    rw [q8]
                    clear q8 hphi hdis htied vals
                    generalize lo 21 = b32 at *
                    have hO := O4.out.later hb5
                    clear e0 e1 e2 z1
                    refine wpList_grow rfl (.tmp 79) (.tmp 99) 37 rfl elem_sn rfl hO rfl B32 rfl (by omega) rfl (n := k) (by simp; omega) (by omega) (by omega) (Nat.le_trans hsz hb5.size) ?_
                    intro a' c' W' hO' hb' hg'
                    (try clear c1 t1 c2 t2 c3 t3); replace B1 := (B1.later hb5).past hb' (by omega); replace B2 := (B2.later hb5).past hb' (by omega); replace B3 := (B3.later hb5).past hb' (by omega); have c1 := B1.cell; have t1 := B1.lt; have c2 := B2.cell; have t2 := B2.lt; have c3 := B3.cell; have t3 := B3.lt
                    rw [HEA.out] at c1
                    have f3 := B3.frozen
                    go_wp2_with fail
                    go_roundw
                    case rel =>
                      obtain ⟨g1, g2, g3, g4, g5⟩ := LS.turn hW hsz B1 B2 B3 hWs hb5 hb' 3 (.slice a' (k + 1) c')
                      have hbut := setCell_but W' (w.heap.size + 1 + 1) 3 (.slice a' (k + 1) c')
                      exact ⟨k + 1, by omega, by go_num, g1, g2, g3, g4, _, _, _, _, g5, O1.out.aside hb5 hO (by decide) hg' hbut hWs, O2.out.aside hb5 hO (by decide) hg' hbut hWs, O3.out.aside hb5 hO (by decide) (by decide) hg' hbut hWs, by rw [take_map_succ HX.out]; exact hO'.but hbut hWs⟩
                    case measure => simp [intOf]; omega
                · obtain rfl : k = L.sn.length := by omega
                  have o1 := O1.out
                  have o2 := O2.out
                  have o3 := O3.out
                  have o4 := O4.out
                  rw [List.take_of_length_le (Nat.le_refl _)] at o1 o2 o3 o4
                  clear O1 O2 O3 O4
                  obtain ⟨a1, k1, rfl, l1, _⟩ := o1.row
                  obtain ⟨a2, k2, rfl, l2, _⟩ := o2.row
                  obtain ⟨a3, k3, rfl, l3, _⟩ := o3.row
                  obtain ⟨a4, k4, rfl, l4, _⟩ := o4.row
                  rw [List.length_map] at o1 o2 o4 c3 B3 l1 l2 l4
                  simp only [List.length_map] at c3 B3 o1 o2 o4 l1 l2 l4
                  have O1 := Lib.hid o1
                  have O2 := Lib.hid o2
                  have O3 := Lib.hid o3
                  have O4 := Lib.hid o4
                  clear o1 o2 o3 o4
                  have f2 := B2.frozen
                  go_wp2_with (with_reducible refine wpList_store_box rfl rfl 39 (.tmp 2) (.tmp 102) rfl _ #[.slice a1 L.st.length k1, .slice a2 L.rd.length k2, .slice a3 L.cs.length k3, .slice a4 L.sn.length k4] rfl rfl B2 rfl (by kernel_rfl) rfl ?_; intro W' B2' hbut; clear c2 t2; have c2 := B2'.cell; have t2 := B2'.lt)
                  refine bodyPost_ret (v := .agg #[.slice a1 L.st.length k1, .slice a2 L.rd.length k2, .slice a3 L.cs.length k3, .slice a4 L.sn.length k4]) (by simp [results, Tryz.results8, go_sem, c2]) rfl ⟨⟨a1, k1, a2, k2, a3, k3, a4, k4⟩, rfl, hbut.below hW (by omega), ?_⟩
                  have hlt : w.heap.size + 1 < n0 := by omega
                  exact ⟨(O1.out.but hbut hlt).rowAt.2.2, (O2.out.but hbut hlt).rowAt.2.2, (O3.out.but hbut hlt).casesAt.2.2, (O4.out.but hbut hlt).rowAt.2.2, l1, l2, l3, l4⟩
end Go.Proofs.YtingfmdbihbamaaGreat
end
