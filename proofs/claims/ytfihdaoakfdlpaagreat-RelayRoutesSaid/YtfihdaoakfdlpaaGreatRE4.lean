/- Layer 3, the references, the walks: the fewest hops, from the last hour to the first one. -/
import Derived.Test.YtfihdaoakfdlpaaGreatLR4
import Derived.Test.YtfihdaoakfdlpaaGreatRPl
open Go.RowKit
namespace Go.Proofs.YtfihdaoakfdlpaaGreat
open Go.Hill

/-! ### A list of rows of numbers -/
structure GridAt (W : World) (g u n h : Nat) (bk : Nat → Nat) (ro : Nat → Nat → Int) : Prop where
  O : W.rowIs g 40 (u + 1) (fun i => if h ≤ i then Value.slice (some ⟨bk i, 0, none⟩) n n else .slice none 0 0)
  R : ∀ i, h ≤ i → i ≤ u → W.rowIs (bk i) 3 n (rowN (ro i))
  G : ∀ i, h ≤ i → i ≤ u → g < bk i
  D : ∀ i j, h ≤ i → i < j → j ≤ u → bk j < bk i
section
variable {W W' : World} {g u n h : Nat} {bk : Nat → Nat} {ro ro' : Nat → Nat → Int}
theorem GridAt.later (k : GridAt W g u n h bk ro) (hb : Below W.heap.size W W') : GridAt W' g u n h bk ro := ⟨rowIs_later k.O hb, fun i h1 h2 => rowIs_later (k.R i h1 h2) hb, k.G, k.D⟩
theorem GridAt.congr (k : GridAt W g u n h bk ro) (e : ∀ i x, h ≤ i → i ≤ u → x < n → ro i x = ro' i x) : GridAt W g u n h bk ro' := ⟨k.O, fun i h1 h2 => (k.R i h1 h2).congr fun x hx => by show Value.int .i64 _ = Value.int .i64 _; rw [e i x h1 h2 hx], k.G, k.D⟩
theorem GridAt.outer (k : GridAt W g u n h bk ro) {i : Nat} (h1 : h ≤ i) (h2 : i ≤ u) : W.cell? ⟨g, i, none⟩ = some (.slice (some ⟨bk i, 0, none⟩) n n) := by
  have := k.O.cell (i := i) (by omega)
  rw [if_pos h1] at this
  exact this
theorem GridAt.inner (k : GridAt W g u n h bk ro) {i x : Nat} (h1 : h ≤ i) (h2 : i ≤ u) (hx : x < n) : W.cell? ⟨bk i, x, none⟩ = some (.int .i64 (ro i x)) := (k.R i h1 h2).cell hx
theorem GridAt.set {x : Nat} {v : Int} (k : GridAt W g u n h bk ro) (hu : h ≤ u) (e : ∀ i y, h ≤ i → i ≤ u → y < n → (if i = h ∧ y = x then v else ro i y) = ro' i y) : GridAt (W.setCell ⟨bk h, x, none⟩ (.int .i64 v)) g u n h bk ro' := by
  refine ⟨k.O.setOther (by have := k.G h (Nat.le_refl _) hu; show g ≠ bk h; omega) _, fun i h1 h2 => ?_, k.G, k.D⟩
  by_cases he : i = h
  · subst he
    refine ((k.R i h1 h2).set x (.int .i64 v)).congr fun y hy => ?_
    have := e i y h1 h2 hy
    show (if y = x then Value.int .i64 v else Value.int .i64 (ro i y)) = Value.int .i64 (ro' i y)
    rw [← this]
    by_cases hyx : y = x
    · rw [if_pos hyx, if_pos ⟨rfl, hyx⟩]
    · rw [if_neg hyx, if_neg fun h => hyx h.2]
  · refine ((k.R i h1 h2).setOther (by have := k.D h i (Nat.le_refl _) (by omega) h2; show bk i ≠ bk h; omega) _).congr fun y hy => ?_
    have := e i y h1 h2 hy
    rw [if_neg fun h => he h.1] at this
    show Value.int .i64 _ = Value.int .i64 _
    rw [this]
theorem GridAt.push (k : GridAt W g u n (h + 1) bk ro) (hu : h ≤ u) : GridAt ((W.setCell ⟨g, h, none⟩ (.slice (some ⟨W.heap.size, 0, none⟩) n n)).alloc (.cells (madeCells #[.int .i64 0] n) 3)) g u n h (fun i => if i = h then W.heap.size else bk i) (fun i => if i = h then fun _ => 0 else ro i) := by
  have hg := k.O.lt
  have hsz : (W.setCell ⟨g, h, none⟩ (.slice (some ⟨W.heap.size, 0, none⟩) n n)).heap.size = W.heap.size := (setCell_but W g h _).size
  refine ⟨((k.O.set h _).alloc _).congr fun i hi => ?_, fun i h1 h2 => ?_, fun i h1 h2 => ?_, fun i j h1 h2 h3 => ?_⟩
  · by_cases he : i = h
    · subst he; simp
    · rw [if_neg he]
      by_cases h1 : h + 1 ≤ i
      · rw [if_pos h1, if_pos (by omega), if_neg he]
      · rw [if_neg h1, if_neg (by omega)]
  · by_cases he : i = h
    · subst he
      rw [if_pos rfl, if_pos rfl]
      have hm := World.rowIs_made (W.setCell ⟨g, i, none⟩ (.slice (some ⟨W.heap.size, 0, none⟩) n n)) (.int .i64 0) n 3
      rw [hsz] at hm
      exact hm
    · rw [if_neg he, if_neg he]
      exact ((k.R i (by omega) h2).setOther (by have := k.G i (by omega) h2; show bk i ≠ g; omega) _).alloc _
  · show g < if i = h then W.heap.size else bk i
    by_cases he : i = h
    · rw [if_pos he]; exact hg
    · rw [if_neg he]; exact k.G i (by omega) h2
  · show (if j = h then W.heap.size else bk j) < if i = h then W.heap.size else bk i
    rw [if_neg (show j ≠ h by omega)]
    by_cases he : i = h
    · rw [if_pos he]; exact (k.R j (by omega) h3).lt
    · rw [if_neg he]; exact k.D i j (by omega) h2 h3
end
theorem make_rows (u : Nat) (hu : u ≤ 1000) (w : World) : (Instr.makeSlice 126 (.int .i64 ((u : Int) + 1)) (.int .i64 ((u : Int) + 1))).run Tryz.prog w = .ok (.slice (some ⟨w.heap.size, 0, none⟩) (u + 1) (u + 1)) (w.alloc (.cells (madeCells #[.slice none 0 0] (u + 1)) 40)) := by
  have h := run_make_row' (P := Tryz.prog) 126 40 (.slice none 0 0) 24 (by kernel_rfl) (by kernel_rfl) rfl .i64 .i64 (u + 1) (by omega) (by omega) w
  push_cast at h
  exact h
def hopI (L : Land) (ta u i x : Nat) : Int := ((hopN L.alws L.st.length ta u (u - i) x : Nat) : Int)
/-- It returns the fewest hops. -/
def RetGrid (L : Land) (ta u : Nat) (w : World) (e : Ending) (w' : World) : Prop := ∃ g bk, e = .returned (.slice (some ⟨g, 0, none⟩) (u + 1) (u + 1)) ∧ Below w.heap.size w w' ∧ GridAt w' g u L.st.length 0 bk (hopI L ta u)
structure RunG (q : LV) (L : Land) (w : World) (u h : Nat) (bk : Nat → Nat) (ro : Nat → Nat → Int) (wr : World) : Prop where
  W : Below w.heap.size w wr
  B : Box wr w.heap.size (landC q L) 27
  G : GridAt wr (w.heap.size + 1) u L.st.length h bk ro
section
variable {q : LV} {L : Land} {w wr wr' : World} {u h : Nat} {bk : Nat → Nat} {ro ro' : Nat → Nat → Int}
theorem RunG.later (k : RunG q L w u h bk ro wr) (hb : Below wr.heap.size wr wr') : RunG q L w u h bk ro wr' := ⟨over k.W hb, k.B.later hb, k.G.later hb⟩
theorem RunG.congr (k : RunG q L w u h bk ro wr) (e : ∀ i x, h ≤ i → i ≤ u → x < L.st.length → ro i x = ro' i x) : RunG q L w u h bk ro' wr := ⟨k.W, k.B, k.G.congr e⟩
theorem RunG.set {x : Nat} {v : Int} (k : RunG q L w u h bk ro wr) (hu : h ≤ u) (e : ∀ i y, h ≤ i → i ≤ u → y < L.st.length → (if i = h ∧ y = x then v else ro i y) = ro' i y) : RunG q L w u h bk ro' (wr.setCell ⟨bk h, x, none⟩ (.int .i64 v)) := by
  have hg := k.G.G h (Nat.le_refl _) hu
  have hbut := setCell_but wr (bk h) x (.int .i64 v)
  exact ⟨hbut.below k.W (by omega), hbut.box k.B (by omega), k.G.set hu e⟩
theorem RunG.push (k : RunG q L w u (h + 1) bk ro wr) (hu : h ≤ u) : RunG q L w u h (fun i => if i = h then wr.heap.size else bk i) (fun i => if i = h then fun _ => 0 else ro i) ((wr.setCell ⟨w.heap.size + 1, h, none⟩ (.slice (some ⟨wr.heap.size, 0, none⟩) L.st.length L.st.length)).alloc (.cells (madeCells #[.int .i64 0] L.st.length) 3)) := by
  have hbut := setCell_but wr (w.heap.size + 1) h (.slice (some ⟨wr.heap.size, 0, none⟩) L.st.length L.st.length)
  have ha := al (Below.refl _ (wr.setCell ⟨w.heap.size + 1, h, none⟩ (.slice (some ⟨wr.heap.size, 0, none⟩) L.st.length L.st.length))) (.cells (madeCells #[.int .i64 0] L.st.length) 3)
  exact ⟨over (hbut.below k.W (by omega)) ha, (hbut.box k.B (by omega)).later ha, k.G.push hu⟩
/-- What is known at a row: its own cells, and those of the row behind it. -/
theorem RunG.facts (k : RunG q L w u h bk ro wr) {i : Nat} (h1 : h ≤ i) (h2 : i ≤ u) : wr.cell? ⟨w.heap.size + 1, i, none⟩ = some (.slice (some ⟨bk i, 0, none⟩) L.st.length L.st.length) ∧ (∀ x, x < L.st.length → wr.cell? ⟨bk i, x, none⟩ = some (.int .i64 (ro i x))) ∧ w.heap.size + 1 < wr.heap.size ∧ bk i < wr.heap.size ∧ ∀ x, wr.frozen? ⟨bk i, x, none⟩ = false :=
  ⟨k.G.outer h1 h2, fun _ hx => k.G.inner h1 h2 hx, k.G.O.lt, (k.G.R i h1 h2).lt, fun _ => (k.G.R i h1 h2).frozen _⟩
end
def rowsG (L : Land) (ta u h : Nat) (cur : Nat → Int) : Nat → Nat → Int := fun i => if i = h then cur else hopI L ta u i
set_option maxRecDepth 100000 in
set_option maxHeartbeats 8000000 in
theorem rHops_any (q : LV) (L : Land) (ta u : Nat) (w : World) (hL : LandAt w q L) (hc : L.chk = 0) (hu : u ≤ L.sn.length) :
    Calls Tryz.prog 66 #[landV q L, .int .i64 ta, .int .i64 u] w (RetGrid L ta u w) := by
  have HL := Lib.hid hL
  have HC := Lib.hid hc
  obtain ⟨n6, n0, e12, e0, m4, m0⟩ := st_six hc
  have hmk := make_ints L.st.length (by omega)
  have hmr := make_rows u (by omega)
  clear hL hc
  go_enter Tryz.func66, Tryz.ntmps66
  go_wp2_with fail
  refine named2 (p := Code.wp _ _ _ _) ?_
  intro W hW B5 B11
  have HRun : Hid (RunG q L w u (u + 1) (fun _ => 0) (hopI L ta u) W) := ⟨hW, B5, (row_made B11).congr fun i hi => by rw [if_neg (by omega)], fun i h1 h2 => by omega, fun i h1 h2 => by omega, fun i j h1 h2 h3 => by omega⟩
  clear B11 hmr hW B5
  go_loopw [8] (fun h' wr => ∃ (j : Nat) (bk : Nat → Nat), j ≤ u + 1 ∧ h' = .int .i64 ((j : Int) - 1) ∧ RunG q L w u j bk (hopI L ta u) wr) (fun h' _ => (intOf h' + 1).toNat)
  case atStart => exact ⟨u + 1, _, Nat.le_refl _, by push_cast; congr 1; omega, HRun.out⟩
  case round =>
    clear HRun
    obtain ⟨j, bk0, hj, rfl, hrun⟩ := hrel
    cases j with
    | zero =>
      have HRun := Lib.hid hrun
      clear hrun
      go_wp2_with fail
      go_ret
      exact ⟨_, bk0, rfl, HRun.out.W, HRun.out.G⟩
    | succ h =>
      have hhu : h ≤ u := by omega
      have HP := Lib.hid (hrun.push hhu)
      have f0 := hrun.G.O.frozen h
      have e1 := hrun.G.O.cell (i := h) (by omega)
      rw [if_neg (by omega)] at e1
      have t0 := hrun.G.O.lt
      have B5 := hrun.B
      have c5 := B5.cell; have t5 := B5.lt
      have r1 : (0 : Int) ≤ (h : Int) := by omega
      have r2 : (h : Int) < (u : Int) + 1 := by omega
      rw [show ((h + 1 : Nat) : Int) - 1 = (h : Int) by omega]
      clear hrun
      go_upto_region 6 with fail
      obtain ⟨bk, hbk⟩ : ∃ bk : Nat → Nat, bk = fun i => if i = h then wr.heap.size else bk0 i := ⟨_, rfl⟩
      have HBh : Hid (bk h = wr.heap.size) := by show _ = _; rw [hbk]; exact if_pos rfl
      have hp := HP.out
      rw [← hbk, show (fun i => if i = h then (fun _ => 0 : Nat → Int) else hopI L ta u i) = rowsG L ta u h (fun _ => 0) from rfl] at hp
      obtain ⟨W1, hW1⟩ : ∃ W1, W1 = (wr.setCell ⟨w.heap.size + 1, h, none⟩ (.slice (some ⟨wr.heap.size, 0, none⟩) L.st.length L.st.length)).alloc (.cells (madeCells #[.int .i64 0] L.st.length) 3) := ⟨_, rfl⟩
      rw [← hW1] at hp ⊢
      rw [← HBh.out]
      have HRun := Lib.hid hp
      clear hp hW1 HP HBh hbk f0 e1 t0 B5 c5 t5 hj
      go_wp2_with fail
      go_loopw [9] (fun a' wr => ∃ a : Nat, a ≤ L.st.length ∧ a' = .int .i64 a ∧ RunG q L w u h bk (rowsG L ta u h fun x => if x < a then hopI L ta u h x else 0) wr) (fun a' _ => L.st.length - (intOf a').toNat)
      case atStart => exact ⟨0, Nat.zero_le _, rfl, HRun.out.congr fun i x _ _ _ => by unfold rowsG; simp⟩
      case round =>
        clear HRun
        rename_i wq wr
        obtain ⟨a, ha, rfl, hrun⟩ := hrel
        by_cases hlta : a < L.st.length
        · obtain ⟨g1, g2, t1, t2, fz⟩ := hrun.facts (Nat.le_refl h) hhu
          have g3 := g2 a hlta
          have fz1 := fz a
          have HS : Hid (RunG q L w u h bk (rowsG L ta u h fun x => if x < a then hopI L ta u h x else if x = a then 99 else 0) (wr.setCell ⟨bk h, a, none⟩ (.int .i64 99))) := hrun.set hhu fun i y _ _ _ => by
            unfold rowsG
            by_cases he : i = h
            · subst he
              simp only [true_and, if_true]
              by_cases hy : y = a
              · subst hy; simp
              · simp [hy]
            · simp [he]
          have r3 : (0 : Int) ≤ (a : Int) := by omega
          have r4 : (a : Int) < (L.st.length : Int) := by omega
          have r5 : (h : Int) < (u : Int) + 1 := by omega
          have B5 := hrun.B
          have c5 := B5.cell; have t5 := B5.lt
          clear hrun g2 fz
          go_upto_region 10 with fail
          obtain ⟨W2, hW2⟩ : ∃ W2, W2 = wr.setCell ⟨bk h, a, none⟩ (.int .i64 99) := ⟨_, rfl⟩
          rw [← hW2] at HS ⊢
          clear hW2 g1 t1 t2 g3 fz1 B5 c5 t5
          by_cases hta : a = ta
          · have d1 : ((a : Int) == (ta : Int)) = true := by simp [hta]
            obtain ⟨g1, g2, t1, t2, fz⟩ := HS.out.facts (Nat.le_refl h) hhu
            have g3 := g2 a hlta
            have fz1 := fz a
            obtain ⟨zn, hzn⟩ : ∃ zn : Nat, zn = 0 := ⟨_, rfl⟩
            have HZ : Hid (zn = if a = ta then 0 else 99) := by show _ = _; rw [hzn, if_pos hta]
            have HS2 : Hid (RunG q L w u h bk (rowsG L ta u h fun x => if x < a then hopI L ta u h x else if x = a then (zn : Int) else 0) (W2.setCell ⟨bk h, a, none⟩ (.int .i64 0))) := HS.out.set hhu fun i y _ _ _ => by
              rw [hzn]
              unfold rowsG
              by_cases he : i = h
              · subst he
                simp only [true_and, if_true]
                by_cases hy : y = a
                · subst hy; simp
                · simp [hy]
              · simp [he]
            clear g2 fz HS hta hzn
            go_upto_region 12 with fail
            obtain ⟨W3, hW3⟩ : ∃ W3, W3 = W2.setCell ⟨bk h, a, none⟩ (.int .i64 0) := ⟨_, rfl⟩
            rw [← hW3] at HS2 ⊢
            have HS := HS2
            clear hW3 g1 t1 t2 g3 fz1 HS2 d1
            by_cases hhe : h = u
            · have d2 : ((h : Int) == (u : Int)) = true := by simp [hhe]
              have HN : Hid (RunG q L w u h bk (rowsG L ta u h fun x => if x < a + 1 then hopI L ta u h x else 0) W3) := HS.out.congr fun i x _ _ _ => by
                unfold rowsG
                by_cases he : i = h
                · simp only [he, if_true]
                  by_cases hx : x < a
                  · rw [if_pos hx, if_pos (by omega)]
                  · rw [if_neg hx]
                    by_cases hx2 : x = a
                    · subst hx2
                      rw [if_pos rfl, if_pos (by omega), HZ.out]
                      unfold hopI
                      rw [← hhe, Nat.sub_self]
                      unfold hopN
                      split <;> rfl
                    · rw [if_neg hx2, if_neg (by omega)]
                · rw [if_neg he, if_neg he]
              clear HS HZ hhe
              go_wp2_with fail
              go_roundw
              case rel => exact ⟨a + 1, by omega, by go_num, HN.out⟩
              case measure => simp [intOf]; omega
            · have d2 : ((h : Int) == (u : Int)) = false := by rw [beq_eq_false_iff_ne]; omega
              have hhl : h + 1 ≤ u := by omega
              obtain ⟨g1, g2, t1, t2, fz⟩ := HS.out.facts (Nat.le_refl h) hhu
              obtain ⟨k1, k2, k3, k4, _⟩ := HS.out.facts (i := h + 1) (by omega) hhl
              have g3 := g2 a hlta
              rw [show rowsG L ta u h (fun x => if x < a then hopI L ta u h x else if x = a then (zn : Int) else 0) h a = (zn : Int) by unfold rowsG; simp] at g3
              have k5 := k2 a hlta
              obtain ⟨yn, hyn⟩ : ∃ yn, yn = hopN L.alws L.st.length ta u (u - (h + 1)) a := ⟨_, rfl⟩
              rw [show rowsG L ta u h (fun x => if x < a then hopI L ta u h x else if x = a then (zn : Int) else 0) (h + 1) a = (yn : Int) by rw [hyn]; unfold rowsG; simp [hopI]] at k5
              have HYn := Lib.hid hyn
              have r6 : (h : Int) + 1 < (u : Int) + 1 := by omega
              have r7 : (0 : Int) ≤ (h : Int) + 1 := by omega
              clear g2 k2 hyn hhe
              go_upto_region 13 with fail
              refine Fat.wp_region_tail 22 (by kernel_rfl) (by kernel_rfl) ?_
              simp only [List.take_succ_cons, List.drop_succ_cons, List.take_zero, List.drop_zero]
              repeat (go_big_quiet_step (fail))
              refine wpQuiet_nil ?_
              intro W4 hb4
              have HS4 := Lib.hid (HS.out.later hb4)
              clear g1 t1 t2 fz k1 k3 k4 g3 k5 hb4 HS
              obtain ⟨g1, g2, t1, t2, fz⟩ := HS4.out.facts (Nat.le_refl h) hhu
              have g3 := g2 a hlta
              have fz1 := fz a
              clear g2 fz
              go_upto_region 14 with fail
              obtain ⟨vn, hvn⟩ : ∃ vn, vn = hopS L.alws (hopN L.alws L.st.length ta u (u - (h + 1))) a h zn 0 := ⟨_, rfl⟩
              have hmin : (if yn < zn then (yn : Int) else (zn : Int)) = (vn : Int) := by
                have : vn = min zn yn := by rw [hvn, HYn.out]; rfl
                rw [this]
                split <;> omega
              rw [hmin]
              obtain ⟨W5, hW5⟩ : ∃ W5, W5 = W4.setCell ⟨bk h, a, none⟩ (.int .i64 (vn : Int)) := ⟨_, rfl⟩
              have HS5 : Hid (RunG q L w u h bk (rowsG L ta u h fun x => if x < a then hopI L ta u h x else if x = a then ((hopS L.alws (hopN L.alws L.st.length ta u (u - (h + 1))) a h zn 0 : Nat) : Int) else 0) W5) := by
                show RunG _ _ _ _ _ _ _ _
                rw [hW5, ← hvn]
                exact HS4.out.set hhu fun i y _ _ _ => by
                  unfold rowsG
                  by_cases he : i = h
                  · subst he
                    simp only [true_and, if_true]
                    by_cases hy : y = a
                    · subst hy; simp
                    · simp [hy]
                  · simp [he]
              rw [← hW5]
              clear hmin hvn hW5 HS4 g1 t1 t2 g3 fz1 d2 r7 HYn
              go_wp2_with fail
              go_loopw [10] (fun b' wr => ∃ b : Nat, b ≤ L.st.length ∧ b' = .int .i64 b ∧ RunG q L w u h bk (rowsG L ta u h fun x => if x < a then hopI L ta u h x else if x = a then ((hopS L.alws (hopN L.alws L.st.length ta u (u - (h + 1))) a h zn b : Nat) : Int) else 0) wr) (fun b' _ => L.st.length - (intOf b').toNat)
              case atStart => exact ⟨0, Nat.zero_le _, rfl, HS5.out⟩
              case round =>
                clear HS5
                rename_i wq2 wr
                obtain ⟨b, hb, rfl, hrun⟩ := hrel
                have HR := Lib.hid hrun
                have B5 := hrun.B
                clear hrun
                by_cases hltb : b < L.st.length
                · obtain ⟨g1, g2, t1, t2, fz⟩ := HR.out.facts (Nat.le_refl h) hhu
                  obtain ⟨k1, k2, k3, k4, _⟩ := HR.out.facts (i := h + 1) (by omega) hhl
                  have g3 := g2 a hlta
                  obtain ⟨cn, hcn⟩ : ∃ cn, cn = hopS L.alws (hopN L.alws L.st.length ta u (u - (h + 1))) a h zn b := ⟨_, rfl⟩
                  rw [show rowsG L ta u h (fun x => if x < a then hopI L ta u h x else if x = a then ((hopS L.alws (hopN L.alws L.st.length ta u (u - (h + 1))) a h zn b : Nat) : Int) else 0) h a = (cn : Int) by rw [hcn]; unfold rowsG; simp] at g3
                  have k5 := k2 b hltb
                  obtain ⟨yb, hyb⟩ : ∃ yb, yb = hopN L.alws L.st.length ta u (u - (h + 1)) b := ⟨_, rfl⟩
                  rw [show rowsG L ta u h (fun x => if x < a then hopI L ta u h x else if x = a then ((hopS L.alws (hopN L.alws L.st.length ta u (u - (h + 1))) a h zn b : Nat) : Int) else 0) (h + 1) b = (yb : Int) by rw [hyb]; unfold rowsG; simp [hopI]] at k5
                  have HSt : Hid (hopS L.alws (hopN L.alws L.st.length ta u (u - (h + 1))) a h zn (b + 1) = if yb < 99 ∧ L.alws a b h = true then min cn (1 + yb) else cn) := by show _ = _; rw [hcn, hyb]; rfl
                  rw [← hcn] at HR
                  have r8 : (0 : Int) ≤ (b : Int) := by omega
                  have r9 : (b : Int) < (L.st.length : Int) := by omega
                  have r7 : (0 : Int) ≤ (h : Int) + 1 := by omega
                  have HAl := Lib.hid (rAlways_any q L a b h wr (HL.out.later HR.out.W) HC.out hlta hltb (by omega))
                  obtain ⟨al, hal⟩ : ∃ al, al = L.alws a b h := ⟨_, rfl⟩
                  rw [← hal] at HSt HAl
                  have HYb := Lib.hid hyb
                  have c5 := B5.cell; have t5 := B5.lt
                  clear g2 k2 hcn hyb hal fz
                  by_cases hy9 : yb < 99
                  · have d3 : decide ((yb : Int) < 99) = true := decide_eq_true (by omega)
                    go_wp2_with fail
                    refine HAl.out.mono ?_
                    rintro e W6 ⟨rfl, hb6⟩
                    have HR6 := Lib.hid (HR.out.later hb6)
                    clear HR HAl hb6 g1 t1 t2 k1 k3 k4 g3 k5 B5 c5 t5
                    cases al with
                    | false =>
                      have hst := HSt.out
                      rw [if_neg (by simp)] at hst
                      have HN : Hid (RunG q L w u h bk (rowsG L ta u h fun x => if x < a then hopI L ta u h x else if x = a then ((hopS L.alws (hopN L.alws L.st.length ta u (u - (h + 1))) a h zn (b + 1) : Nat) : Int) else 0) W6) := by
                        show RunG _ _ _ _ _ _ _ _
                        rw [hst]; exact HR6.out
                      clear hst HSt HR6 hy9 d3
                      go_wp2_with fail
                      go_roundw
                      case rel => exact ⟨b + 1, by omega, by go_num, HN.out⟩
                      case measure => simp [intOf]; omega
                    | true =>
                      have hst := HSt.out
                      rw [if_pos ⟨hy9, rfl⟩] at hst
                      obtain ⟨g1, g2, t1, t2, fz⟩ := HR6.out.facts (Nat.le_refl h) hhu
                      obtain ⟨k1, k2, k3, k4, _⟩ := HR6.out.facts (i := h + 1) (by omega) hhl
                      have g3 := g2 a hlta
                      rw [show rowsG L ta u h (fun x => if x < a then hopI L ta u h x else if x = a then (cn : Int) else 0) h a = (cn : Int) by unfold rowsG; simp] at g3
                      have k5 := k2 b hltb
                      rw [show rowsG L ta u h (fun x => if x < a then hopI L ta u h x else if x = a then (cn : Int) else 0) (h + 1) b = (yb : Int) by rw [HYb.out]; unfold rowsG; simp [hopI]] at k5
                      have HHst := Lib.hid hst
                      have r10 : (yb : Int) < 99 := by omega
                      clear g2 k2 HSt hst hy9 d3
                      go_upto_region 18 with fail
                      refine Fat.wp_region_tail 23 (by kernel_rfl) (by kernel_rfl) ?_
                      simp only [List.take_succ_cons, List.drop_succ_cons, List.take_zero, List.drop_zero]
                      repeat (go_big_quiet_step (fail))
                      refine wpQuiet_nil ?_
                      intro W7 hb7
                      have HR7 := Lib.hid (HR6.out.later hb7)
                      clear g1 t1 t2 fz k1 k3 k4 g3 k5 hb7 HR6
                      obtain ⟨g1, g2, t1, t2, fz⟩ := HR7.out.facts (Nat.le_refl h) hhu
                      have g3 := g2 a hlta
                      have fz1 := fz a
                      clear g2 fz
                      have hmin : (if (1 : Int) + (yb : Int) < (cn : Int) then (1 : Int) + (yb : Int) else (cn : Int)) = ((min cn (1 + yb) : Nat) : Int) := by
                        split <;> omega
                      have HMin := Lib.hid hmin
                      have HN : Hid (RunG q L w u h bk (rowsG L ta u h fun x => if x < a then hopI L ta u h x else if x = a then ((hopS L.alws (hopN L.alws L.st.length ta u (u - (h + 1))) a h zn (b + 1) : Nat) : Int) else 0) (W7.setCell ⟨bk h, a, none⟩ (.int .i64 (if (1 : Int) + (yb : Int) < (cn : Int) then (1 : Int) + (yb : Int) else (cn : Int))))) := by
                        show RunG _ _ _ _ _ _ _ _
                        rw [HHst.out, HMin.out]
                        exact HR7.out.set hhu fun i y _ _ _ => by
                          unfold rowsG
                          by_cases he : i = h
                          · subst he
                            simp only [true_and, if_true]
                            by_cases hy : y = a
                            · subst hy; simp
                            · simp [hy]
                          · simp [he]
                      clear hmin HMin HHst
                      go_wp2_with fail
                      go_roundw
                      case rel => exact ⟨b + 1, by omega, by go_num, HN.out⟩
                      case measure => simp [intOf]; omega
                  · have d3 : decide ((yb : Int) < 99) = false := decide_eq_false (by omega)
                    have d4 : ¬ (yb : Int) < 99 := by omega
                    have hst := HSt.out
                    rw [if_neg fun h => hy9 h.1] at hst
                    have HN : Hid (RunG q L w u h bk (rowsG L ta u h fun x => if x < a then hopI L ta u h x else if x = a then ((hopS L.alws (hopN L.alws L.st.length ta u (u - (h + 1))) a h zn (b + 1) : Nat) : Int) else 0) wr) := by
                      show RunG _ _ _ _ _ _ _ _
                      rw [hst]; exact HR.out
                    clear hst HSt HAl HR hy9
                    go_wp2_with fail
                    go_roundw
                    case rel => exact ⟨b + 1, by omega, by go_num, HN.out⟩
                    case measure => simp [intOf]; omega
                · obtain rfl : b = L.st.length := by omega
                  have HN : Hid (RunG q L w u h bk (rowsG L ta u h fun x => if x < a + 1 then hopI L ta u h x else 0) wr) := HR.out.congr fun i x _ _ _ => by
                    unfold rowsG
                    by_cases he : i = h
                    · simp only [he, if_true]
                      by_cases hx : x < a
                      · rw [if_pos hx, if_pos (by omega)]
                      · rw [if_neg hx]
                        by_cases hx2 : x = a
                        · subst hx2
                          rw [if_pos rfl, if_pos (by omega), HZ.out]
                          unfold hopI
                          obtain ⟨d, hd⟩ : ∃ d, u - h = d + 1 := ⟨u - (h + 1), by omega⟩
                          rw [hd, show u - (h + 1) = d by omega]
                          show _ = ((hopS L.alws (hopN L.alws L.st.length ta u d) x (u - (d + 1)) (if x = ta then 0 else 99) L.st.length : Nat) : Int)
                          rw [show u - (d + 1) = h by omega]
                        · rw [if_neg hx2, if_neg (by omega)]
                    · rw [if_neg he, if_neg he]
                  have c5 := B5.cell; have t5 := B5.lt
                  clear HR hltb HZ B5
                  go_wp2_with fail
                  go_roundw
                  case rel => exact ⟨a + 1, by omega, by go_num, HN.out⟩
                  case measure => simp [intOf]; omega
          · have d1 : ((a : Int) == (ta : Int)) = false := by rw [beq_eq_false_iff_ne]; omega
            obtain ⟨zn, hzn⟩ : ∃ zn : Nat, zn = 99 := ⟨_, rfl⟩
            have HZ : Hid (zn = if a = ta then 0 else 99) := by show _ = _; rw [hzn, if_neg hta]
            rw [show (99 : Int) = (zn : Int) by rw [hzn]; rfl] at HS
            clear hzn hta
            go_upto_region 12 with fail
            clear d1
            by_cases hhe : h = u
            · have d2 : ((h : Int) == (u : Int)) = true := by simp [hhe]
              have HN : Hid (RunG q L w u h bk (rowsG L ta u h fun x => if x < a + 1 then hopI L ta u h x else 0) W2) := HS.out.congr fun i x _ _ _ => by
                unfold rowsG
                by_cases he : i = h
                · simp only [he, if_true]
                  by_cases hx : x < a
                  · rw [if_pos hx, if_pos (by omega)]
                  · rw [if_neg hx]
                    by_cases hx2 : x = a
                    · subst hx2
                      rw [if_pos rfl, if_pos (by omega), HZ.out]
                      unfold hopI
                      rw [← hhe, Nat.sub_self]
                      unfold hopN
                      split <;> rfl
                    · rw [if_neg hx2, if_neg (by omega)]
                · rw [if_neg he, if_neg he]
              clear HS HZ hhe
              go_wp2_with fail
              go_roundw
              case rel => exact ⟨a + 1, by omega, by go_num, HN.out⟩
              case measure => simp [intOf]; omega
            · have d2 : ((h : Int) == (u : Int)) = false := by rw [beq_eq_false_iff_ne]; omega
              have hhl : h + 1 ≤ u := by omega
              obtain ⟨g1, g2, t1, t2, fz⟩ := HS.out.facts (Nat.le_refl h) hhu
              obtain ⟨k1, k2, k3, k4, _⟩ := HS.out.facts (i := h + 1) (by omega) hhl
              have g3 := g2 a hlta
              rw [show rowsG L ta u h (fun x => if x < a then hopI L ta u h x else if x = a then (zn : Int) else 0) h a = (zn : Int) by unfold rowsG; simp] at g3
              have k5 := k2 a hlta
              obtain ⟨yn, hyn⟩ : ∃ yn, yn = hopN L.alws L.st.length ta u (u - (h + 1)) a := ⟨_, rfl⟩
              rw [show rowsG L ta u h (fun x => if x < a then hopI L ta u h x else if x = a then (zn : Int) else 0) (h + 1) a = (yn : Int) by rw [hyn]; unfold rowsG; simp [hopI]] at k5
              have HYn := Lib.hid hyn
              have r6 : (h : Int) + 1 < (u : Int) + 1 := by omega
              have r7 : (0 : Int) ≤ (h : Int) + 1 := by omega
              clear g2 k2 hyn hhe
              go_upto_region 13 with fail
              refine Fat.wp_region_tail 22 (by kernel_rfl) (by kernel_rfl) ?_
              simp only [List.take_succ_cons, List.drop_succ_cons, List.take_zero, List.drop_zero]
              repeat (go_big_quiet_step (fail))
              refine wpQuiet_nil ?_
              intro W4 hb4
              have HS4 := Lib.hid (HS.out.later hb4)
              clear g1 t1 t2 fz k1 k3 k4 g3 k5 hb4 HS
              obtain ⟨g1, g2, t1, t2, fz⟩ := HS4.out.facts (Nat.le_refl h) hhu
              have g3 := g2 a hlta
              have fz1 := fz a
              clear g2 fz
              go_upto_region 14 with fail
              obtain ⟨vn, hvn⟩ : ∃ vn, vn = hopS L.alws (hopN L.alws L.st.length ta u (u - (h + 1))) a h zn 0 := ⟨_, rfl⟩
              have hmin : (if yn < zn then (yn : Int) else (zn : Int)) = (vn : Int) := by
                have : vn = min zn yn := by rw [hvn, HYn.out]; rfl
                rw [this]
                split <;> omega
              rw [hmin]
              obtain ⟨W5, hW5⟩ : ∃ W5, W5 = W4.setCell ⟨bk h, a, none⟩ (.int .i64 (vn : Int)) := ⟨_, rfl⟩
              have HS5 : Hid (RunG q L w u h bk (rowsG L ta u h fun x => if x < a then hopI L ta u h x else if x = a then ((hopS L.alws (hopN L.alws L.st.length ta u (u - (h + 1))) a h zn 0 : Nat) : Int) else 0) W5) := by
                show RunG _ _ _ _ _ _ _ _
                rw [hW5, ← hvn]
                exact HS4.out.set hhu fun i y _ _ _ => by
                  unfold rowsG
                  by_cases he : i = h
                  · subst he
                    simp only [true_and, if_true]
                    by_cases hy : y = a
                    · subst hy; simp
                    · simp [hy]
                  · simp [he]
              rw [← hW5]
              clear hmin hvn hW5 HS4 g1 t1 t2 g3 fz1 d2 r7 HYn
              go_wp2_with fail
              go_loopw [10] (fun b' wr => ∃ b : Nat, b ≤ L.st.length ∧ b' = .int .i64 b ∧ RunG q L w u h bk (rowsG L ta u h fun x => if x < a then hopI L ta u h x else if x = a then ((hopS L.alws (hopN L.alws L.st.length ta u (u - (h + 1))) a h zn b : Nat) : Int) else 0) wr) (fun b' _ => L.st.length - (intOf b').toNat)
              case atStart => exact ⟨0, Nat.zero_le _, rfl, HS5.out⟩
              case round =>
                clear HS5
                rename_i wq2 wr
                obtain ⟨b, hb, rfl, hrun⟩ := hrel
                have HR := Lib.hid hrun
                have B5 := hrun.B
                clear hrun
                by_cases hltb : b < L.st.length
                · obtain ⟨g1, g2, t1, t2, fz⟩ := HR.out.facts (Nat.le_refl h) hhu
                  obtain ⟨k1, k2, k3, k4, _⟩ := HR.out.facts (i := h + 1) (by omega) hhl
                  have g3 := g2 a hlta
                  obtain ⟨cn, hcn⟩ : ∃ cn, cn = hopS L.alws (hopN L.alws L.st.length ta u (u - (h + 1))) a h zn b := ⟨_, rfl⟩
                  rw [show rowsG L ta u h (fun x => if x < a then hopI L ta u h x else if x = a then ((hopS L.alws (hopN L.alws L.st.length ta u (u - (h + 1))) a h zn b : Nat) : Int) else 0) h a = (cn : Int) by rw [hcn]; unfold rowsG; simp] at g3
                  have k5 := k2 b hltb
                  obtain ⟨yb, hyb⟩ : ∃ yb, yb = hopN L.alws L.st.length ta u (u - (h + 1)) b := ⟨_, rfl⟩
                  rw [show rowsG L ta u h (fun x => if x < a then hopI L ta u h x else if x = a then ((hopS L.alws (hopN L.alws L.st.length ta u (u - (h + 1))) a h zn b : Nat) : Int) else 0) (h + 1) b = (yb : Int) by rw [hyb]; unfold rowsG; simp [hopI]] at k5
                  have HSt : Hid (hopS L.alws (hopN L.alws L.st.length ta u (u - (h + 1))) a h zn (b + 1) = if yb < 99 ∧ L.alws a b h = true then min cn (1 + yb) else cn) := by show _ = _; rw [hcn, hyb]; rfl
                  rw [← hcn] at HR
                  have r8 : (0 : Int) ≤ (b : Int) := by omega
                  have r9 : (b : Int) < (L.st.length : Int) := by omega
                  have r7 : (0 : Int) ≤ (h : Int) + 1 := by omega
                  have HAl := Lib.hid (rAlways_any q L a b h wr (HL.out.later HR.out.W) HC.out hlta hltb (by omega))
                  obtain ⟨al, hal⟩ : ∃ al, al = L.alws a b h := ⟨_, rfl⟩
                  rw [← hal] at HSt HAl
                  have HYb := Lib.hid hyb
                  have c5 := B5.cell; have t5 := B5.lt
                  clear g2 k2 hcn hyb hal fz
                  by_cases hy9 : yb < 99
                  · have d3 : decide ((yb : Int) < 99) = true := decide_eq_true (by omega)
                    go_wp2_with fail
                    refine HAl.out.mono ?_
                    rintro e W6 ⟨rfl, hb6⟩
                    have HR6 := Lib.hid (HR.out.later hb6)
                    clear HR HAl hb6 g1 t1 t2 k1 k3 k4 g3 k5 B5 c5 t5
                    cases al with
                    | false =>
                      have hst := HSt.out
                      rw [if_neg (by simp)] at hst
                      have HN : Hid (RunG q L w u h bk (rowsG L ta u h fun x => if x < a then hopI L ta u h x else if x = a then ((hopS L.alws (hopN L.alws L.st.length ta u (u - (h + 1))) a h zn (b + 1) : Nat) : Int) else 0) W6) := by
                        show RunG _ _ _ _ _ _ _ _
                        rw [hst]; exact HR6.out
                      clear hst HSt HR6 hy9 d3
                      go_wp2_with fail
                      go_roundw
                      case rel => exact ⟨b + 1, by omega, by go_num, HN.out⟩
                      case measure => simp [intOf]; omega
                    | true =>
                      have hst := HSt.out
                      rw [if_pos ⟨hy9, rfl⟩] at hst
                      obtain ⟨g1, g2, t1, t2, fz⟩ := HR6.out.facts (Nat.le_refl h) hhu
                      obtain ⟨k1, k2, k3, k4, _⟩ := HR6.out.facts (i := h + 1) (by omega) hhl
                      have g3 := g2 a hlta
                      rw [show rowsG L ta u h (fun x => if x < a then hopI L ta u h x else if x = a then (cn : Int) else 0) h a = (cn : Int) by unfold rowsG; simp] at g3
                      have k5 := k2 b hltb
                      rw [show rowsG L ta u h (fun x => if x < a then hopI L ta u h x else if x = a then (cn : Int) else 0) (h + 1) b = (yb : Int) by rw [HYb.out]; unfold rowsG; simp [hopI]] at k5
                      have HHst := Lib.hid hst
                      have r10 : (yb : Int) < 99 := by omega
                      clear g2 k2 HSt hst hy9 d3
                      go_upto_region 18 with fail
                      refine Fat.wp_region_tail 23 (by kernel_rfl) (by kernel_rfl) ?_
                      simp only [List.take_succ_cons, List.drop_succ_cons, List.take_zero, List.drop_zero]
                      repeat (go_big_quiet_step (fail))
                      refine wpQuiet_nil ?_
                      intro W7 hb7
                      have HR7 := Lib.hid (HR6.out.later hb7)
                      clear g1 t1 t2 fz k1 k3 k4 g3 k5 hb7 HR6
                      obtain ⟨g1, g2, t1, t2, fz⟩ := HR7.out.facts (Nat.le_refl h) hhu
                      have g3 := g2 a hlta
                      have fz1 := fz a
                      clear g2 fz
                      have hmin : (if (1 : Int) + (yb : Int) < (cn : Int) then (1 : Int) + (yb : Int) else (cn : Int)) = ((min cn (1 + yb) : Nat) : Int) := by
                        split <;> omega
                      have HMin := Lib.hid hmin
                      have HN : Hid (RunG q L w u h bk (rowsG L ta u h fun x => if x < a then hopI L ta u h x else if x = a then ((hopS L.alws (hopN L.alws L.st.length ta u (u - (h + 1))) a h zn (b + 1) : Nat) : Int) else 0) (W7.setCell ⟨bk h, a, none⟩ (.int .i64 (if (1 : Int) + (yb : Int) < (cn : Int) then (1 : Int) + (yb : Int) else (cn : Int))))) := by
                        show RunG _ _ _ _ _ _ _ _
                        rw [HHst.out, HMin.out]
                        exact HR7.out.set hhu fun i y _ _ _ => by
                          unfold rowsG
                          by_cases he : i = h
                          · subst he
                            simp only [true_and, if_true]
                            by_cases hy : y = a
                            · subst hy; simp
                            · simp [hy]
                          · simp [he]
                      clear hmin HMin HHst
                      go_wp2_with fail
                      go_roundw
                      case rel => exact ⟨b + 1, by omega, by go_num, HN.out⟩
                      case measure => simp [intOf]; omega
                  · have d3 : decide ((yb : Int) < 99) = false := decide_eq_false (by omega)
                    have d4 : ¬ (yb : Int) < 99 := by omega
                    have hst := HSt.out
                    rw [if_neg fun h => hy9 h.1] at hst
                    have HN : Hid (RunG q L w u h bk (rowsG L ta u h fun x => if x < a then hopI L ta u h x else if x = a then ((hopS L.alws (hopN L.alws L.st.length ta u (u - (h + 1))) a h zn (b + 1) : Nat) : Int) else 0) wr) := by
                      show RunG _ _ _ _ _ _ _ _
                      rw [hst]; exact HR.out
                    clear hst HSt HAl HR hy9
                    go_wp2_with fail
                    go_roundw
                    case rel => exact ⟨b + 1, by omega, by go_num, HN.out⟩
                    case measure => simp [intOf]; omega
                · obtain rfl : b = L.st.length := by omega
                  have HN : Hid (RunG q L w u h bk (rowsG L ta u h fun x => if x < a + 1 then hopI L ta u h x else 0) wr) := HR.out.congr fun i x _ _ _ => by
                    unfold rowsG
                    by_cases he : i = h
                    · simp only [he, if_true]
                      by_cases hx : x < a
                      · rw [if_pos hx, if_pos (by omega)]
                      · rw [if_neg hx]
                        by_cases hx2 : x = a
                        · subst hx2
                          rw [if_pos rfl, if_pos (by omega), HZ.out]
                          unfold hopI
                          obtain ⟨d, hd⟩ : ∃ d, u - h = d + 1 := ⟨u - (h + 1), by omega⟩
                          rw [hd, show u - (h + 1) = d by omega]
                          show _ = ((hopS L.alws (hopN L.alws L.st.length ta u d) x (u - (d + 1)) (if x = ta then 0 else 99) L.st.length : Nat) : Int)
                          rw [show u - (d + 1) = h by omega]
                        · rw [if_neg hx2, if_neg (by omega)]
                    · rw [if_neg he, if_neg he]
                  have c5 := B5.cell; have t5 := B5.lt
                  clear HR hltb HZ B5
                  go_wp2_with fail
                  go_roundw
                  case rel => exact ⟨a + 1, by omega, by go_num, HN.out⟩
                  case measure => simp [intOf]; omega
        · obtain rfl : a = L.st.length := by omega
          have HN : Hid (RunG q L w u h bk (hopI L ta u) wr) := hrun.congr fun i x _ _ hx => by
            unfold rowsG
            by_cases he : i = h
            · rw [if_pos he, if_pos hx, he]
            · rw [if_neg he]
          have B5 := hrun.B
          have c5 := B5.cell; have t5 := B5.lt
          clear hrun B5
          go_wp2_with fail
          go_roundw
          case rel => exact ⟨h, bk, by omega, by go_num, HN.out⟩
          case measure => simp [intOf]
end Go.Proofs.YtfihdaoakfdlpaaGreat
