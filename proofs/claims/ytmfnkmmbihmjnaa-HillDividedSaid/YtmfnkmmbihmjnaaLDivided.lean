/- The statement on a wall that is turned round or divided: its walk. -/
import Derived.Test.YtmfnkmmbihmjnaaMore2
import Derived.Test.YtmfnkmmbihmjnaaAlike
import Derived.Deep.DeepCutAuto
import Derived.Deep.CutBlock
import Derived.Deep.RegionHeld3
import Derived.Deep.DrawnRows
open Go.RowKit
namespace Go.Proofs.Ytmfnkmmbihmjnaa
open Go.Hill
attribute [local go_sem ↓] Go.wp_at_zero Go.wp_at_succ

theorem nameAny {p : World → Prop} {w : World} (h : ∀ W, W = w → p W) : p w := h w rfl
theorem LandR.flip4 {W : World} {n0 : Nat} {q : LV} {L : Land} {i g : Nat} {a : Wl} (h : LandR W n0 q L) (hi : L.rd[i]? = some a) (hg : q.a2 = some ⟨g, 0, none⟩) :
    LandR ((((W.setCell ⟨g, i * 6, none⟩ (.int .i64 a.X2)).setCell ⟨g, i * 6 + 1, none⟩ (.int .i64 a.Y2)).setCell ⟨g, i * 6 + 2, none⟩ (.int .i64 a.X1)).setCell ⟨g, i * 6 + 3, none⟩ (.int .i64 a.Y1)) n0 q (L.setRd i a.flip) := by
  have step : ∀ {W : World} {L : Land} {a : Wl} (_ : LandR W n0 q L) (_ : L.rd[i]? = some a) (j : Nat) (u : Value) (a' : Wl), j < 6 → a'.vs = a.vs.set j u → LandR (W.setCell ⟨g, i * 6 + j, none⟩ u) n0 q (L.setRd i a') := fun {W L a} h hi j u a' hj hv => by
    obtain ⟨g1, _, e1, _, _, _, h1⟩ := h.ridge hi
    rw [hg] at e1
    cases e1
    exact h1 j u a' hj hv
  have s1 := step h hi 0 (.int .i64 a.X2) ⟨a.X2, a.Y1, a.X2, a.Y2, a.B, a.T⟩ (by decide) rfl
  have s2 := step s1 (rd_setRd hi) 1 (.int .i64 a.Y2) ⟨a.X2, a.Y2, a.X2, a.Y2, a.B, a.T⟩ (by decide) rfl
  have s3 := step s2 (rd_setRd (rd_setRd hi)) 2 (.int .i64 a.X1) ⟨a.X2, a.Y2, a.X1, a.Y2, a.B, a.T⟩ (by decide) rfl
  have s4 := step s3 (rd_setRd (rd_setRd (rd_setRd hi))) 3 (.int .i64 a.Y1) a.flip (by decide) rfl
  simp only [setRd_setRd] at s4
  exact s4
theorem quo_facts {x n : Int} (hx : -100 ≤ x ∧ x ≤ 100) (hn : 2 ≤ n) (h : x.tmod n = 0) : ∃ d : Int, x.tdiv n = d ∧ x = d * n ∧ -100 ≤ d ∧ d ≤ 100 := by
  refine ⟨x.tdiv n, rfl, ?_⟩
  have h1 := Int.mul_tdiv_add_tmod x n
  rw [h, Int.add_zero, Int.mul_comm] at h1
  generalize x.tdiv n = d at *
  refine ⟨h1.symm, ?_⟩
  rcases Int.le_total 0 d with hd | hd
  · have a2 := Int.mul_le_mul_of_nonneg_left (show 1 ≤ n by omega) hd
    omega
  · have a2 := Int.mul_le_mul_of_nonneg_left (show 1 ≤ n by omega) (show 0 ≤ -d by omega)
    rw [Int.neg_mul, Int.neg_mul] at a2
    omega
theorem rg_lim {w : Wl} (h : w.rg = true) : ((0 ≤ w.X1 ∧ w.X1 ≤ 100) ∧ (0 ≤ w.Y1 ∧ w.Y1 ≤ 100)) ∧ ((0 ≤ w.X2 ∧ w.X2 ≤ 100) ∧ (0 ≤ w.Y2 ∧ w.Y2 ≤ 100)) := by
  unfold Wl.rg Wl.ok at h
  simp only [Bool.and_eq_true, Bool.not_eq_true', Bool.and_eq_false_iff, beq_eq_false_iff_ne, ne_eq, inB, decide_eq_true_eq, beq_iff_eq] at h
  obtain ⟨⟨⟨⟨⟨⟨⟨g1, g2⟩, g3⟩, g4⟩, g5⟩, g6⟩, g7⟩, g8⟩ := h
  exact ⟨⟨g1, g2⟩, g3, g4⟩
theorem LandR.ends2 {W : World} {n0 : Nat} {q : LV} {L : Land} {i g : Nat} {a : Wl} (h : LandR W n0 q L) (hi : L.rd[i]? = some a) (hg : q.a2 = some ⟨g, 0, none⟩) (u v : Int) :
    LandR ((W.setCell ⟨g, i * 6 + 2, none⟩ (.int .i64 u)).setCell ⟨g, i * 6 + 3, none⟩ (.int .i64 v)) n0 q (L.setRd i ⟨a.X1, a.Y1, u, v, a.B, a.T⟩) := by
  have step : ∀ {W : World} {L : Land} {a : Wl} (_ : LandR W n0 q L) (_ : L.rd[i]? = some a) (j : Nat) (u : Value) (a' : Wl), j < 6 → a'.vs = a.vs.set j u → LandR (W.setCell ⟨g, i * 6 + j, none⟩ u) n0 q (L.setRd i a') := fun {W L a} h hi j u a' hj hv => by
    obtain ⟨g1, _, e1, _, _, _, h1⟩ := h.ridge hi
    rw [hg] at e1
    cases e1
    exact h1 j u a' hj hv
  have s1 := step h hi 2 (.int .i64 u) ⟨a.X1, a.Y1, u, a.Y2, a.B, a.T⟩ (by decide) rfl
  have s2 := step s1 (rd_setRd hi) 3 (.int .i64 v) ⟨a.X1, a.Y1, u, v, a.B, a.T⟩ (by decide) rfl
  simp only [setRd_setRd] at s2
  exact s2
theorem wallsE_at00 {L : Land} {i j : Nat} (R : Ready L) (hi : i < L.st.length) (hj : j < L.st.length) (hne : i ≠ j) : Land.wallsE L i j 0 0 = (L.rbs i j, L.cbs i j 0 0, 0) := by
  have := wallsE_at (k := 0) (t := 0) R hi hj R.cs1 R.sn1 hne
  exact this
def divSpec (L : Land) (i : Nat) : Fat.Spec := if i = 1 then landSpec L else if i = 3 then landSpec L else newSpec 27 4
theorem divSpec_lasting (L : Land) (i : Nat) : Fat.Lasting (divSpec L i) := by
  unfold divSpec
  (repeat' split) <;> first | exact landSpec_lasting _ | exact newSpec_lasting _ _

set_option maxRecDepth 100000 in
set_option maxHeartbeats 16000000 in
theorem HillDivided_any (q : LV) (L : Land) (c rr aa : Nat) (w : World) (hL : LandAt w q L) (hs : Sane L) (hcc : c < 256) (hrr : rr < 256) (haa : aa < 256) :
    Calls Try.prog 16 #[landV q L, .int .u8 c, .int .u8 rr, .int .u8 aa] w (Ret (.bool true) w) := by
  obtain ⟨tv, htv⟩ : ∃ tv, tv = readyB L := ⟨_, rfl⟩
  have HReady : Hid (∀ W, Below w.heap.size w W → Calls Try.prog 30 #[landV q L] W (Ret (.bool tv) W)) := fun W hW => by rw [htv]; exact ready_any q L W (hL.later hW) hs
  have HL := Lib.hid hL
  have HTv := Lib.hid htv
  clear hL hs htv
  go_enter Try.func16, Try.ntmps16
  go_wp2_with fail
  refine named1 (p := fun W => Calls _ _ _ W _) ?_
  intro W hW B5
  refine (HReady.out W hW).mono ?_
  rintro e w1 ⟨rfl, hb1⟩
  replace hW := over hW hb1
  (try clear c5 t5); replace B5 := B5.later hb1; have c5 := B5.cell; have t5 := B5.lt
  clear hb1 HReady
  cases tv with
  | false =>
    go_wp2_with fail
    refine (awake_any _).mono ?_
    rintro e w2 ⟨rfl, hb2⟩
    replace hW := over hW hb2
    clear hb2
    go_wp2_with fail
    go_ret
    exact ⟨rfl, hW⟩
  | true =>
    have R := ready_of HTv.out.symm
    have HR := Lib.hid R
    have HS := Lib.hid (small_of R.chk)
    have HS0 := HS
    obtain ⟨p1, p2, p3⟩ := pair_spec (c := c) R.st1
    have l1 := R.st1
    have l6 := R.st6
    have d6 := R.rd6
    have m4 := R.cs4
    have s12 := R.sn12
    clear R
    by_cases hd : 0 < L.rd.length ∧ L.rd.length < 6
    case neg =>
      have hor : ((L.rd.length : Int) == 0) = true ∨ (((L.rd.length : Int) == 0) = false ∧ ((L.rd.length : Int) == 6) = true) := by
        by_cases h0 : L.rd.length = 0
        · exact .inl (beq_iff_eq.2 (by omega))
        · exact .inr ⟨beq_eq_false_iff_ne.2 (by omega), beq_iff_eq.2 (by omega)⟩
      rcases hor with h | ⟨h, h'⟩
      all_goals
        go_wp2_with fail
        refine (awake_any _).mono ?_
        rintro e w2 ⟨rfl, hb2⟩
        replace hW := over hW hb2
        clear hb2
        go_wp2_with fail
        go_ret
        exact ⟨rfl, hW⟩
    obtain ⟨hd0, hd5⟩ := hd
    have hn0 : ((L.rd.length : Int) == 0) = false := beq_eq_false_iff_ne.2 (by omega)
    have hn6 : ((L.rd.length : Int) == 6) = false := beq_eq_false_iff_ne.2 (by omega)
    go_wp2_with fail
    refine (pair_any q L.st.length _ _ _ c _ l1 (by omega) hcc).mono ?_
    rintro e w2 ⟨rfl, hb2⟩
    replace hW := over hW hb2; (try clear c5 t5); replace B5 := B5.later hb2; have c5 := B5.cell; have t5 := B5.lt; clear hb2 
    generalize pairA L.st.length c = i at *
    generalize pairB L.st.length c = j at *
    have HIJ := Lib.hid p3
    clear p3
    obtain ⟨r, hr⟩ : ∃ r, r = rr % L.rd.length := ⟨_, rfl⟩
    have hr1 : (r : Int) = (rr : Int) % (L.rd.length : Int) := by rw [hr]; simp
    have hr2 : r < L.rd.length := by rw [hr]; exact Nat.mod_lt rr hd0
    have hz2 : IntKind.i64.wrap (rr : Int) = (rr : Int) := IntWalk.i64_in _ (by omega)
    have hk5 : (0 : Int) ≤ (rr : Int) % (L.rd.length : Int) ∧ (rr : Int) % (L.rd.length : Int) < 12 := by omega
    clear hr
    go_upto_region 5 with fail
    rw [← hr1]
    clear hr1 hz2 hk5 hrr
    obtain ⟨wl, hwl⟩ := some_of hr2
    obtain ⟨rb, ro, ea, hC⟩ := RowAt.at HL.out.rd hr2
    obtain ⟨e0, e1, e2, e3, e4, e5⟩ := cells_wl (hC.later hW) hwl
    have z1 := block_lt_of_cell e0
    have r1 : (0 : Int) ≤ (r : Int) := by omega
    have r2 : (r : Int) < (L.rd.length : Int) := by omega
    have HWl := Lib.hid hwl
    rw [ea] at c5
    clear hC hwl
    have hlt5 : w.heap.size < w2.heap.size := t5
    go_upto_region 6 with fail
    refine named1 (p := Code.wp _ _ _ _) ?_
    intro W6 hb6 B12
    have B5' := B5.later hb6
    replace hW := over hW hb6
    clear c5 t5 B5 e0 e1 e2 e3 e4 e5 z1 ea
    have B5 := B5'
    clear B5' hb6
    generalize w2.heap.size = b12 at *
    have t12 := B12.lt
    have n5 : w.heap.size < b12 := hlt5
    have c5 := B5.cell; have t5 := B5.lt; have c12 := B12.cell; have t12 := B12.lt
    have hWr := hW
    refine Fat.wp_region0 6 [1, 3, 4, 5] (divSpec L) (divSpec_lasting L) (by kernel_rfl) (by kernel_rfl) ?_
    simp only [List.take_succ_cons, List.take_zero, Fat.pick, List.contains_cons, List.contains_nil, Nat.reduceAdd, Nat.reduceBEq]
    repeat (first | simp only [Bool.or_false] | simp only [Bool.or_true] | simp only [Bool.true_or] | simp only [Bool.false_eq_true] | simp only [if_true] | simp only [if_false])
    repeat (go_big_quiet_step (fail))
    refine wpQuiet_nil ?_
    refine ⟨?_, ?_, ?_⟩
    · intro i o hi hown ho vals lo hi' W hW hdep
      simp only [List.contains_cons, List.contains_nil, Bool.or_false] at hi
      (try simp only [Bool.or_eq_true] at hi)
      simp only [beq_iff_eq] at hi
      rcases hi with rfl | rfl | rfl | rfl
      all_goals first
        | exact absurd hown (by decide)
        | (simp only [List.getElem?_cons_succ, List.getElem?_cons_zero, Option.some.injEq] at ho; subst ho; refine .inl ⟨rfl, ?_⟩; simp only [Fat.putN, Fat.dstOf, Act.put, List.getElem?_toArray, List.getElem?_cons_succ, List.getElem?_cons_zero, Option.bind_some, List.setIfInBounds_toArray, List.set_cons_succ, List.set_cons_zero])
      · go_simp
        exact (copied_any q L W ((HL.out.later hWr).later hW) HS.out).mono fun e w'' ⟨q0, he, hb, hR⟩ => ⟨_, he, hb, landSpec_of hR hb⟩
      · go_simp
        exact (copied_any q L W ((HL.out.later hWr).later hW) HS.out).mono fun e w'' ⟨q0, he, hb, hR⟩ => ⟨_, he, hb, landSpec_of hR hb⟩
      · go_simp
        exact newSpec_new _ _ _
      · go_simp
        exact newSpec_new _ _ _
    · intro i o hi hown ho vals lo hi' W hW hdep
      simp only [List.contains_cons, List.contains_nil, Bool.or_false] at hi
      (try simp only [Bool.or_eq_true] at hi)
      simp only [beq_iff_eq] at hi
      rcases hi with rfl | rfl | rfl | rfl
      all_goals first
        | exact absurd (by decide) hown
        | (simp only [List.getElem?_cons_succ, List.getElem?_cons_zero, Option.some.injEq] at ho; subst ho; refine ⟨rfl, ?_⟩; simp only [Fat.putN, Fat.dstOf, Act.put, List.getElem?_toArray, List.getElem?_cons_succ, List.getElem?_cons_zero, Option.bind_some, List.setIfInBounds_toArray, List.set_cons_succ, List.set_cons_zero]; (try simp only [Option.bind_none]))
    · intro vals lo hi' w5 hb5 hphi hdis htied
      obtain ⟨a1, a2, a3, q1, (v1 : vals 1 = _), R1⟩ := hphi 1 rfl
      obtain ⟨b1, b2, b3, q2, (v3 : vals 3 = _), R2⟩ := hphi 3 rfl
      obtain ⟨f1, _, f3, (v4 : vals 4 = _), f4, cx, (BX : Box w5 (lo 4) cx _), hcx⟩ := hphi 4 rfl
      obtain ⟨g1, _, g3, (v5 : vals 5 = _), g4, cy, (BY : Box w5 (lo 5) cy _), hcy⟩ := hphi 5 rfl
      have D : ∀ j k, j ∈ [1, 3, 4, 5] → k ∈ [1, 3, 4, 5] → j ≠ k → hi' j ≤ lo k ∨ hi' k ≤ lo j := fun j k hj hk hne => hdis j k (by simpa using hj) (by simpa using hk) hne
      have x13 := D 1 3 (by decide) (by decide) (by decide)
      have x14 := D 1 4 (by decide) (by decide) (by decide)
      have x15 := D 1 5 (by decide) (by decide) (by decide)
      have x34 := D 3 4 (by decide) (by decide) (by decide)
      have x35 := D 3 5 (by decide) (by decide) (by decide)
      have x45 := D 4 5 (by decide) (by decide) (by decide)
      simp only [Fat.putN, Fat.dstOf, Act.put, List.getElem?_toArray, List.getElem?_cons_succ, List.getElem?_cons_zero, Option.bind_some, List.setIfInBounds_toArray, List.set_cons_succ, List.set_cons_zero, List.drop_succ_cons, List.drop_zero]
      rw [v1, v3, v4, v5]
      clear hphi hdis htied D v1 v3 v4 v5
      generalize lo 1 = n1 at *
      generalize lo 3 = n2 at *
      generalize hi' 1 = h1 at *
      generalize hi' 3 = h2 at *
      generalize lo 4 = bx at *
      generalize lo 5 = «by» at *
      generalize hi' 4 = hx at *
      generalize hi' 5 = hy at *
      replace B5 := B5.later hb5
      replace B12 := B12.later hb5
      replace hW := over hWr hb5
      clear vals lo hi' c5 t5 c12 hWr
      have n12 := B12.lt
      refine wpList_store_box rfl rfl 27 (.tmp 13) (.tmp 63) rfl _ #[.slice q1.a1 L.st.length q1.c1, .slice q1.a2 L.rd.length q1.c2, .slice q1.a3 L.cs.length q1.c3, .slice q1.a4 L.sn.length q1.c4] rfl rfl BX hcx (by kernel_rfl) rfl ?_
      intro V1 CX but1
      replace hW := but1.below hW (by omega)
      replace B5 := but1.box B5 (show w.heap.size ≠ bx by omega)
      replace B12 := but1.box B12 (show b12 ≠ bx by omega)
      replace BY := but1.box BY (show «by» ≠ bx by omega)
      replace R1 := R1.but but1 (by omega)
      replace R2 := R2.but but1 (by omega)
      clear but1 BX hcx
      refine wpList_store_box rfl rfl 27 (.tmp 14) (.tmp 65) rfl _ #[.slice q2.a1 L.st.length q2.c1, .slice q2.a2 L.rd.length q2.c2, .slice q2.a3 L.cs.length q2.c3, .slice q2.a4 L.sn.length q2.c4] rfl rfl BY hcy (by kernel_rfl) rfl ?_
      intro V2 CY but2
      replace hW := but2.below hW (by omega)
      replace B5 := but2.box B5 (show w.heap.size ≠ «by» by omega)
      replace B12 := but2.box B12 (show b12 ≠ «by» by omega)
      replace CX := but2.box CX (show bx ≠ «by» by omega)
      replace R1 := R1.but but2 (by omega)
      replace R2 := R2.but but2 (by omega)
      clear but2 BY hcy
      have HD := Lib.hid (show (h1 ≤ n2 ∨ h2 ≤ n1) ∧ (w.heap.size < b12 ∧ b12 < n1 ∧ b12 < n2) ∧ ((bx < n1 ∨ h1 ≤ bx) ∧ (bx < n2 ∨ h2 ≤ bx)) ∧ ((«by» < n1 ∨ h1 ≤ «by») ∧ («by» < n2 ∨ h2 ≤ «by»)) ∧ b12 < bx ∧ b12 < «by» ∧ bx ≠ «by» from by omega)
      clear a1 a2 a3 b1 b2 b3 f1 f3 f4 g1 g3 g4 x13 x14 x15 x34 x35 x45 hb5 hlt5 n12 n5 hcc
      go_upto_region 7 with fail
      obtain ⟨g, cur, hq, hgn, hBg, hcell, _⟩ := R1.now.ridge HWl.out
      have hgh : g < h1 := R1.rd.2 g (by rw [hq]; rfl)
      obtain ⟨o, ho⟩ : ∃ o : Nat, o = 0 := ⟨_, rfl⟩
      have hq2 : q1.a2 = some ⟨g, o, none⟩ := by rw [hq, ho]
      have cxx : ∀ j v, wl.vs[j]? = some v → V2.cell? ⟨g, o + r * 6 + j, none⟩ = some v := fun j v h => by rw [ho, Nat.zero_add]; exact hcell j v h
      have e0 : V2.cell? ⟨g, o + r * 6, none⟩ = some (.int .i64 wl.X1) := cxx 0 _ rfl
      have e1 : V2.cell? ⟨g, o + r * 6 + 1, none⟩ = some (.int .i64 wl.Y1) := cxx 1 _ rfl
      have e2 : V2.cell? ⟨g, o + r * 6 + 2, none⟩ = some (.int .i64 wl.X2) := cxx 2 _ rfl
      have e3 : V2.cell? ⟨g, o + r * 6 + 3, none⟩ = some (.int .i64 wl.Y2) := cxx 3 _ rfl
      have fg := hBg.frozen
      have tg := hBg.lt
      obtain ⟨o12, ⟨u0, u1, u2⟩, ⟨xx1, xx2⟩, ⟨yy1, yy2⟩, v1', v2', v3'⟩ := HD.out
      have ngx : bx ≠ g := by omega
      have ng12 : b12 ≠ g := by omega
      have HQ := Lib.hid hq
      have HO := Lib.hid ho
      have HBg := Lib.hid hBg
      have HR1 := Lib.hid R1
      have HR2 := Lib.hid R2
      have HCX := Lib.hid CX
      have HGn := Lib.hid (And.intro hgn hgh)
      rw [hq2] at CX
      clear hq hq2 ho hBg hcell cxx R1 R2 hgn hgh
      have HS : Hid (∀ w', Below V2.heap.size V2 w' → w'.cell? ⟨bx, 1, none⟩ = some (.slice (some ⟨g, o, none⟩) L.rd.length q1.c2) ∧ w'.cell? ⟨b12, 0, none⟩ = some (.int .i64 wl.X1) ∧ w'.cell? ⟨b12, 1, none⟩ = some (.int .i64 wl.Y1) ∧ w'.cell? ⟨b12, 2, none⟩ = some (.int .i64 wl.X2) ∧ w'.cell? ⟨b12, 3, none⟩ = some (.int .i64 wl.Y2)) := fun w' hb =>
        ⟨(hb.cell (p := ⟨bx, 1, none⟩) CX.lt).trans (CX.cell 1), (hb.cell (p := ⟨b12, 0, none⟩) B12.lt).trans (B12.cell 0), (hb.cell (p := ⟨b12, 1, none⟩) B12.lt).trans (B12.cell 1), (hb.cell (p := ⟨b12, 2, none⟩) B12.lt).trans (B12.cell 2), (hb.cell (p := ⟨b12, 3, none⟩) B12.lt).trans (B12.cell 3)⟩
      have HS2 : Hid (∀ (W : World) (p : Nat) (v : Value), (W.cell? ⟨bx, 1, none⟩ = some (.slice (some ⟨g, o, none⟩) L.rd.length q1.c2) ∧ W.cell? ⟨b12, 0, none⟩ = some (.int .i64 wl.X1) ∧ W.cell? ⟨b12, 1, none⟩ = some (.int .i64 wl.Y1) ∧ W.cell? ⟨b12, 2, none⟩ = some (.int .i64 wl.X2) ∧ W.cell? ⟨b12, 3, none⟩ = some (.int .i64 wl.Y2)) → ((W.setCell ⟨g, p, none⟩ v).cell? ⟨bx, 1, none⟩ = some (.slice (some ⟨g, o, none⟩) L.rd.length q1.c2) ∧ (W.setCell ⟨g, p, none⟩ v).cell? ⟨b12, 0, none⟩ = some (.int .i64 wl.X1) ∧ (W.setCell ⟨g, p, none⟩ v).cell? ⟨b12, 1, none⟩ = some (.int .i64 wl.Y1) ∧ (W.setCell ⟨g, p, none⟩ v).cell? ⟨b12, 2, none⟩ = some (.int .i64 wl.X2) ∧ (W.setCell ⟨g, p, none⟩ v).cell? ⟨b12, 3, none⟩ = some (.int .i64 wl.Y2))) := fun W p v h => by
        have k : ∀ b t, b ≠ g → (W.setCell ⟨g, p, none⟩ v).cell? ⟨b, t, none⟩ = W.cell? ⟨b, t, none⟩ := fun b t hne => World.cell?_of_block ((setCell_but W g p v).block b hne)
        rw [k _ _ ngx, k _ _ ng12, k _ _ ng12, k _ _ ng12, k _ _ ng12]
        exact h
      clear o12 u0 u1 u2 xx1 xx2 yy1 yy2 v1' v2' v3'
      refine wp_region_noPanic ?_
      refine wp_region_held_drew (S := (fun w' => w'.cell? ⟨bx, 1, none⟩ = some (.slice (some ⟨g, o, none⟩) L.rd.length q1.c2) ∧ w'.cell? ⟨b12, 0, none⟩ = some (.int .i64 wl.X1) ∧ w'.cell? ⟨b12, 1, none⟩ = some (.int .i64 wl.Y1) ∧ w'.cell? ⟨b12, 2, none⟩ = some (.int .i64 wl.X2) ∧ w'.cell? ⟨b12, 3, none⟩ = some (.int .i64 wl.Y2))) (by kernel_rfl) (by (try dsimp only); exact HS.out _ (by repeat (first | exact Below.refl _ _ | refine al ?_ _ | refine Below.drew ?_ | refine sc ?_ (by simp) _))) (fun hHeld => ?_)
      refine wpAnyH_take (i := 0) (oi := _) (v := ?_) rfl (by kernel_rfl) (by kernel_rfl) (by kernel_rfl) (fun _ _ _ h => h) (Or.inl ⟨by rfl, ?_⟩) (by assumption) ?_
      rotate_left
      · (intro w hSw; (try dsimp only at hSw); go_simp; try with_reducible rfl)
      (try dsimp only); (try simp only [Act.put]); (try simp only [List.setIfInBounds_toArray]); (try simp only [List.set_cons_succ]); (try simp only [List.set_cons_zero])
      refine wpAnyH_take (i := 1) (oi := _) (v := ?_) rfl (by kernel_rfl) (by kernel_rfl) (by kernel_rfl) (fun _ _ _ h => h) (Or.inl ⟨by rfl, ?_⟩) (by assumption) ?_
      rotate_left
      · (intro w hSw; (try dsimp only at hSw); go_simp; try with_reducible rfl)
      (try dsimp only); (try simp only [Act.put]); (try simp only [List.setIfInBounds_toArray]); (try simp only [List.set_cons_succ]); (try simp only [List.set_cons_zero])
      refine wpAnyH_take (i := 2) (oi := _) (v := ?_) rfl (by kernel_rfl) (by kernel_rfl) (by kernel_rfl) (fun _ _ _ h => h) (Or.inl ⟨by rfl, ?_⟩) (by assumption) ?_
      rotate_left
      · (intro w hSw; (try dsimp only at hSw); go_simp; try with_reducible rfl)
      (try dsimp only); (try simp only [Act.put]); (try simp only [List.setIfInBounds_toArray]); (try simp only [List.set_cons_succ]); (try simp only [List.set_cons_zero])
      refine wpAnyH_take (i := 3) (oi := _) (v := ?_) rfl (by kernel_rfl) (by kernel_rfl) (by kernel_rfl) (fun _ _ _ h => h) (Or.inl ⟨by rfl, ?_⟩) (by assumption) ?_
      rotate_left
      · (intro w hSw; (try dsimp only at hSw); go_simp; try with_reducible rfl)
      (try dsimp only); (try simp only [Act.put]); (try simp only [List.setIfInBounds_toArray]); (try simp only [List.set_cons_succ]); (try simp only [List.set_cons_zero])
      refine wpAnyH_take (i := 4) (oi := _) (v := ?_) rfl (by kernel_rfl) (by kernel_rfl) (by kernel_rfl) (fun _ _ _ h => h) (Or.inl ⟨by rfl, ?_⟩) (by assumption) ?_
      rotate_left
      · (intro w hSw; (try dsimp only at hSw); go_simp; try with_reducible rfl)
      (try dsimp only); (try simp only [Act.put]); (try simp only [List.setIfInBounds_toArray]); (try simp only [List.set_cons_succ]); (try simp only [List.set_cons_zero])
      refine wpAnyH_take (i := 5) (oi := _) (v := ?_) rfl (by kernel_rfl) (by kernel_rfl) (by kernel_rfl) (fun _ _ _ h => h) (Or.inl ⟨by rfl, ?_⟩) (by assumption) ?_
      rotate_left
      · (intro w hSw; (try dsimp only at hSw); go_simp; try with_reducible rfl)
      (try dsimp only); (try simp only [Act.put]); (try simp only [List.setIfInBounds_toArray]); (try simp only [List.set_cons_succ]); (try simp only [List.set_cons_zero])
      refine wpAnyH_take (i := 6) (oi := _) (v := ?_) rfl (by kernel_rfl) (by kernel_rfl) (by kernel_rfl) (fun _ _ _ h => h) (Or.inl ⟨by rfl, ?_⟩) (by assumption) ?_
      rotate_left
      · (intro w hSw; (try dsimp only at hSw); go_simp; try with_reducible rfl)
      (try dsimp only); (try simp only [Act.put]); (try simp only [List.setIfInBounds_toArray]); (try simp only [List.set_cons_succ]); (try simp only [List.set_cons_zero])
      refine wpAnyH_take (i := 7) (oi := _) (v := ?_) rfl (by kernel_rfl) (by kernel_rfl) (by kernel_rfl) (fun _ _ _ h => h) (Or.inl ⟨by rfl, ?_⟩) (by assumption) ?_
      rotate_left
      · (intro w hSw; (try dsimp only at hSw); go_simp; try with_reducible rfl)
      (try dsimp only); (try simp only [Act.put]); (try simp only [List.setIfInBounds_toArray]); (try simp only [List.set_cons_succ]); (try simp only [List.set_cons_zero])
      refine wpAnyH_take (i := 8) (oi := _) (v := ?_) rfl (by kernel_rfl) (by kernel_rfl) (by kernel_rfl) (fun _ _ _ h => h) (Or.inl ⟨by rfl, ?_⟩) (by assumption) ?_
      rotate_left
      · (intro w hSw; (try dsimp only at hSw); go_simp; try with_reducible rfl)
      (try dsimp only); (try simp only [Act.put]); (try simp only [List.setIfInBounds_toArray]); (try simp only [List.set_cons_succ]); (try simp only [List.set_cons_zero])
      refine wpAnyH_take (i := 9) (oi := _) (v := ?_) rfl (by kernel_rfl) (by kernel_rfl) (by kernel_rfl) (fun _ _ _ h => h) (Or.inl ⟨by rfl, ?_⟩) (by assumption) ?_
      rotate_left
      · (intro w hSw; (try dsimp only at hSw); go_simp; try with_reducible rfl)
      (try dsimp only); (try simp only [Act.put]); (try simp only [List.setIfInBounds_toArray]); (try simp only [List.set_cons_succ]); (try simp only [List.set_cons_zero])
      refine wpAnyH_take (i := 10) (oi := _) (v := ?_) rfl (by kernel_rfl) (by kernel_rfl) (by kernel_rfl) (fun _ _ _ h => h) (Or.inl ⟨by rfl, ?_⟩) (by assumption) ?_
      rotate_left
      · (intro w hSw; (try dsimp only at hSw); go_simp; try with_reducible rfl)
      (try dsimp only); (try simp only [Act.put]); (try simp only [List.setIfInBounds_toArray]); (try simp only [List.set_cons_succ]); (try simp only [List.set_cons_zero])
      refine wpAnyH_take (i := 11) (oi := _) (v := ?_) rfl (by kernel_rfl) (by kernel_rfl) (by kernel_rfl) (fun _ _ _ h => h) (Or.inl ⟨by rfl, ?_⟩) (by assumption) ?_
      rotate_left
      · (intro w hSw; (try dsimp only at hSw); go_simp; try with_reducible rfl)
      (try dsimp only); (try simp only [Act.put]); (try simp only [List.setIfInBounds_toArray]); (try simp only [List.set_cons_succ]); (try simp only [List.set_cons_zero])
      refine wpAnyH_take (i := 12) (oi := _) (v := ?_) rfl (by kernel_rfl) (by kernel_rfl) (by kernel_rfl) (fun _ _ _ h => h) (Or.inl ⟨by rfl, ?_⟩) (by assumption) ?_
      rotate_left
      · (intro w hSw; (try dsimp only at hSw); go_simp; try with_reducible rfl)
      (try dsimp only); (try simp only [Act.put]); (try simp only [List.setIfInBounds_toArray]); (try simp only [List.set_cons_succ]); (try simp only [List.set_cons_zero])
      refine wpAnyH_take (i := 13) (oi := _) (v := ?_) rfl (by kernel_rfl) (by kernel_rfl) (by kernel_rfl) (fun _ _ _ h => h) (Or.inl ⟨by rfl, ?_⟩) (by assumption) ?_
      rotate_left
      · (intro w hSw; (try dsimp only at hSw); go_simp; try with_reducible rfl)
      (try dsimp only); (try simp only [Act.put]); (try simp only [List.setIfInBounds_toArray]); (try simp only [List.set_cons_succ]); (try simp only [List.set_cons_zero])
      refine wpAnyH_take (i := 14) (oi := _) (v := ?_) rfl (by kernel_rfl) (by kernel_rfl) (by kernel_rfl) (fun _ _ _ h => h) (Or.inl ⟨by rfl, ?_⟩) (by assumption) ?_
      rotate_left
      · (intro w hSw; (try dsimp only at hSw); go_simp; try with_reducible rfl)
      (try dsimp only); (try simp only [Act.put]); (try simp only [List.setIfInBounds_toArray]); (try simp only [List.set_cons_succ]); (try simp only [List.set_cons_zero])
      refine wpAnyH_take (i := 15) (oi := _) (v := ?_) rfl (by kernel_rfl) (by kernel_rfl) (by kernel_rfl) (fun _ _ _ h => h) (Or.inl ⟨by rfl, ?_⟩) (by assumption) ?_
      rotate_left
      · (intro w hSw; (try dsimp only at hSw); go_simp; try with_reducible rfl)
      (try dsimp only); (try simp only [Act.put]); (try simp only [List.setIfInBounds_toArray]); (try simp only [List.set_cons_succ]); (try simp only [List.set_cons_zero])
      refine wpAnyH_take (i := 16) (oi := _) (v := ?_) rfl (by kernel_rfl) (by kernel_rfl) (by kernel_rfl) (fun _ _ _ h => h) (Or.inl ⟨by rfl, ?_⟩) (by assumption) ?_
      rotate_left
      · (intro w hSw; (try dsimp only at hSw); go_simp; try with_reducible rfl)
      (try dsimp only); (try simp only [Act.put]); (try simp only [List.setIfInBounds_toArray]); (try simp only [List.set_cons_succ]); (try simp only [List.set_cons_zero])
      refine wpAnyH_take (i := 17) (oi := _) (v := ?_) rfl (by kernel_rfl) (by kernel_rfl) (by kernel_rfl) (fun _ _ _ h => h) (Or.inl ⟨by rfl, ?_⟩) (by assumption) ?_
      rotate_left
      · (intro w hSw; (try dsimp only at hSw); go_simp; try with_reducible rfl)
      (try dsimp only); (try simp only [Act.put]); (try simp only [List.setIfInBounds_toArray]); (try simp only [List.set_cons_succ]); (try simp only [List.set_cons_zero])
      refine wpAnyH_take (i := 18) (oi := _) (v := ?_) rfl (by kernel_rfl) (by kernel_rfl) (by kernel_rfl) (fun _ _ _ h => h) (Or.inl ⟨by rfl, ?_⟩) (by assumption) ?_
      rotate_left
      · (intro w hSw; (try dsimp only at hSw); go_simp; try with_reducible rfl)
      (try dsimp only); (try simp only [Act.put]); (try simp only [List.setIfInBounds_toArray]); (try simp only [List.set_cons_succ]); (try simp only [List.set_cons_zero])
      refine wpAnyH_take (i := 19) (oi := _) (v := ?_) rfl (by kernel_rfl) (by kernel_rfl) (by kernel_rfl) (fun _ _ _ h => h) (Or.inl ⟨by rfl, ?_⟩) (by assumption) ?_
      rotate_left
      · (intro w hSw; (try dsimp only at hSw); go_simp; try with_reducible rfl)
      (try dsimp only); (try simp only [Act.put]); (try simp only [List.setIfInBounds_toArray]); (try simp only [List.set_cons_succ]); (try simp only [List.set_cons_zero])
      refine wpAnyH_take (i := 20) (oi := _) (v := ?_) rfl (by kernel_rfl) (by kernel_rfl) (by kernel_rfl) (fun _ _ _ h => h) (Or.inl ⟨by rfl, ?_⟩) (by assumption) ?_
      rotate_left
      · (intro w hSw; (try dsimp only at hSw); go_simp; try with_reducible rfl)
      (try dsimp only); (try simp only [Act.put]); (try simp only [List.setIfInBounds_toArray]); (try simp only [List.set_cons_succ]); (try simp only [List.set_cons_zero])
      refine wpAnyH_take (i := 21) (oi := _) (v := ?_) rfl (by kernel_rfl) (by kernel_rfl) (by kernel_rfl) (fun _ _ _ h => h) (Or.inl ⟨by rfl, ?_⟩) (by assumption) ?_
      rotate_left
      · (intro w hSw; (try dsimp only at hSw); go_simp; try with_reducible rfl)
      (try dsimp only); (try simp only [Act.put]); (try simp only [List.setIfInBounds_toArray]); (try simp only [List.set_cons_succ]); (try simp only [List.set_cons_zero])
      refine wpAnyH_ready (rs := [22]) (by kernel_rfl) (by simp) ?_
      refine AllReadyH.cons (o := _) rfl (fun K hK => ?_) AllReadyH.nil
      go_simp
      refine hK.out _ _ (by (try dsimp only); exact HS2.out _ _ _ hHeld) (fun hHeld => ?_)
      clear hK K
      (try dsimp only); (try simp only [Act.put]); (try simp only [List.setIfInBounds_toArray]); (try simp only [List.set_cons_succ]); (try simp only [List.set_cons_zero])
      refine wpAnyH_take (i := 23) (oi := _) (v := ?_) rfl (by kernel_rfl) (by kernel_rfl) (by kernel_rfl) (fun _ _ _ h => h) (Or.inl ⟨by rfl, ?_⟩) (by assumption) ?_
      rotate_left
      · (intro w hSw; (try dsimp only at hSw); go_simp; try with_reducible rfl)
      (try dsimp only); (try simp only [Act.put]); (try simp only [List.setIfInBounds_toArray]); (try simp only [List.set_cons_succ]); (try simp only [List.set_cons_zero])
      refine wpAnyH_take (i := 24) (oi := _) (v := ?_) rfl (by kernel_rfl) (by kernel_rfl) (by kernel_rfl) (fun _ _ _ h => h) (Or.inl ⟨by rfl, ?_⟩) (by assumption) ?_
      rotate_left
      · (intro w hSw; (try dsimp only at hSw); go_simp; try with_reducible rfl)
      (try dsimp only); (try simp only [Act.put]); (try simp only [List.setIfInBounds_toArray]); (try simp only [List.set_cons_succ]); (try simp only [List.set_cons_zero])
      refine wpAnyH_ready (rs := [25]) (by kernel_rfl) (by simp) ?_
      refine AllReadyH.cons (o := _) rfl (fun K hK => ?_) AllReadyH.nil
      go_simp
      refine hK.out _ _ (by (try dsimp only); exact HS2.out _ _ _ hHeld) (fun hHeld => ?_)
      clear hK K
      (try dsimp only); (try simp only [Act.put]); (try simp only [List.setIfInBounds_toArray]); (try simp only [List.set_cons_succ]); (try simp only [List.set_cons_zero])
      refine wpAnyH_take (i := 26) (oi := _) (v := ?_) rfl (by kernel_rfl) (by kernel_rfl) (by kernel_rfl) (fun _ _ _ h => h) (Or.inl ⟨by rfl, ?_⟩) (by assumption) ?_
      rotate_left
      · (intro w hSw; (try dsimp only at hSw); go_simp; try with_reducible rfl)
      (try dsimp only); (try simp only [Act.put]); (try simp only [List.setIfInBounds_toArray]); (try simp only [List.set_cons_succ]); (try simp only [List.set_cons_zero])
      refine wpAnyH_take (i := 27) (oi := _) (v := ?_) rfl (by kernel_rfl) (by kernel_rfl) (by kernel_rfl) (fun _ _ _ h => h) (Or.inl ⟨by rfl, ?_⟩) (by assumption) ?_
      rotate_left
      · (intro w hSw; (try dsimp only at hSw); go_simp; try with_reducible rfl)
      (try dsimp only); (try simp only [Act.put]); (try simp only [List.setIfInBounds_toArray]); (try simp only [List.set_cons_succ]); (try simp only [List.set_cons_zero])
      refine wpAnyH_ready (rs := [28]) (by kernel_rfl) (by simp) ?_
      refine AllReadyH.cons (o := _) rfl (fun K hK => ?_) AllReadyH.nil
      go_simp
      refine hK.out _ _ (by (try dsimp only); exact HS2.out _ _ _ hHeld) (fun hHeld => ?_)
      clear hK K
      (try dsimp only); (try simp only [Act.put]); (try simp only [List.setIfInBounds_toArray]); (try simp only [List.set_cons_succ]); (try simp only [List.set_cons_zero])
      refine wpAnyH_take (i := 29) (oi := _) (v := ?_) rfl (by kernel_rfl) (by kernel_rfl) (by kernel_rfl) (fun _ _ _ h => h) (Or.inl ⟨by rfl, ?_⟩) (by assumption) ?_
      rotate_left
      · (intro w hSw; (try dsimp only at hSw); go_simp; try with_reducible rfl)
      (try dsimp only); (try simp only [Act.put]); (try simp only [List.setIfInBounds_toArray]); (try simp only [List.set_cons_succ]); (try simp only [List.set_cons_zero])
      refine wpAnyH_take (i := 30) (oi := _) (v := ?_) rfl (by kernel_rfl) (by kernel_rfl) (by kernel_rfl) (fun _ _ _ h => h) (Or.inl ⟨by rfl, ?_⟩) (by assumption) ?_
      rotate_left
      · (intro w hSw; (try dsimp only at hSw); go_simp; try with_reducible rfl)
      (try dsimp only); (try simp only [Act.put]); (try simp only [List.setIfInBounds_toArray]); (try simp only [List.set_cons_succ]); (try simp only [List.set_cons_zero])
      refine wpAnyH_ready (rs := [31]) (by kernel_rfl) (by simp) ?_
      refine AllReadyH.cons (o := _) rfl (fun K hK => ?_) AllReadyH.nil
      go_simp
      refine hK.out _ _ (by (try dsimp only); exact HS2.out _ _ _ hHeld) (fun hHeld => ?_)
      clear hK K
      (try dsimp only); (try simp only [Act.put]); (try simp only [List.setIfInBounds_toArray]); (try simp only [List.set_cons_succ]); (try simp only [List.set_cons_zero])
      refine wpAnyH_done (by kernel_rfl) ?_ _
      refine NoPanic.normal ?_
      repeat (clear hHeld)
      go_upto_region 8 with fail
      refine nameAny (p := Code.wp _ _ _ _) ?_
      intro V3 hV3
      have ho := HO.out
      subst ho
      simp only [Nat.zero_add] at hV3
      have hflip := HR1.out.now.flip4 HWl.out HQ.out
      obtain ⟨LX, hLX⟩ : ∃ LX, LX = L.setRd r wl.flip := ⟨_, rfl⟩
      rw [← hLX] at hflip
      have hxr : LandR V3 n1 q1 LX := by rw [hV3]; exact hflip.later (Below.drew (Below.refl _ _))
      have hbut : But g V2 V3 := by
        rw [hV3]
        have h4 := (((setCell_but V2 g (r * 6) (.int .i64 wl.X2)).trans (setCell_but _ g (r * 6 + 1) (.int .i64 wl.Y2))).trans (setCell_but _ g (r * 6 + 2) (.int .i64 wl.X1))).trans (setCell_but _ g (r * 6 + 3) (.int .i64 wl.Y1))
        exact ⟨h4.os, h4.tape, h4.output, h4.size, h4.block⟩
      obtain ⟨o12, ⟨u0, u1, u2⟩, ⟨xx1, xx2⟩, ⟨yy1, yy2⟩, v1', v2', v3'⟩ := HD.out
      obtain ⟨hgn, hgh⟩ := HGn.out
      have hXr : Ready LX := ready_chk (by rw [hLX]; exact chk_flip HR.out.chk HWl.out d6) (by rw [hLX]; exact l1)
      have hal : Alike L LX i j := by rw [hLX]; exact alike_flip HWl.out
      have x2 : LX.rd.length = L.rd.length := by rw [hLX]; simp [Land.setRd]
      have xs : LX.st = L.st ∧ LX.cs = L.cs ∧ LX.sn = L.sn := by rw [hLX]; exact ⟨rfl, rfl, rfl⟩
      have hXA := hxr.at
      replace hW := hbut.below hW (by omega)
      replace B5 := hbut.box B5 (by omega)
      replace B12 := hbut.box B12 (by omega)
      have B13 := hbut.box HCX.out (by omega)
      replace CY := hbut.box CY (by omega)
      have HR2 := Lib.hid (HR2.out.but hbut (by omega))
      have HAl : Hid (∀ W, Below V3.heap.size V3 W → Calls Try.prog 44 #[.agg #[.slice q.a1 L.st.length q.c1, .slice q.a2 L.rd.length q.c2, .slice q.a3 L.cs.length q.c3, .slice q.a4 L.sn.length q.c4], .agg #[.slice q1.a1 L.st.length q1.c1, .slice q1.a2 L.rd.length q1.c2, .slice q1.a3 L.cs.length q1.c3, .slice q1.a4 L.sn.length q1.c4], .int .i64 i, .int .i64 j] W (Ret (.bool true) W)) := fun W hb => by
        have h := alike_any q q1 L LX i j W (HL.out.later (over hW hb)) (hXA.later hb) HR.out hXr hal p1 p2 HIJ.out
        unfold landV at h
        rw [x2, xs.1, xs.2.1, xs.2.2] at h
        exact h
      clear hflip hxr hbut hXr hal x2 xs hXA hLX hV3 HR1 HCX HBg HQ HO HS HS2 e0 e1 e2 e3 fg tg ngx ng12 CX
      have c5 := B5.cell; have t5 := B5.lt; have c13 := B13.cell; have t13 := B13.lt
      go_wp2_with fail
      refine (HAl.out V3 (Below.refl _ _)).mono ?_
      rintro e v1 ⟨rfl, hb1⟩
      replace CY := CY.later hb1
      clear c5 t5 c13 t13 B13
      replace hW := over hW hb1; (try clear c5 t5 c12 t12); replace B5 := B5.later hb1; replace B12 := B12.later hb1; have c5 := B5.cell; have t5 := B5.lt; have c12 := B12.cell; have t12 := B12.lt; replace HR2 := Lib.hid (HR2.out.later hb1); clear hb1 HAl
      obtain ⟨n, hn⟩ : ∃ n : Int, n = 2 + (aa : Int) % 5 := ⟨_, rfl⟩
      have hn2 : 2 ≤ n ∧ n ≤ 6 := by omega
      have hz2 : IntKind.i64.wrap (aa : Int) = (aa : Int) := IntWalk.i64_in _ (by omega)
      go_upto_region 11 with fail
      rw [← hn]
      clear hn
      obtain ⟨⟨lx1, ly1⟩, lx2, ly2⟩ := rg_lim (rd_rg HR.out.chk wl (List.mem_of_getElem? HWl.out))
      have hn0 : ¬ n = 0 := by omega
      by_cases hdv : (wl.X2 - wl.X1).tmod n = 0 ∧ (wl.Y2 - wl.Y1).tmod n = 0
      case neg =>
        have hor : (¬ (wl.X2 - wl.X1).tmod n = 0) ∨ ((wl.X2 - wl.X1).tmod n = 0 ∧ ¬ (wl.Y2 - wl.Y1).tmod n = 0) := by
          by_cases h : (wl.X2 - wl.X1).tmod n = 0
          · exact .inr ⟨h, fun h' => hdv ⟨h, h'⟩⟩
          · exact .inl h
        rcases hor with h | ⟨h, h'⟩
        all_goals
          go_wp2_with fail
          refine (awake_any _).mono ?_
          rintro e w2 ⟨rfl, hb2⟩
          replace hW := over hW hb2
          clear hb2
          go_wp2_with fail
          go_ret
          exact ⟨rfl, hW⟩
      obtain ⟨hdx, hdy⟩ := hdv
      obtain ⟨dx, qx, ex, dx0, dx1⟩ := quo_facts (x := wl.X2 - wl.X1) (by omega) hn2.1 hdx
      obtain ⟨dy, qy, ey, dy0, dy1⟩ := quo_facts (x := wl.Y2 - wl.Y1) (by omega) hn2.1 hdy
      have HDx := Lib.hid (And.intro qx ex)
      have HDy := Lib.hid (And.intro qy ey)
      clear qx ex qy ey
      go_upto_region 13 with fail
      clear hdx hdy hn0
      obtain ⟨m, hm⟩ : ∃ m : Int, (aa : Int) / 8 % (n - 1) = m := ⟨_, rfl⟩
      have hm2 : 0 ≤ m ∧ m < n - 1 := by
        have h1 := Int.emod_lt_of_pos ((aa : Int) / 8) (show 0 < n - 1 by omega)
        have h2 := Int.emod_nonneg ((aa : Int) / 8) (show n - 1 ≠ 0 by omega)
        omega
      have htm : ((aa : Int) / 8).tmod (n - 1) = m := by rw [← hm]; exact Int.tmod_eq_emod_of_nonneg (by omega)
      have hn1 : ¬ n - 1 = 0 := by omega
      go_upto_region 14 with fail
      obtain ⟨k, hk⟩ : ∃ k : Int, k = 1 + m := ⟨_, rfl⟩
      have hk2 : 0 < k ∧ k < n := by omega
      rw [← hk]
      clear hk hm hm2 htm hn1 hz2 haa
      have m1 := mid_in HDx.out.2 hk2.1 hk2.2 lx1 lx2
      have m2 := mid_in HDy.out.2 hk2.1 hk2.2 ly1 ly2
      obtain ⟨u, hu⟩ : ∃ u, u = wl.X1 + dx * k := ⟨_, rfl⟩
      obtain ⟨v, hv⟩ : ∃ v, v = wl.Y1 + dy * k := ⟨_, rfl⟩
      have qx := HDx.out.1
      have qy := HDy.out.1
      have hn0 : ¬ n = 0 := by omega
      have pdx : -100 ≤ dx * k ∧ dx * k ≤ 100 := by omega
      have pdy : -100 ≤ dy * k ∧ dy * k ≤ 100 := by omega
      refine Fat.wp_region_tail 26 (by kernel_rfl) (by kernel_rfl) ?_
      simp only [List.take_succ_cons, List.drop_succ_cons, List.take_nil, List.drop_nil]
      repeat (go_big_quiet_step (fail))
      refine wpQuiet_nil ?_
      intro W5 hb5
      go_upto_region 15 with fail
      rw [← hu, ← hv]
      clear qx qy hn0 pdx pdy
      have HU := Lib.hid (And.intro hu hv)
      clear hu hv
      replace CY := CY.later hb5
      replace hW := over hW hb5; (try clear c5 t5 c12 t12); replace B5 := B5.later hb5; replace B12 := B12.later hb5; have c5 := B5.cell; have t5 := B5.lt; have c12 := B12.cell; have t12 := B12.lt; replace HR2 := Lib.hid (HR2.out.later hb5); clear hb5 
      obtain ⟨g, cur, hq, hgn, hBg, hcell, _⟩ := HR2.out.now.ridge HWl.out
      have hgh : g < h2 := HR2.out.rd.2 g (by rw [hq]; rfl)
      obtain ⟨o, ho⟩ : ∃ o : Nat, o = 0 := ⟨_, rfl⟩
      have hq2 : q2.a2 = some ⟨g, o, none⟩ := by rw [hq, ho]
      have e2 : W5.cell? ⟨g, o + r * 6 + 2, none⟩ = some (.int .i64 wl.X2) := by rw [ho, Nat.zero_add]; exact hcell 2 _ rfl
      have e3 : W5.cell? ⟨g, o + r * 6 + 3, none⟩ = some (.int .i64 wl.Y2) := by rw [ho, Nat.zero_add]; exact hcell 3 _ rfl
      have fg := hBg.frozen
      have tg := hBg.lt
      obtain ⟨o12, ⟨u0, u1, u2⟩, ⟨xx1, xx2⟩, ⟨yy1, yy2⟩, v1', v2', v3'⟩ := HD.out
      have ngy : «by» ≠ g := by omega
      have HQ := Lib.hid hq
      have HO := Lib.hid ho
      have HBg := Lib.hid hBg
      have HCY := Lib.hid CY
      have HGn := Lib.hid (And.intro hgn hgh)
      rw [hq2] at CY
      clear hq hq2 ho hBg hgn hgh hcell
      have HS : Hid (∀ w', Below W5.heap.size W5 w' → w'.cell? ⟨«by», 1, none⟩ = some (.slice (some ⟨g, o, none⟩) L.rd.length q2.c2)) := fun w' hb => (hb.cell (p := ⟨«by», 1, none⟩) CY.lt).trans (CY.cell 1)
      have HS2 : Hid (∀ (W : World) (p : Nat) (v : Value), W.cell? ⟨«by», 1, none⟩ = some (.slice (some ⟨g, o, none⟩) L.rd.length q2.c2) → (W.setCell ⟨g, p, none⟩ v).cell? ⟨«by», 1, none⟩ = some (.slice (some ⟨g, o, none⟩) L.rd.length q2.c2)) := fun W p v h => by
        have k : ∀ b t, b ≠ g → (W.setCell ⟨g, p, none⟩ v).cell? ⟨b, t, none⟩ = W.cell? ⟨b, t, none⟩ := fun b t hne => World.cell?_of_block ((setCell_but W g p v).block b hne)
        rw [k _ _ ngy]
        exact h
      clear o12 u0 u1 u2 xx1 xx2 yy1 yy2 v1' v2' v3'
      refine wp_region_noPanic ?_
      refine wp_region_held_drew (S := (fun w' => w'.cell? ⟨«by», 1, none⟩ = some (.slice (some ⟨g, o, none⟩) L.rd.length q2.c2))) (by kernel_rfl) (by (try dsimp only); exact HS.out _ (by repeat (first | exact Below.refl _ _ | refine al ?_ _ | refine Below.drew ?_ | refine sc ?_ (by simp) _))) (fun hHeld => ?_)
      refine wpAnyH_take (i := 0) (oi := _) (v := ?_) rfl (by kernel_rfl) (by kernel_rfl) (by kernel_rfl) (fun _ _ _ h => h) (Or.inl ⟨by rfl, ?_⟩) (by assumption) ?_
      rotate_left
      · (intro w hSw; (try dsimp only at hSw); go_simp; try with_reducible rfl)
      (try dsimp only); (try simp only [Act.put]); (try simp only [List.setIfInBounds_toArray]); (try simp only [List.set_cons_succ]); (try simp only [List.set_cons_zero])
      refine wpAnyH_take (i := 1) (oi := _) (v := ?_) rfl (by kernel_rfl) (by kernel_rfl) (by kernel_rfl) (fun _ _ _ h => h) (Or.inl ⟨by rfl, ?_⟩) (by assumption) ?_
      rotate_left
      · (intro w hSw; (try dsimp only at hSw); go_simp; try with_reducible rfl)
      (try dsimp only); (try simp only [Act.put]); (try simp only [List.setIfInBounds_toArray]); (try simp only [List.set_cons_succ]); (try simp only [List.set_cons_zero])
      refine wpAnyH_take (i := 2) (oi := _) (v := ?_) rfl (by kernel_rfl) (by kernel_rfl) (by kernel_rfl) (fun _ _ _ h => h) (Or.inl ⟨by rfl, ?_⟩) (by assumption) ?_
      rotate_left
      · (intro w hSw; (try dsimp only at hSw); go_simp; try with_reducible rfl)
      (try dsimp only); (try simp only [Act.put]); (try simp only [List.setIfInBounds_toArray]); (try simp only [List.set_cons_succ]); (try simp only [List.set_cons_zero])
      refine wpAnyH_take (i := 3) (oi := _) (v := ?_) rfl (by kernel_rfl) (by kernel_rfl) (by kernel_rfl) (fun _ _ _ h => h) (Or.inl ⟨by rfl, ?_⟩) (by assumption) ?_
      rotate_left
      · (intro w hSw; (try dsimp only at hSw); go_simp; try with_reducible rfl)
      (try dsimp only); (try simp only [Act.put]); (try simp only [List.setIfInBounds_toArray]); (try simp only [List.set_cons_succ]); (try simp only [List.set_cons_zero])
      refine wpAnyH_take (i := 4) (oi := _) (v := ?_) rfl (by kernel_rfl) (by kernel_rfl) (by kernel_rfl) (fun _ _ _ h => h) (Or.inl ⟨by rfl, ?_⟩) (by assumption) ?_
      rotate_left
      · (intro w hSw; (try dsimp only at hSw); go_simp; try with_reducible rfl)
      (try dsimp only); (try simp only [Act.put]); (try simp only [List.setIfInBounds_toArray]); (try simp only [List.set_cons_succ]); (try simp only [List.set_cons_zero])
      refine wpAnyH_take (i := 5) (oi := _) (v := ?_) rfl (by kernel_rfl) (by kernel_rfl) (by kernel_rfl) (fun _ _ _ h => h) (Or.inl ⟨by rfl, ?_⟩) (by assumption) ?_
      rotate_left
      · (intro w hSw; (try dsimp only at hSw); go_simp; try with_reducible rfl)
      (try dsimp only); (try simp only [Act.put]); (try simp only [List.setIfInBounds_toArray]); (try simp only [List.set_cons_succ]); (try simp only [List.set_cons_zero])
      refine wpAnyH_take (i := 6) (oi := _) (v := ?_) rfl (by kernel_rfl) (by kernel_rfl) (by kernel_rfl) (fun _ _ _ h => h) (Or.inl ⟨by rfl, ?_⟩) (by assumption) ?_
      rotate_left
      · (intro w hSw; (try dsimp only at hSw); go_simp; try with_reducible rfl)
      (try dsimp only); (try simp only [Act.put]); (try simp only [List.setIfInBounds_toArray]); (try simp only [List.set_cons_succ]); (try simp only [List.set_cons_zero])
      refine wpAnyH_take (i := 7) (oi := _) (v := ?_) rfl (by kernel_rfl) (by kernel_rfl) (by kernel_rfl) (fun _ _ _ h => h) (Or.inl ⟨by rfl, ?_⟩) (by assumption) ?_
      rotate_left
      · (intro w hSw; (try dsimp only at hSw); go_simp; try with_reducible rfl)
      (try dsimp only); (try simp only [Act.put]); (try simp only [List.setIfInBounds_toArray]); (try simp only [List.set_cons_succ]); (try simp only [List.set_cons_zero])
      refine wpAnyH_take (i := 8) (oi := _) (v := ?_) rfl (by kernel_rfl) (by kernel_rfl) (by kernel_rfl) (fun _ _ _ h => h) (Or.inl ⟨by rfl, ?_⟩) (by assumption) ?_
      rotate_left
      · (intro w hSw; (try dsimp only at hSw); go_simp; try with_reducible rfl)
      (try dsimp only); (try simp only [Act.put]); (try simp only [List.setIfInBounds_toArray]); (try simp only [List.set_cons_succ]); (try simp only [List.set_cons_zero])
      refine wpAnyH_take (i := 9) (oi := _) (v := ?_) rfl (by kernel_rfl) (by kernel_rfl) (by kernel_rfl) (fun _ _ _ h => h) (Or.inl ⟨by rfl, ?_⟩) (by assumption) ?_
      rotate_left
      · (intro w hSw; (try dsimp only at hSw); go_simp; try with_reducible rfl)
      (try dsimp only); (try simp only [Act.put]); (try simp only [List.setIfInBounds_toArray]); (try simp only [List.set_cons_succ]); (try simp only [List.set_cons_zero])
      refine wpAnyH_ready (rs := [10]) (by kernel_rfl) (by simp) ?_
      refine AllReadyH.cons (o := _) rfl (fun K hK => ?_) AllReadyH.nil
      go_simp
      refine hK.out _ _ (by (try dsimp only); exact HS2.out _ _ _ hHeld) (fun hHeld => ?_)
      clear hK K
      (try dsimp only); (try simp only [Act.put]); (try simp only [List.setIfInBounds_toArray]); (try simp only [List.set_cons_succ]); (try simp only [List.set_cons_zero])
      refine wpAnyH_take (i := 11) (oi := _) (v := ?_) rfl (by kernel_rfl) (by kernel_rfl) (by kernel_rfl) (fun _ _ _ h => h) (Or.inl ⟨by rfl, ?_⟩) (by assumption) ?_
      rotate_left
      · (intro w hSw; (try dsimp only at hSw); go_simp; try with_reducible rfl)
      (try dsimp only); (try simp only [Act.put]); (try simp only [List.setIfInBounds_toArray]); (try simp only [List.set_cons_succ]); (try simp only [List.set_cons_zero])
      refine wpAnyH_take (i := 12) (oi := _) (v := ?_) rfl (by kernel_rfl) (by kernel_rfl) (by kernel_rfl) (fun _ _ _ h => h) (Or.inl ⟨by rfl, ?_⟩) (by assumption) ?_
      rotate_left
      · (intro w hSw; (try dsimp only at hSw); go_simp; try with_reducible rfl)
      (try dsimp only); (try simp only [Act.put]); (try simp only [List.setIfInBounds_toArray]); (try simp only [List.set_cons_succ]); (try simp only [List.set_cons_zero])
      refine wpAnyH_ready (rs := [13]) (by kernel_rfl) (by simp) ?_
      refine AllReadyH.cons (o := _) rfl (fun K hK => ?_) AllReadyH.nil
      go_simp
      refine hK.out _ _ (by (try dsimp only); exact HS2.out _ _ _ hHeld) (fun hHeld => ?_)
      clear hK K
      (try dsimp only); (try simp only [Act.put]); (try simp only [List.setIfInBounds_toArray]); (try simp only [List.set_cons_succ]); (try simp only [List.set_cons_zero])
      refine wpAnyH_done (by kernel_rfl) ?_ _
      refine NoPanic.normal ?_
      repeat (clear hHeld)
      go_upto_region 16 with fail
      refine nameAny (p := Code.wp _ _ _ _) ?_
      intro V6 hV6
      have ho := HO.out
      subst ho
      simp only [Nat.zero_add] at hV6
      have hends := HR2.out.now.ends2 HWl.out HQ.out u v
      obtain ⟨wa, hwa⟩ : ∃ wa : Wl, wa = ⟨wl.X1, wl.Y1, u, v, wl.B, wl.T⟩ := ⟨_, rfl⟩
      rw [← hwa] at hends
      have hpr : LandR V6 n2 q2 (L.setRd r wa) := by rw [hV6]; exact hends.later (Below.drew (Below.refl _ _))
      have hbut : But g W5 V6 := by
        rw [hV6]
        have h4 := (setCell_but W5 g (r * 6 + 2) (.int .i64 u)).trans (setCell_but _ g (r * 6 + 3) (.int .i64 v))
        exact ⟨h4.os, h4.tape, h4.output, h4.size, h4.block⟩
      obtain ⟨o12, ⟨u0, u1, u2⟩, ⟨xx1, xx2⟩, ⟨yy1, yy2⟩, v1', v2', v3'⟩ := HD.out
      obtain ⟨hgn, hgh⟩ := HGn.out
      have XC := HR2.out.toC.butT hbut HBg.out (by decide) (by decide)
      have XS := hpr.st
      have XN := hpr.sn
      have XR : Own V6 n2 55 6 (.slice q2.a2 L.rd.length q2.c2) ((L.rd.set r wa).map Wl.vs) := by
        have h := hpr.rd
        rwa [show (L.setRd r wa).rd.length = L.rd.length by simp [Land.setRd], show (L.setRd r wa).rd = L.rd.set r wa from rfl] at h
      have hrow : ∀ k, (Value.slice q2.a2 L.rd.length q2.c2).ownBlock = some k → n2 ≤ k ∧ k < h2 := fun k hk => ⟨(HR2.out.rd.1.1.lt k hk).1, HR2.out.rd.2 k hk⟩
      have hsz2 : n2 ≤ V6.heap.size := Nat.le_trans HR2.out.lt XC.le
      replace hW := hbut.below hW (by omega)
      replace B5 := hbut.box B5 (by omega)
      replace B12 := hbut.box B12 (by omega)
      have B14 := hbut.box HCY.out (by omega)
      have HXC := Lib.hid XC
      have HXS := Lib.hid (show Own V6 n2 64 4 (.slice q2.a1 L.st.length q2.c1) (L.st.map Stn.vs) from XS)
      have HXN := Lib.hid (show Own V6 n2 50 3 (.slice q2.a4 L.sn.length q2.c4) (L.sn.map Sn.vs) from XN)
      have HXR := Lib.hid XR
      have HRow := Lib.hid hrow
      have HB5 := Lib.hid B5
      have HCY := Lib.hid B14
      have HWo := Lib.hid hW
      have HWa := Lib.hid hwa
      have c14 := B14.cell
      have t14 := B14.lt
      have c12 := B12.cell
      have t12 := B12.lt
      clear hends hpr hbut XC XS XN XR hrow HR2 HBg HQ HO HS HS2 e2 e3 fg tg ngy CY hV6 hwa hW B5 B14 o12 u0 u1 u2 xx1 xx2 yy1 yy2 v1' v2' v3' hgn hgh c5 t5
      have hlr : L.rd.length ≤ 1000 := by omega
      go_upto_region 17 with (at_builtin; refine named1 (p := wpList _ _ _ _ _) ?_; intro w6 hb6 BN; have hO := HXR.out.later hb6; refine wpList_grow2 rfl (.tmp 167) (.tmp 177) 23 rfl elem_rwl rfl hO rfl BN rfl (by decide) rfl (n := L.rd.length) (by simp) hlr (by decide) (Nat.le_trans hsz2 hb6.size) ?_; intro a' c' W' hO' hb' hg' hn'; have BM := HCY.out.later hb6; have BX' : Box W' «by» _ _ := (hg'.block «by» BM.lt fun he => own_ne hO BM (by decide) he.symm).trans BM; have HO := Lib.hid hO; have HO' := Lib.hid hO'; have HG := Lib.hid hg'; have HBw := Lib.hid (And.intro hb6 hb'); clear c14 t14 c12 t12 hO hO' hb6 hb' hg' hn' BM BN; have c14 := BX'.cell; have t14 := BX'.lt; have f14 := BX'.frozen)
      refine nameAny (p := Code.wp _ _ _ _) ?_
      intro V7 hV7
      obtain ⟨wb, hwb⟩ : ∃ wb : Wl, wb = ⟨u, v, wl.X2, wl.Y2, 0, wl.T⟩ := ⟨_, rfl⟩
      have but7 : But «by» W' V7 := by rw [hV7]; exact setCell_but _ _ _ _
      have B14 : Box V7 «by» #[.slice q2.a1 L.st.length q2.c1, .slice a' (L.rd.length + 1) c', .slice q2.a3 L.cs.length q2.c3, .slice q2.a4 L.sn.length q2.c4] 27 := by rw [hV7]; exact setCell_box BX' 1 _
      obtain ⟨hb6, hb'⟩ := HBw.out
      obtain ⟨o12, ⟨u0, u1, u2⟩, ⟨xx1, xx2⟩, ⟨yy1, yy2⟩, v1', v2', v3'⟩ := HD.out
      have B5 := but7.box ((HG.out.block w.heap.size (Nat.lt_of_lt_of_le HB5.out.lt hb6.size) fun e => by have := HRow.out _ e.symm; omega).trans (HB5.out.later hb6)) (show w.heap.size ≠ «by» by omega)
      have XS := ((HXS.out.later hb6).apart HO.out (by decide) HG.out).other BX' (by decide) but7
      have XN := ((HXN.out.later hb6).apart HO.out (by decide) HG.out).other BX' (by decide) but7
      have XR : Own V7 n2 55 6 (.slice a' (L.rd.length + 1) c') ((L.rd.set r wa ++ [wb]).map Wl.vs) := by
        rw [List.map_append, hwb]
        exact HO'.out.other BX' (by decide) but7
      have XC := ((HXC.out.later hb6).grownT HO.out (by decide) (by decide) HG.out).butT but7 BX' (by decide) (by decide)
      have hW := but7.below ((over HWo.out hb6).trans (hb'.mono (show w.heap.size ≤ n2 by omega))) (by omega)
      obtain ⟨LY, hLY⟩ : ∃ LY, LY = L.parts r wa wb := ⟨_, rfl⟩
      have y2 : LY.rd.length = L.rd.length + 1 := by rw [hLY]; simp [Land.parts]
      have ys : LY.st = L.st ∧ LY.cs = L.cs ∧ LY.sn = L.sn := by rw [hLY]; exact ⟨rfl, rfl, rfl⟩
      have hYA : LandAt V7 ⟨q2.a1, q2.c1, a', c', q2.a3, q2.c3, q2.a4, q2.c4⟩ LY := by
        refine LandR.at (n0 := n2) ⟨?_, ?_, ?_, ?_⟩
        · rw [hLY]; exact XS
        · rw [y2, hLY]; exact XR
        · rw [hLY]; exact XC.cases.now
        · rw [hLY]; exact XN
      have hpa : wa = part1 wl dx dy k := by rw [HWa.out, HU.out.1, HU.out.2]; rfl
      have hpb : wb = part2 wl dx dy k := by rw [hwb, HU.out.1, HU.out.2]; rfl
      have hwrg := rd_rg HR.out.chk wl (List.mem_of_getElem? HWl.out)
      have hwB : wl.B = 0 := by
        unfold Wl.rg at hwrg
        simp only [Bool.and_eq_true, beq_iff_eq] at hwrg
        exact hwrg.2
      have hblk : ∀ a b, blk wl a b = (blk wa a b || blk wb a b) := fun a b => by rw [hpa, hpb]; exact part_blk hwB HDx.out.2 HDy.out.2 hk2.1 hk2.2 a b
      obtain ⟨hrg1, hrg2⟩ := part_rg hwrg HDx.out.2 HDy.out.2 hk2.1 hk2.2
      have hYr : Ready LY := ready_chk (by rw [hLY]; exact chk_parts HR.out.chk (by omega) (by rw [hpa]; exact hrg1) (by rw [hpb]; exact hrg2)) (by rw [ys.1]; exact l1)
      have hYs := small_of hYr.chk
      obtain ⟨a, hsti⟩ := some_of p1
      obtain ⟨b, hstj⟩ := some_of p2
      have hcont := rbs_parts HWl.out hsti hstj (w1 := wa) (w2 := wb) hblk
      have hrise := rise_parts (i := i) (j := j) HWl.out (w1 := wa) (w2 := wb) hblk
      rw [← hLY] at hcont hrise
      have HLy : Hid (∀ W, Below V7.heap.size V7 W → Calls Try.prog 20 #[.agg #[.slice q2.a1 L.st.length q2.c1, .slice a' (L.rd.length + 1) c', .slice q2.a3 L.cs.length q2.c3, .slice q2.a4 L.sn.length q2.c4]] W (RetLand LY W)) := fun W hb => by
        have h := land_any ⟨q2.a1, q2.c1, a', c', q2.a3, q2.c3, q2.a4, q2.c4⟩ LY W (hYA.later hb) hYs
        rw [y2, ys.1, ys.2.1, ys.2.2] at h; exact h
      have HWx : Hid (∀ (q : LV) (W : World), LandAt W q L → Calls Try.prog 39 #[landV q L, .int .i64 i, .int .i64 j, .int .i64 0, .int .i64 0] W (RetWalls (L.rbs i j, L.cbs i j 0 0, 0) W)) := fun q W h => by
        have h2 := Walls_any q L i j 0 0 W h HS0.out; rwa [wallsE_at00 HR.out p1 p2 HIJ.out] at h2
      have HWy : Hid (∀ (q : LV) (W : World), LandAt W q LY → Calls Try.prog 39 #[landV q LY, .int .i64 i, .int .i64 j, .int .i64 0, .int .i64 0] W (RetWalls (LY.rbs i j, LY.cbs i j 0 0, 0) W)) := fun q W h => by
        have h2 := Walls_any q LY i j 0 0 W h hYs; rwa [wallsE_at00 hYr (by rw [ys.1]; exact p1) (by rw [ys.1]; exact p2) HIJ.out] at h2
      obtain ⟨⟨rv, re⟩, hri⟩ : ∃ x, Land.riseE L i j = x := ⟨_, rfl⟩
      have HRl : Hid (∀ (q : LV) (W : World), LandAt W q L → Calls Try.prog 28 #[landV q L, .int .i64 i, .int .i64 j] W (Ret (.tuple #[.int .i64 rv, .int .i64 re]) W)) := fun q W h => by
        have h2 := Rise_any q L i j W h HS0.out; rwa [hri] at h2
      have HRy : Hid (∀ (q : LV) (W : World), LandAt W q LY → Calls Try.prog 28 #[landV q LY, .int .i64 i, .int .i64 j] W (Ret (.tuple #[.int .i64 rv, .int .i64 re]) W)) := fun q W h => by
        have h2 := Rise_any q LY i j W h hYs; rwa [riseE_ok hYr (by rw [ys.1]; exact p1) (by rw [ys.1]; exact p2) HIJ.out, hrise, ← riseE_ok HR.out p1 p2 HIJ.out, hri] at h2
      have HLen := Lib.hid (show (L.rbs i j).length ≤ 1000 ∧ (LY.rbs i j).length ≤ 1000 from ⟨Nat.le_trans (sel_len _ _) HS0.out.l2, Nat.le_trans (sel_len _ _) hYs.l2⟩)
      obtain ⟨b2, hb2⟩ : ∃ b2, (LY.rbs i j).contains (r : Int) = b2 := ⟨_, rfl⟩
      obtain ⟨b3, hb3⟩ : ∃ b3, (LY.rbs i j).contains (L.rd.length : Int) = b3 := ⟨_, rfl⟩
      rw [hb2, hb3] at hcont
      have HC1 := Lib.hid hcont
      have HC2 := Lib.hid hb2
      have HC3 := Lib.hid hb3
      clear hcont hb2 hb3 hri hrise hLY y2 ys hYA hpa hpb hwrg hwB hblk hrg1 hrg2 hYr hYs hsti hstj hwb hV7 but7 hb6 hb' o12 u0 u1 u2 xx1 xx2 yy1 yy2 v1' v2' v3' XS XN XR XC HXC HXS HXN HXR HRow HB5 HCY HWo HWa HO HO' HG HBw BX' c14 t14 f14 hsz2 HU m1 m2 HDx HDy dx0 dx1 dy0 dy1 lx1 lx2 ly1 ly2 B12 hlr
      generalize L.rbs i j = pl at *
      generalize LY.rbs i j = ql at *
      generalize L.cbs i j 0 0 = pcl at *
      generalize LY.cbs i j 0 0 = qcl at *
      have V0 := Below.refl V7.heap.size V7
      have c5 := B5.cell; have t5 := B5.lt; have c14 := B14.cell; have t14 := B14.lt
      go_wp2_with fail
      refine (land_any q L V7 (HL.out.later hW) HS0.out).mono ?_
      rintro e v1 ⟨r1, rfl, hb1, hl1⟩
      have HL1 := Lib.hid hl1
      replace V0 := over V0 hb1
      replace hW := over hW hb1; (try clear c5 t5 c14 t14); replace B5 := B5.later hb1; replace B14 := B14.later hb1; have c5 := B5.cell; have t5 := B5.lt; have c14 := B14.cell; have t14 := B14.lt; clear hb1 hl1
      go_wp2_with fail
      refine (HWx.out r1 v1 HL1.out).mono ?_
      rintro e v2 ⟨pa, pc, _, _, rfl, hb2, hp2, _⟩
      have HP := Lib.hid (show IntsAt v2 pa pl from hp2)
      replace V0 := over V0 hb2
      replace hW := over hW hb2; (try clear c5 t5 c14 t14); replace B5 := B5.later hb2; replace B14 := B14.later hb2; have c5 := B5.cell; have t5 := B5.lt; have c14 := B14.cell; have t14 := B14.lt; clear hb2 hp2 HL1 HWx
      go_wp2_with fail
      refine (HLy.out v2 V0).mono ?_
      rintro e v3 ⟨r3, rfl, hb3, hl3⟩
      have HL3 := Lib.hid hl3
      replace V0 := over V0 hb3
      replace hW := over hW hb3; (try clear c5 t5 c14 t14); replace B5 := B5.later hb3; replace B14 := B14.later hb3; have c5 := B5.cell; have t5 := B5.lt; have c14 := B14.cell; have t14 := B14.lt; replace HP := Lib.hid (HP.out.later hb3); clear hb3 hl3
      go_wp2_with fail
      refine (HWy.out r3 v3 HL3.out).mono ?_
      rintro e v4 ⟨qa, qc, _, _, rfl, hb4, hq4, _⟩
      have HQ := Lib.hid (show IntsAt v4 qa ql from hq4)
      replace V0 := over V0 hb4
      replace hW := over hW hb4; (try clear c5 t5 c14 t14); replace B5 := B5.later hb4; replace B14 := B14.later hb4; have c5 := B5.cell; have t5 := B5.lt; have c14 := B14.cell; have t14 := B14.lt; replace HP := Lib.hid (HP.out.later hb4); clear hb4 hq4 HL3 HWy
      go_wp2_with fail
      refine (land_any q L v4 (HL.out.later hW) HS0.out).mono ?_
      rintro e v5 ⟨r5, rfl, hb5, hl5⟩
      have HL5 := Lib.hid hl5
      replace V0 := over V0 hb5
      replace hW := over hW hb5; (try clear c5 t5 c14 t14); replace B5 := B5.later hb5; replace B14 := B14.later hb5; have c5 := B5.cell; have t5 := B5.lt; have c14 := B14.cell; have t14 := B14.lt; replace HP := Lib.hid (HP.out.later hb5); replace HQ := Lib.hid (HQ.out.later hb5); clear hb5 hl5
      go_wp2_with fail
      refine (HRl.out r5 v5 HL5.out).mono ?_
      rintro e v6 ⟨rfl, hb6⟩
      replace V0 := over V0 hb6
      replace hW := over hW hb6; (try clear c5 t5 c14 t14); replace B5 := B5.later hb6; replace B14 := B14.later hb6; have c5 := B5.cell; have t5 := B5.lt; have c14 := B14.cell; have t14 := B14.lt; replace HP := Lib.hid (HP.out.later hb6); replace HQ := Lib.hid (HQ.out.later hb6); clear hb6 HL5 HRl
      go_wp2_with fail
      refine (HLy.out v6 V0).mono ?_
      rintro e v7 ⟨r7, rfl, hb7, hl7⟩
      have HL7 := Lib.hid hl7
      clear B14 c14 t14 V0
      replace hW := over hW hb7; (try clear c5 t5); replace B5 := B5.later hb7; have c5 := B5.cell; have t5 := B5.lt; replace HP := Lib.hid (HP.out.later hb7); replace HQ := Lib.hid (HQ.out.later hb7); clear hb7 hl7 HLy
      go_wp2_with fail
      refine (HRy.out r7 v7 HL7.out).mono ?_
      rintro e v8 ⟨rfl, hb8⟩
      replace hW := over hW hb8; (try clear c5 t5); replace B5 := B5.later hb8; have c5 := B5.cell; have t5 := B5.lt; replace HP := Lib.hid (HP.out.later hb8); replace HQ := Lib.hid (HQ.out.later hb8); clear hb8 HL7 HRy
      cases b2 with
      | true =>
        have hc1 := HC1.out
        rw [Bool.true_or] at hc1
        replace HC1 := Lib.hid hc1
        clear hc1
        go_wp2_with fail
        refine named1 (p := fun W => Calls _ _ _ W _) ?_
        intro z1 hz1 BT
        have hwt := within_any2 [(r : Int)] pl _ pa 1 pc z1 (ints_one BT) (HP.out.later hz1) (by simp) HLen.out.1
        rw [withinB_one, HC1.out] at hwt
        have HWt := Lib.hid hwt
        replace hW := over hW hz1; (try clear c5 t5); replace B5 := B5.later hz1; have c5 := B5.cell; have t5 := B5.lt; replace HP := Lib.hid (HP.out.later hz1); replace HQ := Lib.hid (HQ.out.later hz1); clear hz1 hwt BT
        refine HWt.out.mono ?_
        rintro e z2 ⟨rfl, hz2⟩
        replace hW := over hW hz2; (try clear c5 t5); replace B5 := B5.later hz2; have c5 := B5.cell; have t5 := B5.lt; replace HP := Lib.hid (HP.out.later hz2); replace HQ := Lib.hid (HQ.out.later hz2); clear hz2 HWt
        go_wp2_with fail
        refine named1 (p := fun W => Calls _ _ _ W _) ?_
        intro z3 hz3 BT
        have hwt := within_any2 [(r : Int)] ql _ qa 1 qc z3 (ints_one BT) (HQ.out.later hz3) (by simp) HLen.out.2
        rw [withinB_one, HC2.out] at hwt
        have HWt := Lib.hid hwt
        replace hW := over hW hz3; (try clear c5 t5); replace B5 := B5.later hz3; have c5 := B5.cell; have t5 := B5.lt; replace HQ := Lib.hid (HQ.out.later hz3); clear hz3 hwt BT
        refine HWt.out.mono ?_
        rintro e z4 ⟨rfl, hz4⟩
        replace hW := over hW hz4; (try clear c5 t5); replace B5 := B5.later hz4; have c5 := B5.cell; have t5 := B5.lt; replace HQ := Lib.hid (HQ.out.later hz4); clear hz4 HWt
        go_wp2_with fail
        refine (awake_any _).mono ?_
        rintro e z5 ⟨rfl, hz5⟩
        replace hW := over hW hz5; clear hz5 
        go_wp2_with fail
        go_ret
        exact ⟨rfl, hW⟩
      | false =>
        have hc1 := HC1.out
        rw [Bool.false_or] at hc1
        replace HC1 := Lib.hid hc1
        clear hc1
        go_wp2_with fail
        refine named1 (p := fun W => Calls _ _ _ W _) ?_
        intro z1 hz1 BT
        have hwt := within_any2 [(r : Int)] pl _ pa 1 pc z1 (ints_one BT) (HP.out.later hz1) (by simp) HLen.out.1
        rw [withinB_one, HC1.out] at hwt
        have HWt := Lib.hid hwt
        replace hW := over hW hz1; (try clear c5 t5); replace B5 := B5.later hz1; have c5 := B5.cell; have t5 := B5.lt; replace HP := Lib.hid (HP.out.later hz1); replace HQ := Lib.hid (HQ.out.later hz1); clear hz1 hwt BT
        refine HWt.out.mono ?_
        rintro e z2 ⟨rfl, hz2⟩
        replace hW := over hW hz2; (try clear c5 t5); replace B5 := B5.later hz2; have c5 := B5.cell; have t5 := B5.lt; replace HP := Lib.hid (HP.out.later hz2); replace HQ := Lib.hid (HQ.out.later hz2); clear hz2 HWt
        go_wp2_with fail
        refine named1 (p := fun W => Calls _ _ _ W _) ?_
        intro z3 hz3 BT
        have hwt := within_any2 [(r : Int)] ql _ qa 1 qc z3 (ints_one BT) (HQ.out.later hz3) (by simp) HLen.out.2
        rw [withinB_one, HC2.out] at hwt
        have HWt := Lib.hid hwt
        replace hW := over hW hz3; (try clear c5 t5); replace B5 := B5.later hz3; have c5 := B5.cell; have t5 := B5.lt; replace HQ := Lib.hid (HQ.out.later hz3); clear hz3 hwt BT
        refine HWt.out.mono ?_
        rintro e z4 ⟨rfl, hz4⟩
        replace hW := over hW hz4; (try clear c5 t5); replace B5 := B5.later hz4; have c5 := B5.cell; have t5 := B5.lt; replace HQ := Lib.hid (HQ.out.later hz4); clear hz4 HWt
        go_wp2_with fail
        refine named1 (p := fun W => Calls _ _ _ W _) ?_
        intro z5 hz5 BT
        have hwt := within_any2 [(L.rd.length : Int)] ql _ qa 1 qc z5 (ints_one BT) (HQ.out.later hz5) (by simp) HLen.out.2
        rw [withinB_one, HC3.out] at hwt
        have HWt := Lib.hid hwt
        replace hW := over hW hz5; clear hz5 hwt BT B5 c5 t5 HQ
        refine HWt.out.mono ?_
        rintro e z6 ⟨rfl, hz6⟩
        replace hW := over hW hz6; clear hz6 HWt HC1 HC2 HC3
        cases b3 with
        | true =>
          go_wp2_with fail
          refine (awake_any _).mono ?_
          rintro e z7 ⟨rfl, hz7⟩
          replace hW := over hW hz7; clear hz7 
          go_wp2_with fail
          go_ret
          exact ⟨rfl, hW⟩
        | false =>
          go_wp2_with fail
          refine (awake_any _).mono ?_
          rintro e z7 ⟨rfl, hz7⟩
          replace hW := over hW hz7; clear hz7 
          go_wp2_with fail
          go_ret
          exact ⟨rfl, hW⟩
end Go.Proofs.Ytmfnkmmbihmjnaa
