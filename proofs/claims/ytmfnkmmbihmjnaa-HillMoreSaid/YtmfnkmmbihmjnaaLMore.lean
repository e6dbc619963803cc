/- The statement on one more wall: its walk. -/
import Derived.Test.YtmfnkmmbihmjnaaMore2
import Derived.Deep.DeepCutAuto
import Derived.Deep.CutBlock
import Derived.Deep.RegionHeld3
import Derived.Deep.DrawnRows
open Go.RowKit
namespace Go.Proofs.Ytmfnkmmbihmjnaa
open Go.Hill
attribute [local go_sem ↓] Go.wp_at_zero Go.wp_at_succ

theorem nameAny {p : World → Prop} {w : World} (h : ∀ W, W = w → p W) : p w := h w rfl
def moreSpec (L : Land) (i : Nat) : Fat.Spec := if i = 1 then landSpec L else if i = 3 then landSpec L else if i = 5 then landSpec L else newSpec 27 4
theorem moreSpec_lasting (L : Land) (i : Nat) : Fat.Lasting (moreSpec L i) := by
  unfold moreSpec
  (repeat' split) <;> first | exact landSpec_lasting _ | exact newSpec_lasting _ _

set_option maxRecDepth 100000 in
set_option maxHeartbeats 16000000 in
theorem HillMore_any (q : LV) (L : Land) (c kk : Nat) (x : Wl) (fr ta : Nat) (w : World) (hL : LandAt w q L) (hs : Sane L) (hcc : c < 256) (hkk : kk < 256) (hfr : fr < 256) (hta : ta < 256) :
    Calls Try.prog 5 #[landV q L, .int .u8 c, .int .u8 kk, .agg #[.int .i64 x.X1, .int .i64 x.Y1, .int .i64 x.X2, .int .i64 x.Y2, .int .i64 x.B, .int .i64 x.T], .int .u8 fr, .int .u8 ta] w (Ret (.bool true) w) := by
  obtain ⟨tv, htv⟩ : ∃ tv, tv = readyB L := ⟨_, rfl⟩
  have HReady : Hid (∀ W, Below w.heap.size w W → Calls Try.prog 30 #[landV q L] W (Ret (.bool tv) W)) := fun W hW => by rw [htv]; exact ready_any q L W (hL.later hW) hs
  have HL := Lib.hid hL
  have HTv := Lib.hid htv
  clear hL hs htv
  go_enter Try.func5, Try.ntmps5
  go_wp2_with fail
  refine named2 (p := fun W => Calls _ _ _ W _) ?_
  intro W hW B5 B7
  refine (HReady.out W hW).mono ?_
  rintro e w1 ⟨rfl, hb1⟩
  replace hW := over hW hb1; (try clear c5 t5 c7 t7); replace B5 := B5.later hb1; replace B7 := B7.later hb1; have c5 := B5.cell; have t5 := B5.lt; have c7 := B7.cell; have t7 := B7.lt; clear hb1 HReady
  cases tv with
  | false =>
    go_wp2_with fail
    refine (awake_any _).mono ?_
    rintro e w2 ⟨rfl, hb2⟩
    replace hW := over hW hb2
    clear hb2
    go_wp2_with fail
    go_ret
    exact ⟨rfl, hW⟩
  | true =>
    have R := ready_of HTv.out.symm
    have HR := Lib.hid R
    have HS := Lib.hid (small_of R.chk)
    obtain ⟨p1, p2, p3⟩ := pair_spec (c := c) R.st1
    have l1 := R.st1
    have l6 := R.st6
    have d6 := R.rd6
    have m4 := R.cs4
    have m1 := R.cs1
    have s1 := R.sn1
    have s12 := R.sn12
    clear R
    go_wp2_with fail
    refine (pair_any q L.st.length _ _ _ c _ l1 (by omega) hcc).mono ?_
    rintro e w2 ⟨rfl, hb2⟩
    replace hW := over hW hb2; (try clear c5 t5 c7 t7); replace B5 := B5.later hb2; replace B7 := B7.later hb2; have c5 := B5.cell; have t5 := B5.lt; have c7 := B7.cell; have t7 := B7.lt; clear hb2 
    generalize pairA L.st.length c = i at *
    generalize pairB L.st.length c = j at *
    have HIJ := Lib.hid p3
    clear p3
    have hk1 : ((kk % L.cs.length : Nat) : Int) = (kk : Int) % (L.cs.length : Int) := by simp
    have hk3 := Nat.mod_lt kk (show 0 < L.cs.length by omega)
    have hz2 : IntKind.i64.wrap (kk : Int) = (kk : Int) := IntWalk.i64_in _ (by omega)
    have hk5 : (0 : Int) ≤ (kk : Int) % (L.cs.length : Int) ∧ (kk : Int) % (L.cs.length : Int) < 12 := by omega
    go_upto_region 5 with fail
    rw [← hk1]
    clear hk1 hz2 hk5
    generalize kk % L.cs.length = k at *
    have hWr := hW
    refine Fat.wp_region0 9 [1, 3, 5, 6, 7, 8] (moreSpec L) (moreSpec_lasting L) (by kernel_rfl) (by kernel_rfl) ?_
    simp only [List.take_succ_cons, List.take_zero, Fat.pick, List.contains_cons, List.contains_nil, Nat.reduceAdd, Nat.reduceBEq]
    repeat (first | simp only [Bool.or_false] | simp only [Bool.or_true] | simp only [Bool.true_or] | simp only [Bool.false_eq_true] | simp only [if_true] | simp only [if_false])
    repeat (go_big_quiet_step (fail))
    refine wpQuiet_nil ?_
    refine ⟨?_, ?_, ?_⟩
    · intro i o hi hown ho vals lo hi' W hW hdep
      simp only [List.contains_cons, List.contains_nil, Bool.or_false] at hi
      (try simp only [Bool.or_eq_true] at hi)
      simp only [beq_iff_eq] at hi
      rcases hi with rfl | rfl | rfl | rfl | rfl | rfl
      all_goals first
        | exact absurd hown (by decide)
        | (simp only [List.getElem?_cons_succ, List.getElem?_cons_zero, Option.some.injEq] at ho; subst ho; refine .inl ⟨rfl, ?_⟩; simp only [Fat.putN, Fat.dstOf, Act.put, List.getElem?_toArray, List.getElem?_cons_succ, List.getElem?_cons_zero, Option.bind_some, List.setIfInBounds_toArray, List.set_cons_succ, List.set_cons_zero])
      · go_simp
        exact (copied_any q L W ((HL.out.later hWr).later hW) HS.out).mono fun e w'' ⟨q0, he, hb, hR⟩ => ⟨_, he, hb, landSpec_of hR hb⟩
      · go_simp
        exact (copied_any q L W ((HL.out.later hWr).later hW) HS.out).mono fun e w'' ⟨q0, he, hb, hR⟩ => ⟨_, he, hb, landSpec_of hR hb⟩
      · go_simp
        exact (copied_any q L W ((HL.out.later hWr).later hW) HS.out).mono fun e w'' ⟨q0, he, hb, hR⟩ => ⟨_, he, hb, landSpec_of hR hb⟩
      · go_simp
        exact newSpec_new _ _ _
      · go_simp
        exact newSpec_new _ _ _
      · go_simp
        exact newSpec_new _ _ _
    · intro i o hi hown ho vals lo hi' W hW hdep
      simp only [List.contains_cons, List.contains_nil, Bool.or_false] at hi
      (try simp only [Bool.or_eq_true] at hi)
      simp only [beq_iff_eq] at hi
      rcases hi with rfl | rfl | rfl | rfl | rfl | rfl
      all_goals first
        | exact absurd (by decide) hown
        | (simp only [List.getElem?_cons_succ, List.getElem?_cons_zero, Option.some.injEq] at ho; subst ho; refine ⟨rfl, ?_⟩; simp only [Fat.putN, Fat.dstOf, Act.put, List.getElem?_toArray, List.getElem?_cons_succ, List.getElem?_cons_zero, Option.bind_some, List.setIfInBounds_toArray, List.set_cons_succ, List.set_cons_zero]; (try simp only [Option.bind_none]))
    · intro vals lo hi' w5 hb5 hphi hdis htied
      obtain ⟨a1, a2, a3, q1, (v1 : vals 1 = _), r1⟩ := hphi 1 rfl
      obtain ⟨b1, b2, b3, q2, (v3 : vals 3 = _), r2⟩ := hphi 3 rfl
      obtain ⟨d1, d2, d3, q3, (v5 : vals 5 = _), r3⟩ := hphi 5 rfl
      obtain ⟨e1, _, e3, (v6 : vals 6 = _), e4, cx, (BX : Box w5 (lo 6) cx _), hcx⟩ := hphi 6 rfl
      obtain ⟨f1, _, f3, (v7 : vals 7 = _), f4, cy, (BY : Box w5 (lo 7) cy _), hcy⟩ := hphi 7 rfl
      obtain ⟨g1, _, g3, (v8 : vals 8 = _), g4, cz, (BZ : Box w5 (lo 8) cz _), hcz⟩ := hphi 8 rfl
      have D : ∀ j k, j ∈ [1, 3, 5, 6, 7, 8] → k ∈ [1, 3, 5, 6, 7, 8] → j ≠ k → hi' j ≤ lo k ∨ hi' k ≤ lo j := fun j k hj hk hne => hdis j k (by simpa using hj) (by simpa using hk) hne
      have x13 := D 1 3 (by decide) (by decide) (by decide)
      have x15 := D 1 5 (by decide) (by decide) (by decide)
      have x35 := D 3 5 (by decide) (by decide) (by decide)
      have x16 := D 1 6 (by decide) (by decide) (by decide)
      have x17 := D 1 7 (by decide) (by decide) (by decide)
      have x18 := D 1 8 (by decide) (by decide) (by decide)
      have x36 := D 3 6 (by decide) (by decide) (by decide)
      have x37 := D 3 7 (by decide) (by decide) (by decide)
      have x38 := D 3 8 (by decide) (by decide) (by decide)
      have x56 := D 5 6 (by decide) (by decide) (by decide)
      have x57 := D 5 7 (by decide) (by decide) (by decide)
      have x58 := D 5 8 (by decide) (by decide) (by decide)
      have x67 := D 6 7 (by decide) (by decide) (by decide)
      have x68 := D 6 8 (by decide) (by decide) (by decide)
      have x78 := D 7 8 (by decide) (by decide) (by decide)
      simp only [Fat.putN, Fat.dstOf, Act.put, List.getElem?_toArray, List.getElem?_cons_succ, List.getElem?_cons_zero, Option.bind_some, List.setIfInBounds_toArray, List.set_cons_succ, List.set_cons_zero, List.drop_succ_cons, List.drop_zero]
      rw [v1, v3, v5, v6, v7, v8]
      have R1 : Rest L q1 (lo 1) (hi' 1) w5 := r1
      have R2 : Rest L q2 (lo 3) (hi' 3) w5 := r2
      have R3 : Rest L q3 (lo 5) (hi' 5) w5 := r3
      clear hphi hdis htied D v1 v3 v5 v6 v7 v8 r1 r2 r3
      generalize lo 1 = n1 at *
      generalize lo 3 = n2 at *
      generalize lo 5 = n3 at *
      generalize hi' 1 = h1 at *
      generalize hi' 3 = h2 at *
      generalize hi' 5 = h3 at *
      generalize lo 6 = bx at *
      generalize lo 7 = «by» at *
      generalize lo 8 = bz at *
      generalize hi' 6 = hx at *
      generalize hi' 7 = hy at *
      generalize hi' 8 = hz at *
      replace B5 := B5.later hb5
      replace B7 := B7.later hb5
      replace hW := over hWr hb5
      have hbase : w.heap.size + 1 < w2.heap.size := t7
      clear vals lo hi' c5 t5 c7 t7 hWr
      refine wpList_store_box rfl rfl 27 (.tmp 16) (.tmp 48) rfl _ #[.slice q1.a1 L.st.length q1.c1, .slice q1.a2 L.rd.length q1.c2, .slice q1.a3 L.cs.length q1.c3, .slice q1.a4 L.sn.length q1.c4] rfl rfl BX hcx (by kernel_rfl) rfl ?_
      intro V1 CX but1
      have k5 : w.heap.size ≠ bx := by omega
      have k7 : w.heap.size + 1 ≠ bx := by omega
      replace hW := but1.below hW (by omega)
      replace B5 := but1.box B5 k5
      replace B7 := but1.box B7 k7
      replace BY := but1.box BY (show «by» ≠ bx by omega)
      replace BZ := but1.box BZ (show bz ≠ bx by omega)
      replace R1 := R1.but but1 (by omega)
      replace R2 := R2.but but1 (by omega)
      replace R3 := R3.but but1 (by omega)
      clear k5 k7 but1 BX hcx
      refine wpList_store_box rfl rfl 27 (.tmp 17) (.tmp 50) rfl _ #[.slice q2.a1 L.st.length q2.c1, .slice q2.a2 L.rd.length q2.c2, .slice q2.a3 L.cs.length q2.c3, .slice q2.a4 L.sn.length q2.c4] rfl rfl BY hcy (by kernel_rfl) rfl ?_
      intro V2 CY but2
      replace hW := but2.below hW (by omega)
      replace B5 := but2.box B5 (show w.heap.size ≠ «by» by omega)
      replace B7 := but2.box B7 (show w.heap.size + 1 ≠ «by» by omega)
      replace CX := but2.box CX (show bx ≠ «by» by omega)
      replace BZ := but2.box BZ (show bz ≠ «by» by omega)
      replace R1 := R1.but but2 (by omega)
      replace R2 := R2.but but2 (by omega)
      replace R3 := R3.but but2 (by omega)
      clear but2 BY hcy
      refine wpList_store_box rfl rfl 27 (.tmp 18) (.tmp 52) rfl _ #[.slice q3.a1 L.st.length q3.c1, .slice q3.a2 L.rd.length q3.c2, .slice q3.a3 L.cs.length q3.c3, .slice q3.a4 L.sn.length q3.c4] rfl rfl BZ hcz (by kernel_rfl) rfl ?_
      intro V3 CZ but3
      replace hW := but3.below hW (by omega)
      replace B5 := but3.box B5 (show w.heap.size ≠ bz by omega)
      replace B7 := but3.box B7 (show w.heap.size + 1 ≠ bz by omega)
      replace CX := but3.box CX (show bx ≠ bz by omega)
      replace CY := but3.box CY (show «by» ≠ bz by omega)
      replace R1 := R1.but but3 (by omega)
      replace R2 := R2.but but3 (by omega)
      replace R3 := R3.but but3 (by omega)
      clear but3 BZ hcz
      have HD := Lib.hid (show ((h1 ≤ n2 ∨ h2 ≤ n1) ∧ (h1 ≤ n3 ∨ h3 ≤ n1) ∧ (h2 ≤ n3 ∨ h3 ≤ n2)) ∧ (w.heap.size + 1 < n1 ∧ w.heap.size + 1 < n2 ∧ w.heap.size + 1 < n3) ∧ ((bx < n1 ∨ h1 ≤ bx) ∧ (bx < n2 ∨ h2 ≤ bx) ∧ (bx < n3 ∨ h3 ≤ bx)) ∧ ((«by» < n1 ∨ h1 ≤ «by») ∧ («by» < n2 ∨ h2 ≤ «by») ∧ («by» < n3 ∨ h3 ≤ «by»)) ∧ ((bz < n1 ∨ h1 ≤ bz) ∧ (bz < n2 ∨ h2 ≤ bz) ∧ (bz < n3 ∨ h3 ≤ bz)) ∧ w.heap.size + 1 < bx ∧ w.heap.size + 1 < «by» ∧ w.heap.size + 1 < bz ∧ bx ≠ «by» ∧ bx ≠ bz ∧ «by» ≠ bz from by omega)
      clear a1 a2 a3 b1 b2 b3 d1 d2 d3 e1 e3 e4 f1 f3 f4 g1 g3 g4 x13 x15 x35 x16 x17 x18 x36 x37 x38 x56 x57 x58 x67 x68 x78 hb5 hbase hcc hkk
      have c7 := B7.cell; have t7 := B7.lt
      have f7 := B7.frozen
      go_upto_region 7 with fail
      clear f7
      refine nameAny (p := Code.wp _ _ _ _) ?_
      intro V4 hV4
      have but4 : But (w.heap.size + 1) V3 V4 := by rw [hV4]; exact setCell_but _ _ _ _
      obtain ⟨z, hz0⟩ : ∃ z : Wl, z = ⟨x.X1, x.Y1, x.X2, x.Y2, 0, x.T⟩ := ⟨_, rfl⟩
      have D7 : Box V4 (w.heap.size + 1) #[.int .i64 z.X1, .int .i64 z.Y1, .int .i64 z.X2, .int .i64 z.Y2, .int .i64 z.B, .int .i64 z.T] 55 := by rw [hV4, hz0]; exact setCell_box B7 4 _
      obtain ⟨⟨o12, o13, o23⟩, ⟨u1, u2, u3⟩, ⟨xx1, xx2, xx3⟩, ⟨y1, y2, y3⟩, ⟨zz1, zz2, zz3⟩, w1', w2', w3', nxy, nxz, nyz⟩ := HD.out
      replace hW := but4.below hW (by omega)
      replace B5 := but4.box B5 (by omega)
      replace CX := but4.box CX (by omega)
      replace CY := but4.box CY (by omega)
      replace CZ := but4.box CZ (by omega)
      replace R1 := R1.but but4 (by omega)
      replace R2 := R2.but but4 (by omega)
      replace R3 := R3.but but4 (by omega)
      have hzB : z.B = 0 := by rw [hz0]
      have HZB := Lib.hid hzB
      have HZ := Lib.hid hz0
      clear hV4 but4 B7 c7 t7 hz0 hzB
      have B7 := D7
      clear D7
      have hR1 := R1.now
      have HR1 := Lib.hid hR1
      have HRest1 := Lib.hid R1
      have HRest2 := Lib.hid R2
      have HRest3 := Lib.hid R3
      have hsz1 : n1 ≤ V4.heap.size := Nat.le_trans R1.lt R1.le
      have n5x : w.heap.size ≠ bx := by omega
      have nx5 : bx ≠ w.heap.size := by omega
      have HW4 := Lib.hid hW
      clear R1 R2 R3 hR1 hW
      have HCX := Lib.hid CX
      have HCY := Lib.hid CY
      have HCZ := Lib.hid CZ
      have HB5 := Lib.hid B5
      have HB7 := Lib.hid B7
      have c16 := CX.cell
      have t16 := CX.lt
      have c7 := B7.cell
      have t7 := B7.lt
      clear CX CY CZ B5 B7 o12 o13 o23 u1 u2 u3 xx1 xx2 xx3 y1 y2 y3 zz1 zz2 zz3 w1' w2' w3' nxy nxz nyz
      have hlr : L.rd.length ≤ 1000 := by omega
      go_upto_region 8 with (at_builtin; refine named1 (p := wpList _ _ _ _ _) ?_; intro w6 hb6 BN; have hO := HR1.out.rd.later hb6; refine wpList_grow2 rfl (.tmp 55) (.tmp 57) 23 rfl elem_rwl rfl hO rfl BN rfl (by decide) rfl (n := L.rd.length) (by simp) hlr (by decide) (Nat.le_trans hsz1 hb6.size) ?_; intro a' c' W' hO' hb' hg' hn'; have BM := HCX.out.later hb6; have BX' : Box W' bx _ _ := (hg'.block bx BM.lt fun he => own_ne hO BM (by decide) he.symm).trans BM; have HO := Lib.hid hO; have HO' := Lib.hid hO'; have HG := Lib.hid hg'; have HBw := Lib.hid (And.intro hb6 hb'); clear c16 t16 c7 t7 hO hO' hb6 hb' hg' hn' BM BN; have c16 := BX'.cell; have t16 := BX'.lt; have f16 := BX'.frozen)
      refine nameAny (p := Code.wp _ _ _ _) ?_
      intro V5 hV5
      have but5 : But bx W' V5 := by rw [hV5]; exact setCell_but _ _ _ _
      have BX5 : Box V5 bx #[.slice q1.a1 L.st.length q1.c1, .slice a' (L.rd.length + 1) c', .slice q1.a3 L.cs.length q1.c3, .slice q1.a4 L.sn.length q1.c4] 27 := by rw [hV5]; exact setCell_box BX' 1 _
      obtain ⟨hb6, hb'⟩ := HBw.out
      obtain ⟨⟨o12, o13, o23⟩, ⟨u1, u2, u3⟩, ⟨xx1, xx2, xx3⟩, ⟨y1, y2, y3⟩, ⟨zz1, zz2, zz3⟩, w1', w2', w3', nxy, nxz, nyz⟩ := HD.out
      have hrow : ∀ g, (Value.slice q1.a2 L.rd.length q1.c2).ownBlock = some g → n1 ≤ g ∧ g < h1 := fun g hg => ⟨(HRest1.out.rd.1.1.lt g hg).1, HRest1.out.rd.2 g hg⟩
      have hbx : ∀ {b cs T}, Box V4 b cs T → (b < n1 ∨ h1 ≤ b) → b ≠ bx → Box V5 b cs T := fun {b cs T} hB hn hne =>
        but5.box ((HG.out.block b (Nat.lt_of_lt_of_le hB.lt hb6.size) fun e => by have := hrow b e.symm; omega).trans (hB.later hb6)) hne
      have B5 := hbx HB5.out (.inl (by omega)) (by omega)
      have B7 := hbx HB7.out (.inl (by omega)) (by omega)
      have CY := hbx HCY.out y1 (by omega)
      have CZ := hbx HCZ.out zz1 (by omega)
      have R2 := ((HRest2.out.later hb6).grown HG.out (fun g hg => by have := hrow g hg; omega)).but but5 xx2
      have R3 := ((HRest3.out.later hb6).grown HG.out (fun g hg => by have := hrow g hg; omega)).but but5 xx3
      have XS := ((HRest1.out.st.1.later hb6).apart HO.out (by decide) HG.out).other BX' (by decide) but5
      have XN := ((HRest1.out.sn.1.later hb6).apart HO.out (by decide) HG.out).other BX' (by decide) but5
      have XR : Own V5 n1 55 6 (.slice a' (L.rd.length + 1) c') ((L.rd ++ [z]).map Wl.vs) := by
        rw [List.map_append]
        exact HO'.out.other BX' (by decide) but5
      have XC := ((HRest1.out.toC.later hb6).grownT HO.out (by decide) (by decide) HG.out).butT but5 BX' (by decide) (by decide)
      have hW := but5.below ((over HW4.out hb6).trans (hb'.mono (show w.heap.size ≤ n1 by omega))) (by omega)
      have HX := Lib.hid (And.intro XS (And.intro XR (And.intro XN XC)))
      have HRest2 := Lib.hid R2
      have HRest3 := Lib.hid R3
      clear hV5 but5 hb6 hb' hrow hbx XS XR XN XC R2 R3 HR1 HRest1 HO HO' HG HBw HW4 HCX HCY HCZ HB5 HB7 BX' c16 t16 f16 hsz1 n5x nx5
      have CX := BX5
      clear BX5 o12 o13 o23 u1 u2 u3 xx1 xx2 xx3 y1 y2 y3 zz1 zz2 zz3
      obtain ⟨f0, hf0⟩ : ∃ f0, f0 = fr % L.sn.length := ⟨_, rfl⟩
      have hf1 : (f0 : Int) = (fr : Int) % (L.sn.length : Int) := by rw [hf0]; simp
      have hf2 : f0 < L.sn.length := by rw [hf0]; exact Nat.mod_lt fr s1
      have hz2 : IntKind.i64.wrap (fr : Int) = (fr : Int) := IntWalk.i64_in _ (by omega)
      have hf5 : (0 : Int) ≤ (fr : Int) % (L.sn.length : Int) ∧ (fr : Int) % (L.sn.length : Int) < 12 := by omega
      clear hf0
      have c5 := B5.cell; have t5 := B5.lt
      go_upto_region 9 with fail
      rw [← hf1]
      clear hf1 hz2 hf5 hfr c5 t5
      obtain ⟨cs, hkc⟩ := some_of hk3
      have HKc := Lib.hid hkc
      obtain ⟨g, cc, ⟨xa, xc, xcs⟩, cur, hq, hgn, hBg, hxcs, hcell, hown, hset⟩ := HRest2.out.now.cs.case hkc
      simp only at hxcs
      subst hxcs
      obtain ⟨g', cap', xx, hq', hg1, hg2, hcell', _, hxb⟩ := HRest2.out.cs.row hkc
      have hgg : g = g' ∧ xx.val = .slice xa xcs.length xc := by
        rw [hq] at hq'
        cases hq'
        rw [hcell] at hcell'
        exact ⟨rfl, (Option.some.inj hcell').symm⟩
      obtain ⟨hge, hxv⟩ := hgg
      subst hge
      rw [hxv] at hxb
      have hq1 : q2.a3 = some ⟨g, 0, none⟩ := by injection hq
      obtain ⟨o, ho⟩ : ∃ o : Nat, o = 0 := ⟨_, rfl⟩
      have hq4 : q2.a3 = some ⟨g, o, none⟩ := by rw [hq1, ho]
      have cg : V5.cell? ⟨g, o + k, none⟩ = some (.slice xa xcs.length xc) := by rw [ho, Nat.zero_add]; exact hcell
      have tg := hBg.lt
      have fg := hBg.frozen (o + k)
      have HSet := Lib.hid hset
      have HOwn := Lib.hid (show Own V5 n2 61 8 (.slice xa xcs.length xc) (xcs.map Cd.vs) from hown)
      have HGb := Lib.hid (And.intro hg1 (And.intro hg2 hxb))
      have HQ := Lib.hid hq1
      have HO := Lib.hid ho
      have HBg := Lib.hid hBg
      have hxl := HS.out.l5 xcs (List.mem_of_getElem? hkc)
      have hn5 : n2 ≤ V5.heap.size := Nat.le_trans HRest2.out.lt HRest2.out.le
      have nby : «by» ≠ g := by
        have hB := HBg.out
        intro e
        subst e
        unfold Box at hB CY
        rw [hB] at CY
        injection CY with h3
        injection h3 with _ h4
        exact absurd h4 (by decide)
      have u2 : w.heap.size + 1 < n2 := HD.out.2.1.2.1
      have nw : w.heap.size ≠ g := by omega
      have nw1 : w.heap.size + 1 ≠ g := by omega
      rw [hq4] at CY
      clear hkc hq hq' hBg hcell hcell' hown hset hxv hq1 hq4 ho hgn hg1 hg2 hxb
      have HCX := Lib.hid CX
      have HCY := Lib.hid CY
      have HCZ := Lib.hid CZ
      have HB5 := Lib.hid B5
      have HB7 := Lib.hid B7
      have hxy : xcs.length + 1 ≤ maxLen := by unfold maxLen; omega
      have hxz : (xcs.length + 1) * 64 ≤ 140737488355328 := by omega
      have HS0 : Hid (∀ A B : World, Below V5.heap.size V5 A → A.grownBy B (Value.slice xa xcs.length xc).ownBlock → B.cell? ⟨«by», 2, none⟩ = some (.slice (some ⟨g, o, none⟩) L.cs.length q2.c3) ∧ B.cell? ⟨w.heap.size, 3, none⟩ = some (.slice q.a4 L.sn.length q.c4) ∧ B.cell? ⟨w.heap.size + 1, 0, none⟩ = some (.int .i64 z.X1) ∧ B.cell? ⟨w.heap.size + 1, 1, none⟩ = some (.int .i64 z.Y1) ∧ B.cell? ⟨w.heap.size + 1, 2, none⟩ = some (.int .i64 z.X2) ∧ B.cell? ⟨w.heap.size + 1, 3, none⟩ = some (.int .i64 z.Y2) ∧ B.cell? ⟨w.heap.size + 1, 4, none⟩ = some (.int .i64 z.B) ∧ B.cell? ⟨w.heap.size + 1, 5, none⟩ = some (.int .i64 z.T)) := fun A B hA hg => by
        have kx : ∀ {b cs T} (p : Nat), Box V5 b cs T → T ≠ 61 → B.cell? ⟨b, p, none⟩ = V5.cell? ⟨b, p, none⟩ := fun {b cs T} p hB hT =>
          (hg.cell_far ⟨b, p, none⟩ (Nat.lt_of_lt_of_le hB.lt hA.size) (fun e => own_ne HOwn.out hB hT e.symm)).trans (hA.cell (p := ⟨b, p, none⟩) hB.lt)
        rw [kx 2 HCY.out (by decide), kx 3 HB5.out (by decide), kx 0 HB7.out (by decide), kx 1 HB7.out (by decide), kx 2 HB7.out (by decide), kx 3 HB7.out (by decide), kx 4 HB7.out (by decide), kx 5 HB7.out (by decide)]
        exact ⟨HCY.out.cell 2, HB5.out.cell 3, HB7.out.cell 0, HB7.out.cell 1, HB7.out.cell 2, HB7.out.cell 3, HB7.out.cell 4, HB7.out.cell 5⟩
      have HG0 : Hid (∀ A B : World, Below V5.heap.size V5 A → A.grownBy B (Value.slice xa xcs.length xc).ownBlock → B.cell? ⟨g, o + k, none⟩ = some (.slice xa xcs.length xc) ∧ B.frozen? ⟨g, o + k, none⟩ = false ∧ g < B.heap.size) := fun A B hA hg => by
        have hne : ∀ e : some g = (Value.slice xa xcs.length xc).ownBlock, False := fun e => own_ne HOwn.out HBg.out (by decide) e.symm
        exact ⟨((hg.cell_far ⟨g, o + k, none⟩ (Nat.lt_of_lt_of_le tg hA.size) hne).trans (hA.cell (p := ⟨g, o + k, none⟩) tg)).trans cg, ((hg.frozen_far ⟨g, o + k, none⟩ (Nat.lt_of_lt_of_le tg hA.size) hne).trans (hA.frozen (p := ⟨g, o + k, none⟩) tg)).trans fg, Nat.lt_of_lt_of_le tg (Nat.le_trans hA.size hg.size)⟩
      have HS1 : Hid (∀ (B : World) (v : Value), B.cell? ⟨«by», 2, none⟩ = some (.slice (some ⟨g, o, none⟩) L.cs.length q2.c3) ∧ B.cell? ⟨w.heap.size, 3, none⟩ = some (.slice q.a4 L.sn.length q.c4) ∧ B.cell? ⟨w.heap.size + 1, 0, none⟩ = some (.int .i64 z.X1) ∧ B.cell? ⟨w.heap.size + 1, 1, none⟩ = some (.int .i64 z.Y1) ∧ B.cell? ⟨w.heap.size + 1, 2, none⟩ = some (.int .i64 z.X2) ∧ B.cell? ⟨w.heap.size + 1, 3, none⟩ = some (.int .i64 z.Y2) ∧ B.cell? ⟨w.heap.size + 1, 4, none⟩ = some (.int .i64 z.B) ∧ B.cell? ⟨w.heap.size + 1, 5, none⟩ = some (.int .i64 z.T) → (B.setCell ⟨g, o + k, none⟩ v).cell? ⟨«by», 2, none⟩ = some (.slice (some ⟨g, o, none⟩) L.cs.length q2.c3) ∧ (B.setCell ⟨g, o + k, none⟩ v).cell? ⟨w.heap.size, 3, none⟩ = some (.slice q.a4 L.sn.length q.c4) ∧ (B.setCell ⟨g, o + k, none⟩ v).cell? ⟨w.heap.size + 1, 0, none⟩ = some (.int .i64 z.X1) ∧ (B.setCell ⟨g, o + k, none⟩ v).cell? ⟨w.heap.size + 1, 1, none⟩ = some (.int .i64 z.Y1) ∧ (B.setCell ⟨g, o + k, none⟩ v).cell? ⟨w.heap.size + 1, 2, none⟩ = some (.int .i64 z.X2) ∧ (B.setCell ⟨g, o + k, none⟩ v).cell? ⟨w.heap.size + 1, 3, none⟩ = some (.int .i64 z.Y2) ∧ (B.setCell ⟨g, o + k, none⟩ v).cell? ⟨w.heap.size + 1, 4, none⟩ = some (.int .i64 z.B) ∧ (B.setCell ⟨g, o + k, none⟩ v).cell? ⟨w.heap.size + 1, 5, none⟩ = some (.int .i64 z.T)) := fun B v hS => by
        have c : ∀ b p, b ≠ g → (B.setCell ⟨g, o + k, none⟩ v).cell? ⟨b, p, none⟩ = B.cell? ⟨b, p, none⟩ := fun b p h => World.cell?_of_block ((setCell_but B g (o + k) v).block b h)
        rw [c «by» 2 nby, c w.heap.size 3 nw, c _ 0 nw1, c _ 1 nw1, c _ 2 nw1, c _ 3 nw1, c _ 4 nw1, c _ 5 nw1]
        exact hS
      obtain ⟨i0, z0, hi0, hz0, hz1, hz2, hz3⟩ := elem_rcd.get
      have hu := elem_rcd.ht
      obtain ⟨to', hto⟩ : ∃ to' : Int, (f0 : Int) + (ta : Int) % ((L.sn.length : Int) - (f0 : Int)) = to' := ⟨_, rfl⟩
      have hw1 : IntKind.i64.wrap (ta : Int) = (ta : Int) := IntWalk.i64_in _ (by omega)
      have hw2 : IntKind.i64.wrap ((L.sn.length : Int) - (f0 : Int)) = (L.sn.length : Int) - (f0 : Int) := IntWalk.i64_in _ (by omega)
      have hm := Int.emod_lt_of_pos (ta : Int) (show (0 : Int) < (L.sn.length : Int) - (f0 : Int) by omega)
      have hm0 := Int.emod_nonneg (ta : Int) (show (L.sn.length : Int) - (f0 : Int) ≠ 0 by omega)
      have hto0 : (f0 : Int) ≤ to' ∧ to' < (L.sn.length : Int) := by omega
      have hw3 : IntKind.i64.wrap ((f0 : Int) + (ta : Int) % ((L.sn.length : Int) - (f0 : Int))) = to' := by rw [hto]; exact IntWalk.i64_in _ (by omega)
      have r7 : (0 : Int) ≤ (k : Int) := by omega
      have r8 : (k : Int) < (L.cs.length : Int) := by omega
      have r9 : (0 : Int) < (L.sn.length : Int) - (f0 : Int) := by omega
      have r10 : (0 : Int) ≤ (ta : Int) := by omega
      have hd0 : ¬ ((L.sn.length : Int) - (f0 : Int) = 0) := by omega
      have htm : (ta : Int).tmod ((L.sn.length : Int) - (f0 : Int)) = (ta : Int) % ((L.sn.length : Int) - (f0 : Int)) := Int.tmod_eq_emod_of_nonneg r10
      have HTo := Lib.hid hto0
      clear hto hto0 hm hm0
      go_cut [89] (fun _ wx => ∃ (W1 W2 : World) (a2 : Option Addr) (c2 : Nat), Below V5.heap.size V5 W1 ∧ W1.grownBy W2 (Value.slice xa xcs.length xc).ownBlock ∧ Own W2 n2 61 8 (.slice a2 (xcs.length + 1) c2) ((xcs ++ [(⟨z, f0, to'⟩ : Cd)]).map Cd.vs) ∧ (∀ b, (Value.slice a2 (xcs.length + 1) c2).ownBlock = some b → (Value.slice xa xcs.length xc).ownBlock = some b ∨ W1.heap.size ≤ b) ∧
        wx = W2.setCell ⟨g, o + k, none⟩ (.slice a2 (xcs.length + 1) c2))
      case first =>
        have hHz := HB7.out
        refine wp_region_noPanic ?_
        refine wp_region_held_drew (S := (fun w' => w'.cell? ⟨«by», 2, none⟩ = some (.slice (some ⟨g, o, none⟩) L.cs.length q2.c3) ∧ w'.cell? ⟨w.heap.size, 3, none⟩ = some (.slice q.a4 L.sn.length q.c4) ∧ w'.cell? ⟨w.heap.size + 1, 0, none⟩ = some (.int .i64 z.X1) ∧ w'.cell? ⟨w.heap.size + 1, 1, none⟩ = some (.int .i64 z.Y1) ∧ w'.cell? ⟨w.heap.size + 1, 2, none⟩ = some (.int .i64 z.X2) ∧ w'.cell? ⟨w.heap.size + 1, 3, none⟩ = some (.int .i64 z.Y2) ∧ w'.cell? ⟨w.heap.size + 1, 4, none⟩ = some (.int .i64 z.B) ∧ w'.cell? ⟨w.heap.size + 1, 5, none⟩ = some (.int .i64 z.T))) (by kernel_rfl) (by (try dsimp only); exact HS0.out _ _ (by repeat (first | exact Below.refl _ _ | refine al ?_ _ | refine Below.drew ?_ | refine sc ?_ (by simp) _)) (World.grownBy.refl _ _)) (fun hHeld => ?_)
        refine wpAnyH_take (i := 0) (oi := _) (v := ?_) rfl (by kernel_rfl) (by kernel_rfl) (by kernel_rfl) (fun _ _ _ h => h) (Or.inl ⟨by rfl, ?_⟩) (by assumption) ?_
        rotate_left
        · (intro w hSw; (try dsimp only at hSw); go_simp; try with_reducible rfl)
        (try dsimp only); (try simp only [Act.put]); (try simp only [List.setIfInBounds_toArray]); (try simp only [List.set_cons_succ]); (try simp only [List.set_cons_zero])
        refine wpAnyH_take (i := 1) (oi := _) (v := ?_) rfl (by kernel_rfl) (by kernel_rfl) (by kernel_rfl) (fun _ _ _ h => h) (Or.inl ⟨by rfl, ?_⟩) (by assumption) ?_
        rotate_left
        · (intro w hSw; (try dsimp only at hSw); go_simp; try with_reducible rfl)
        (try dsimp only); (try simp only [Act.put]); (try simp only [List.setIfInBounds_toArray]); (try simp only [List.set_cons_succ]); (try simp only [List.set_cons_zero])
        refine wpAnyH_take (i := 2) (oi := _) (v := ?_) rfl (by kernel_rfl) (by kernel_rfl) (by kernel_rfl) (fun _ _ _ h => h) (Or.inl ⟨by rfl, ?_⟩) (by assumption) ?_
        rotate_left
        · (intro w hSw; (try dsimp only at hSw); go_simp; try with_reducible rfl)
        (try dsimp only); (try simp only [Act.put]); (try simp only [List.setIfInBounds_toArray]); (try simp only [List.set_cons_succ]); (try simp only [List.set_cons_zero])
        refine wpAnyH_take (i := 3) (oi := _) (v := ?_) rfl (by kernel_rfl) (by kernel_rfl) (by kernel_rfl) (fun _ _ _ h => h) (Or.inl ⟨by rfl, ?_⟩) (by assumption) ?_
        rotate_left
        · (intro w hSw; (try dsimp only at hSw); go_simp; try with_reducible rfl)
        (try dsimp only); (try simp only [Act.put]); (try simp only [List.setIfInBounds_toArray]); (try simp only [List.set_cons_succ]); (try simp only [List.set_cons_zero])
        refine wpAnyH_take (i := 4) (oi := _) (v := ?_) rfl (by kernel_rfl) (by kernel_rfl) (by kernel_rfl) (fun _ _ _ h => h) (Or.inl ⟨by rfl, ?_⟩) (by assumption) ?_
        rotate_left
        · (intro w hSw; (try dsimp only at hSw); go_simp; try with_reducible rfl)
        (try dsimp only); (try simp only [Act.put]); (try simp only [List.setIfInBounds_toArray]); (try simp only [List.set_cons_succ]); (try simp only [List.set_cons_zero])
        refine wpAnyH_take (i := 5) (oi := _) (v := ?_) rfl (by kernel_rfl) (by kernel_rfl) (by kernel_rfl) (fun _ _ _ h => h) (Or.inl ⟨by rfl, ?_⟩) (by assumption) ?_
        rotate_left
        · (intro w hSw; (try dsimp only at hSw); go_simp; try with_reducible rfl)
        (try dsimp only); (try simp only [Act.put]); (try simp only [List.setIfInBounds_toArray]); (try simp only [List.set_cons_succ]); (try simp only [List.set_cons_zero])
        refine wpAnyH_take (i := 6) (oi := _) (v := ?_) rfl (by kernel_rfl) (by kernel_rfl) (by kernel_rfl) (fun _ _ _ h => h) (Or.inl ⟨by rfl, ?_⟩) (by assumption) ?_
        rotate_left
        · (intro w hSw; (try dsimp only at hSw); go_simp; try with_reducible rfl)
        (try dsimp only); (try simp only [Act.put]); (try simp only [List.setIfInBounds_toArray]); (try simp only [List.set_cons_succ]); (try simp only [List.set_cons_zero])
        refine wpAnyH_take (i := 8) (oi := _) (v := ?_) rfl (by kernel_rfl) (by kernel_rfl) (by kernel_rfl) (fun _ _ _ h => h) (Or.inl ⟨by rfl, ?_⟩) (by assumption) ?_
        rotate_left
        · (intro w hSw; (try dsimp only at hSw); go_simp; try with_reducible rfl)
        (try dsimp only); (try simp only [Act.put]); (try simp only [List.setIfInBounds_toArray]); (try simp only [List.set_cons_succ]); (try simp only [List.set_cons_zero])
        refine wpAnyH_take (i := 9) (oi := _) (v := ?_) rfl (by kernel_rfl) (by kernel_rfl) (by kernel_rfl) (fun _ _ _ h => h) (Or.inl ⟨by rfl, ?_⟩) (by assumption) ?_
        rotate_left
        · (intro w hSw; (try dsimp only at hSw); go_simp; try with_reducible rfl)
        (try dsimp only); (try simp only [Act.put]); (try simp only [List.setIfInBounds_toArray]); (try simp only [List.set_cons_succ]); (try simp only [List.set_cons_zero])
        refine wpAnyH_take (i := 10) (oi := _) (v := ?_) rfl (by kernel_rfl) (by kernel_rfl) (by kernel_rfl) (fun _ _ _ h => h) (Or.inl ⟨by rfl, ?_⟩) (by assumption) ?_
        rotate_left
        · (intro w hSw; (try dsimp only at hSw); go_simp; try with_reducible rfl)
        (try dsimp only); (try simp only [Act.put]); (try simp only [List.setIfInBounds_toArray]); (try simp only [List.set_cons_succ]); (try simp only [List.set_cons_zero])
        refine wpAnyH_take (i := 11) (oi := _) (v := ?_) rfl (by kernel_rfl) (by kernel_rfl) (by kernel_rfl) (fun _ _ _ h => h) (Or.inl ⟨by rfl, ?_⟩) (by assumption) ?_
        rotate_left
        · (intro w hSw; (try dsimp only at hSw); go_simp; try with_reducible rfl)
        (try dsimp only); (try simp only [Act.put]); (try simp only [List.setIfInBounds_toArray]); (try simp only [List.set_cons_succ]); (try simp only [List.set_cons_zero])
        refine wpAnyH_take (i := 12) (oi := _) (v := ?_) rfl (by kernel_rfl) (by kernel_rfl) (by kernel_rfl) (fun _ _ _ h => h) (Or.inl ⟨by rfl, ?_⟩) (by assumption) ?_
        rotate_left
        · (intro w hSw; (try dsimp only at hSw); go_simp; try with_reducible rfl)
        (try dsimp only); (try simp only [Act.put]); (try simp only [List.setIfInBounds_toArray]); (try simp only [List.set_cons_succ]); (try simp only [List.set_cons_zero])
        refine wpAnyH_take (i := 13) (oi := _) (v := ?_) rfl (by kernel_rfl) (by kernel_rfl) (by kernel_rfl) (fun _ _ _ h => h) (Or.inl ⟨by rfl, ?_⟩) (by assumption) ?_
        rotate_left
        · (intro w hSw; (try dsimp only at hSw); go_simp; try with_reducible rfl)
        (try dsimp only); (try simp only [Act.put]); (try simp only [List.setIfInBounds_toArray]); (try simp only [List.set_cons_succ]); (try simp only [List.set_cons_zero])
        refine wpAnyH_take (i := 14) (oi := _) (v := ?_) rfl (by kernel_rfl) (by kernel_rfl) (by kernel_rfl) (fun _ _ _ h => h) (Or.inl ⟨by rfl, ?_⟩) (by assumption) ?_
        rotate_left
        · (intro w hSw; (try dsimp only at hSw); go_simp; try with_reducible rfl)
        (try dsimp only); (try simp only [Act.put]); (try simp only [List.setIfInBounds_toArray]); (try simp only [List.set_cons_succ]); (try simp only [List.set_cons_zero])
        refine wpAnyH_take (i := 15) (oi := _) (v := ?_) rfl (by kernel_rfl) (by kernel_rfl) (by kernel_rfl) (fun _ _ _ h => h) (Or.inl ⟨by rfl, ?_⟩) (by assumption) ?_
        rotate_left
        · (intro w hSw; (try dsimp only at hSw); go_simp; try with_reducible rfl)
        (try dsimp only); (try simp only [Act.put]); (try simp only [List.setIfInBounds_toArray]); (try simp only [List.set_cons_succ]); (try simp only [List.set_cons_zero])
        refine wpAnyH_take (i := 16) (oi := _) (v := ?_) rfl (by kernel_rfl) (by kernel_rfl) (by kernel_rfl) (fun _ _ _ h => h) (Or.inl ⟨by rfl, ?_⟩) (by assumption) ?_
        rotate_left
        · (intro w hSw; (try dsimp only at hSw); go_simp; try with_reducible rfl)
        (try dsimp only); (try simp only [Act.put]); (try simp only [List.setIfInBounds_toArray]); (try simp only [List.set_cons_succ]); (try simp only [List.set_cons_zero])
        refine wpAnyH_take (i := 17) (oi := _) (v := ?_) rfl (by kernel_rfl) (by kernel_rfl) (by kernel_rfl) (fun _ _ _ h => h) (Or.inl ⟨by rfl, ?_⟩) (by assumption) ?_
        rotate_left
        · (intro w hSw; (try dsimp only at hSw); go_simp; try with_reducible rfl)
        (try dsimp only); (try simp only [Act.put]); (try simp only [List.setIfInBounds_toArray]); (try simp only [List.set_cons_succ]); (try simp only [List.set_cons_zero])
        refine wpAnyH_take (i := 18) (oi := _) (v := ?_) rfl (by kernel_rfl) (by kernel_rfl) (by kernel_rfl) (fun _ _ _ h => h) (Or.inl ⟨by rfl, ?_⟩) (by assumption) ?_
        rotate_left
        · (intro w hSw; (try dsimp only at hSw); go_simp; try with_reducible rfl)
        (try dsimp only); (try simp only [Act.put]); (try simp only [List.setIfInBounds_toArray]); (try simp only [List.set_cons_succ]); (try simp only [List.set_cons_zero])
        refine wpAnyH_take (i := 19) (oi := _) (v := ?_) rfl (by kernel_rfl) (by kernel_rfl) (by kernel_rfl) (fun _ _ _ h => h) (Or.inl ⟨by rfl, ?_⟩) (by assumption) ?_
        rotate_left
        · (intro w hSw; (try dsimp only at hSw); go_simp; try with_reducible rfl)
        (try dsimp only); (try simp only [Act.put]); (try simp only [List.setIfInBounds_toArray]); (try simp only [List.set_cons_succ]); (try simp only [List.set_cons_zero])
        refine wpAnyH_take (i := 20) (oi := _) (v := ?_) rfl (by kernel_rfl) (by kernel_rfl) (by kernel_rfl) (fun _ _ _ h => h) (Or.inl ⟨by rfl, ?_⟩) (by assumption) ?_
        rotate_left
        · (intro w hSw; (try dsimp only at hSw); go_simp; try with_reducible rfl)
        (try dsimp only); (try simp only [Act.put]); (try simp only [List.setIfInBounds_toArray]); (try simp only [List.set_cons_succ]); (try simp only [List.set_cons_zero])
        refine wpAnyH_ready (rs := [7, 21]) (by kernel_rfl) (by simp) ?_
        refine AllReadyH.cons (o := _) rfl (fun K hK => ?_) (AllReadyH.cons (o := _) rfl (fun K hK => ?_) AllReadyH.nil)
        · go_simp
          refine hK.out _ _ (by (try dsimp only); assumption) (fun hHeld => ?_)
          clear hK K
          (try dsimp only); (try simp only [Act.put]); (try simp only [List.setIfInBounds_toArray]); (try simp only [List.set_cons_succ]); (try simp only [List.set_cons_zero])
          refine wpAnyH_ready (rs := [21]) (by kernel_rfl) (by simp) ?_
          refine AllReadyH.cons (o := _) rfl (fun K hK => ?_) AllReadyH.nil
          go_simp
          refine hK.out _ _ (by (try dsimp only); exact HS0.out _ _ (by repeat (first | exact Below.refl _ _ | refine al ?_ _ | refine Below.drew ?_ | refine sc ?_ (by simp) _)) (World.grownBy.refl _ _)) (fun hHeld => ?_)
          clear hK K
          (try dsimp only); (try simp only [Act.put]); (try simp only [List.setIfInBounds_toArray]); (try simp only [List.set_cons_succ]); (try simp only [List.set_cons_zero])
          refine wpAnyH_ready (rs := [22]) (by kernel_rfl) (by simp) ?_
          refine AllReadyH.cons (o := _) rfl (fun K hK => ?_) AllReadyH.nil
          refine step_append_lies _ (by rfl) _ _ _ (by rfl) n2 61 i0 z0 8 64 hu hi0 hz0 hz1 hz2 hz3 (by omega) (.slice xa xcs.length xc) xcs.length (xcs.map Cd.vs).flatten (by rfl) (by exact own_row8 (HOwn.out.later (show Below V5.heap.size V5 _ from (by repeat (first | exact Below.refl _ _ | refine al ?_ _ | refine Below.drew ?_ | refine sc ?_ (by simp) _))))) ⟨V5.heap.size, 0, none⟩ 1 1 [.int .i64 z.X1, .int .i64 z.Y1, .int .i64 z.X2, .int .i64 z.Y2, .int .i64 z.B, .int .i64 z.T, .int .i64 f0, .int .i64 to'] (by rfl) (by rfl) (World.news_of_block (cs := #[.int .i64 z.X1, .int .i64 z.Y1, .int .i64 z.X2, .int .i64 z.Y2, .int .i64 z.B, .int .i64 z.T, .int .i64 f0, .int .i64 to']) (t := 61) (fr := (0, 0)) (by exact heap_alloc_new V5 _)) (by simp [Value.oneCell']) (by omega) hxy hxz (by simp; omega) (V5.heap.size + 1) (by simp) ?_
          intro g3 cap3 w6 hown6 hgrow hat hlt6
          have hg6 := HG0.out _ _ (by repeat (first | exact Below.refl _ _ | refine al ?_ _ | refine Below.drew ?_ | refine sc ?_ (by simp) _)) hgrow
          obtain ⟨hg6a, hg6b, hg6c⟩ := hg6
          refine hK.out _ _ (by (try dsimp only); exact HS0.out _ _ (by repeat (first | exact Below.refl _ _ | refine al ?_ _ | refine Below.drew ?_ | refine sc ?_ (by simp) _)) hgrow) (fun hHeld => ?_)
          clear hK K
          (try dsimp only); (try simp only [Act.put]); (try simp only [List.setIfInBounds_toArray]); (try simp only [List.set_cons_succ]); (try simp only [List.set_cons_zero])
          refine wpAnyH_take (i := 23) (oi := _) (v := ?_) rfl (by kernel_rfl) (by kernel_rfl) (by kernel_rfl) (fun _ _ _ h => h) (Or.inl ⟨by rfl, ?_⟩) (by assumption) ?_
          rotate_left
          · (intro w hSw; (try dsimp only at hSw); go_simp; try with_reducible rfl)
          (try dsimp only); (try simp only [Act.put]); (try simp only [List.setIfInBounds_toArray]); (try simp only [List.set_cons_succ]); (try simp only [List.set_cons_zero])
          refine wpAnyH_ready (rs := [24]) (by kernel_rfl) (by simp) ?_
          refine AllReadyH.cons (o := _) rfl (fun K hK => ?_) AllReadyH.nil
          go_simp
          refine hK.out _ _ (by (try dsimp only); exact HS1.out _ _ (by assumption)) (fun hHeld => ?_)
          clear hK K
          (try dsimp only); (try simp only [Act.put]); (try simp only [List.setIfInBounds_toArray]); (try simp only [List.set_cons_succ]); (try simp only [List.set_cons_zero])
          refine wpAnyH_done (by kernel_rfl) ?_ _
          refine NoPanic.normal ?_
          go_wp2_with fail
          go_meet
          refine ⟨_, w6, _, cap3, ?_, hgrow, ?_, ?_, rfl⟩
          · exact (by repeat (first | exact Below.refl _ _ | refine al ?_ _ | refine Below.drew ?_ | refine sc ?_ (by simp) _))
          · rw [List.map_append]
            exact own_snoc HOwn.out (by simp) hown6 rfl
          · intro b hb
            cases hb
            rcases hat with h | h
            · exact .inl h
            · subst h
              exact .inr (by simp)
        · go_simp
          refine hK.out _ _ (by (try dsimp only); exact HS0.out _ _ (by repeat (first | exact Below.refl _ _ | refine al ?_ _ | refine Below.drew ?_ | refine sc ?_ (by simp) _)) (World.grownBy.refl _ _)) (fun hHeld => ?_)
          clear hK K
          (try dsimp only); (try simp only [Act.put]); (try simp only [List.setIfInBounds_toArray]); (try simp only [List.set_cons_succ]); (try simp only [List.set_cons_zero])
          refine wpAnyH_ready (rs := [7]) (by kernel_rfl) (by simp) ?_
          refine AllReadyH.cons (o := _) rfl (fun K hK => ?_) AllReadyH.nil
          go_simp
          refine hK.out _ _ (by (try dsimp only); assumption) (fun hHeld => ?_)
          clear hK K
          (try dsimp only); (try simp only [Act.put]); (try simp only [List.setIfInBounds_toArray]); (try simp only [List.set_cons_succ]); (try simp only [List.set_cons_zero])
          refine wpAnyH_ready (rs := [22]) (by kernel_rfl) (by simp) ?_
          refine AllReadyH.cons (o := _) rfl (fun K hK => ?_) AllReadyH.nil
          refine step_append_lies _ (by rfl) _ _ _ (by rfl) n2 61 i0 z0 8 64 hu hi0 hz0 hz1 hz2 hz3 (by omega) (.slice xa xcs.length xc) xcs.length (xcs.map Cd.vs).flatten (by rfl) (by exact own_row8 (HOwn.out.later (show Below V5.heap.size V5 _ from (by repeat (first | exact Below.refl _ _ | refine al ?_ _ | refine Below.drew ?_ | refine sc ?_ (by simp) _))))) ⟨V5.heap.size, 0, none⟩ 1 1 [.int .i64 z.X1, .int .i64 z.Y1, .int .i64 z.X2, .int .i64 z.Y2, .int .i64 z.B, .int .i64 z.T, .int .i64 f0, .int .i64 to'] (by rfl) (by rfl) (World.news_of_block (cs := #[.int .i64 z.X1, .int .i64 z.Y1, .int .i64 z.X2, .int .i64 z.Y2, .int .i64 z.B, .int .i64 z.T, .int .i64 f0, .int .i64 to']) (t := 61) (fr := (0, 0)) (by exact heap_alloc_new V5 _)) (by simp [Value.oneCell']) (by omega) hxy hxz (by simp; omega) (V5.heap.size + 1) (by simp) ?_
          intro g3 cap3 w6 hown6 hgrow hat hlt6
          have hg6 := HG0.out _ _ (by repeat (first | exact Below.refl _ _ | refine al ?_ _ | refine Below.drew ?_ | refine sc ?_ (by simp) _)) hgrow
          obtain ⟨hg6a, hg6b, hg6c⟩ := hg6
          refine hK.out _ _ (by (try dsimp only); exact HS0.out _ _ (by repeat (first | exact Below.refl _ _ | refine al ?_ _ | refine Below.drew ?_ | refine sc ?_ (by simp) _)) hgrow) (fun hHeld => ?_)
          clear hK K
          (try dsimp only); (try simp only [Act.put]); (try simp only [List.setIfInBounds_toArray]); (try simp only [List.set_cons_succ]); (try simp only [List.set_cons_zero])
          refine wpAnyH_take (i := 23) (oi := _) (v := ?_) rfl (by kernel_rfl) (by kernel_rfl) (by kernel_rfl) (fun _ _ _ h => h) (Or.inl ⟨by rfl, ?_⟩) (by assumption) ?_
          rotate_left
          · (intro w hSw; (try dsimp only at hSw); go_simp; try with_reducible rfl)
          (try dsimp only); (try simp only [Act.put]); (try simp only [List.setIfInBounds_toArray]); (try simp only [List.set_cons_succ]); (try simp only [List.set_cons_zero])
          refine wpAnyH_ready (rs := [24]) (by kernel_rfl) (by simp) ?_
          refine AllReadyH.cons (o := _) rfl (fun K hK => ?_) AllReadyH.nil
          go_simp
          refine hK.out _ _ (by (try dsimp only); exact HS1.out _ _ (by assumption)) (fun hHeld => ?_)
          clear hK K
          (try dsimp only); (try simp only [Act.put]); (try simp only [List.setIfInBounds_toArray]); (try simp only [List.set_cons_succ]); (try simp only [List.set_cons_zero])
          refine wpAnyH_done (by kernel_rfl) ?_ _
          refine NoPanic.normal ?_
          go_wp2_with fail
          go_meet
          refine ⟨_, w6, _, cap3, ?_, hgrow, ?_, ?_, rfl⟩
          · exact (by repeat (first | exact Below.refl _ _ | refine al ?_ _ | refine Below.drew ?_ | refine sc ?_ (by simp) _))
          · rw [List.map_append]
            exact own_snoc HOwn.out (by simp) hown6 rfl
          · intro b hb
            cases hb
            rcases hat with h | h
            · exact .inl h
            · subst h
              exact .inr (by simp)
      case rest =>
        obtain ⟨W1, W2, a2, c2, hb1, hg, ho', hn', hcut⟩ := hcut
        have hwx : wc = W2.setCell ⟨g, k, none⟩ (.slice a2 (xcs.length + 1) c2) := by rw [hcut, HO.out, Nat.zero_add]
        clear hcut HS0 HS1 HG0 hw1 hw2 hw3 htm hd0
        obtain ⟨⟨o12, o13, o23⟩, ⟨u1, _, u3⟩, ⟨xx1, xx2, xx3⟩, ⟨y1, y2, y3⟩, ⟨zz1, zz2, zz3⟩, w1', w2', w3', nxy, nxz, nyz⟩ := HD.out
        obtain ⟨hg1, hg2, hxb⟩ := HGb.out
        have hK : Kept V5 wc n2 := by rw [hwx]; exact kept_case HBg.out hg1 HOwn.out hb1 hg
        have hcl : (xcs ++ [(⟨z, f0, to'⟩ : Cd)]).length = xcs.length + 1 := by simp
        have hC := HSet.out W1 W2 ⟨a2, c2, xcs ++ [(⟨z, f0, to'⟩ : Cd)]⟩ hb1 hg (by unfold CV.val; rw [hcl]; exact ho') (fun b hb => hn' b (by unfold CV.val at hb; rw [hcl] at hb; exact hb))
        rw [show CV.val ⟨a2, c2, xcs ++ [(⟨z, f0, to'⟩ : Cd)]⟩ = .slice a2 (xcs.length + 1) c2 by unfold CV.val; rw [hcl], ← hwx] at hC
        have but6 : But g W2 wc := by rw [hwx]; exact setCell_but _ _ _ _
        obtain ⟨XS, XR, XN, XC⟩ := HX.out
        have YS := hK.own HRest2.out.st.1 (by decide) (by decide)
        have YR := hK.own HRest2.out.rd.1 (by decide) (by decide)
        have YN := hK.own HRest2.out.sn.1 (by decide) (by decide)
        replace XS := hK.own XS (by decide) (by decide)
        replace XR := hK.own XR (by decide) (by decide)
        replace XN := hK.own XN (by decide) (by decide)
        replace XC := ((XC.later hb1).grown hg (fun b hb => by have := hxb b hb; omega)).but but6 (by omega)
        have R3 := ((HRest3.out.later hb1).grown hg (fun b hb => by have := hxb b hb; omega)).but but6 (by omega)
        have CX := hK.box HCX.out (by decide) (by decide)
        have CY := hK.box HCY.out (by decide) (by decide)
        have CZ := hK.box HCZ.out (by decide) (by decide)
        have B5 := hK.box HB5.out (by decide) (by decide)
        replace hW := hK.below hW (show w.heap.size ≤ n2 by omega)
        have hq := HQ.out
        have ho := HO.out
        subst ho
        clear hK ho' hn' hb1 hg hwx but6 HX HRest2 HRest3 HCX HCY HCZ HB5 HB7 HSet HOwn HBg HGb HQ HO cg tg fg hxy hxz hi0 hz0 hz1 hz2 hz3 hu
        have HQy := Lib.hid hq
        obtain ⟨gz, cz', ⟨za, zc, zcs⟩, curz, hqz, hgzn, hBz, hzcs, hzcell, hzown, hzset⟩ := R3.now.cs.case HKc.out
        simp only at hzcs
        subst hzcs
        obtain ⟨gz', _, xz, hqz', hgz1, hgz2, _, _, _⟩ := R3.cs.row HKc.out
        have hge : gz = gz' := by
          rw [hqz] at hqz'
          cases hqz'; rfl
        subst hge
        have hqz1 : q3.a3 = some ⟨gz, 0, none⟩ := by injection hqz
        obtain ⟨oz, hoz⟩ : ∃ oz : Nat, oz = 0 := ⟨_, rfl⟩
        have hqz4 : q3.a3 = some ⟨gz, oz, none⟩ := by rw [hqz1, hoz]
        have hz7 := hzset wc wc ⟨none, 0, []⟩ (Below.refl _ _) (World.grownBy.refl _ _) (Own.nil _ _ _ _) (fun b hb => by cases hb)
        have hK7 := kept_case (p := k) (nv := Value.slice none 0 0) hBz hgzn hzown (Below.refl _ _) (World.grownBy.refl wc _)
        have cgz : wc.cell? ⟨gz, oz + k, none⟩ = some (.slice za zcs.length zc) := by rw [hoz, Nat.zero_add]; exact hzcell
        have fgz := hBz.frozen (oz + k)
        have tgz := hBz.lt
        have HZs := Lib.hid hz7
        have HK7 := Lib.hid hK7
        have HBz := Lib.hid hBz
        have HOz := Lib.hid hoz
        have HCZ := Lib.hid CZ
        rw [hqz4] at CZ
        have HC := Lib.hid hC
        have HR3 := Lib.hid R3
        have HXX := Lib.hid (And.intro XS (And.intro XR (And.intro XN XC)))
        have HYY := Lib.hid (And.intro YS (And.intro YR YN))
        have HW := Lib.hid hW
        have HB5 := Lib.hid B5
        have HCX := Lib.hid CX
        have HCY := Lib.hid CY
        have HGz := Lib.hid (And.intro hgz1 hgz2)
        have HGy := Lib.hid (And.intro hg1 hg2)
        have c18 := CZ.cell
        have t18 := CZ.lt
        clear hqz hqz' hqz1 hzcell hzown hzset hz7 hK7 hBz hoz CZ CX CY B5 hC R3 XS XR XN XC YS YR YN hW hgzn hgz1 hgz2 hxb hq hqz4 hcl o12 o13 o23 xx1 xx2 xx3 y1 y2 y3 zz1 zz2 zz3 hg1 hg2
        go_upto_region 11 with fail
        refine nameAny (p := Code.wp _ _ _ _) ?_
        intro V7 hV7
        have ho := HOz.out
        subst ho
        rw [Nat.zero_add] at hV7
        have hK7 := HK7.out
        have hZ := HZs.out
        rw [show CV.val ⟨none, 0, []⟩ = .slice none 0 0 from rfl] at hZ
        rw [← hV7] at hK7 hZ
        have but7 : But gz wc V7 := by rw [hV7]; exact setCell_but _ _ _ _
        obtain ⟨⟨o12, o13, o23⟩, ⟨_, _, _⟩, ⟨xx1, xx2, xx3⟩, ⟨y1, y2, y3⟩, ⟨zz1, zz2, zz3⟩, _⟩ := HD.out
        obtain ⟨hgz1, hgz2⟩ := HGz.out
        obtain ⟨hgy1, hgy2⟩ := HGy.out
        have hW := hK7.below HW.out (show w.heap.size ≤ n3 by omega)
        have B5 := hK7.box HB5.out (by decide) (by decide)
        have CX := hK7.box HCX.out (by decide) (by decide)
        have CY := hK7.box HCY.out (by decide) (by decide)
        have CZ := hK7.box HCZ.out (by decide) (by decide)
        obtain ⟨XS, XR, XN, XC⟩ := HXX.out
        obtain ⟨YS, YR, YN⟩ := HYY.out
        have hX := (XC.but but7 (by omega)).cases.now
        have hY : CasesR V7 n2 (.slice q2.a3 L.cs.length q2.c3) (L.cs.set k (zcs ++ [(⟨z, f0, to'⟩ : Cd)])) := by
          rw [hV7]
          exact HC.out.away HBz.out (fun e => by rw [HQy.out] at e; have e2 : g = gz := Option.some.inj e; omega)
        have hzl : z.rg = z.rg := rfl
        obtain ⟨LX, hLX⟩ : ∃ LX, LX = L.addRd z := ⟨_, rfl⟩
        obtain ⟨LY, hLY⟩ : ∃ LY, LY = L.setCs k (zcs ++ [(⟨z, f0, to'⟩ : Cd)]) := ⟨_, rfl⟩
        obtain ⟨LZ, hLZ⟩ : ∃ LZ, LZ = L.setCs k [] := ⟨_, rfl⟩
        have x2 : LX.rd.length = L.rd.length + 1 := by rw [hLX]; simp [Land.addRd]
        have hXA : LandAt V7 ⟨q1.a1, q1.c1, a', c', q1.a3, q1.c3, q1.a4, q1.c4⟩ LX := by
          refine LandR.at (n0 := n1) ⟨?_, ?_, ?_, ?_⟩
          · rw [hLX]; exact hK7.own XS (by decide) (by decide)
          · rw [x2, hLX]; exact hK7.own XR (by decide) (by decide)
          · rw [hLX]; exact hX
          · rw [hLX]; exact hK7.own XN (by decide) (by decide)
        have hYA : LandAt V7 q2 LY := by
          rw [hLY]
          exact LandR.at (n0 := n2) (landR_setCs hY (hK7.own YS (by decide) (by decide)) (hK7.own YR (by decide) (by decide)) (hK7.own YN (by decide) (by decide)))
        have hZA : LandAt V7 q3 LZ := by
          rw [hLZ]
          exact LandR.at (n0 := n3) (landR_setCs hZ (hK7.own HR3.out.st.1 (by decide) (by decide)) (hK7.own HR3.out.rd.1 (by decide) (by decide)) (hK7.own HR3.out.sn.1 (by decide) (by decide)))
        have hkc := HKc.out
        have hZr : Ready LZ := ready_chk (by rw [hLZ]; exact chk_nil HR.out.chk) (by rw [hLZ]; exact l1)
        have xs : LX.st = L.st ∧ LX.cs = L.cs ∧ LX.sn = L.sn := by rw [hLX]; exact ⟨rfl, rfl, rfl⟩
        have ys : LY.st = L.st ∧ LY.rd = L.rd ∧ LY.cs.length = L.cs.length ∧ LY.sn = L.sn := by rw [hLY]; exact ⟨rfl, rfl, by simp [Land.setCs], rfl⟩
        have zs : LZ.st = L.st ∧ LZ.rd = L.rd ∧ LZ.cs.length = L.cs.length ∧ LZ.sn = L.sn := by rw [hLZ]; exact ⟨rfl, rfl, by simp [Land.setCs], rfl⟩
        have hXs : Small LX := ⟨by rw [xs.1]; omega, by rw [x2]; omega, by rw [xs.2.1]; omega, by rw [xs.2.2]; omega, fun c hc => by rw [xs.2.1] at hc; exact HS.out.l5 c hc⟩
        have hYs : Small LY := ⟨by rw [ys.1]; omega, by rw [ys.2.1]; omega, by rw [ys.2.2.1]; omega, by rw [ys.2.2.2]; omega, fun c hc => by
          rw [hLY] at hc
          rcases List.mem_or_eq_of_mem_set hc with hc | rfl
          · exact HS.out.l5 c hc
          · have := HR.out.cd4 zcs (List.mem_of_getElem? hkc)
            simp; omega⟩
        have HHl : Hid (∀ (q : LV) (W : World) (m : Nat), m < L.cs.length → LandAt W q L → Calls Try.prog 33 #[landV q L, .int .i64 i, .int .i64 j, .int .i64 m] W (RetL (L.hrs i j m, 0) W)) := fun q W m hm h => by
          have h2 := Hours_any q L i j m W h HS.out; rwa [hrsE_ok HR.out p1 p2 hm HIJ.out] at h2
        have HHz : Hid (∀ (q : LV) (W : World), LandAt W q LZ → Calls Try.prog 33 #[landV q LZ, .int .i64 i, .int .i64 j, .int .i64 k] W (RetL (LZ.hrs i j k, 0) W)) := fun q W h => by
          have h2 := Hours_any q LZ i j k W h (small_of hZr.chk); rwa [hrsE_ok hZr (by rw [zs.1]; exact p1) (by rw [zs.1]; exact p2) (by rw [zs.2.2.1]; exact hk3) HIJ.out] at h2
        have HHx : Hid (LX.chk = 0 → ∀ (q : LV) (W : World), LandAt W q LX → Calls Try.prog 33 #[landV q LX, .int .i64 i, .int .i64 j, .int .i64 k] W (RetL (LX.hrs i j k, 0) W)) := fun hc q W h => by
          have h2 := Hours_any q LX i j k W h hXs; rwa [hrsE_ok (ready_chk hc (by rw [xs.1]; exact l1)) (by rw [xs.1]; exact p1) (by rw [xs.1]; exact p2) (by rw [xs.2.1]; exact hk3) HIJ.out] at h2
        have HHy : Hid (LY.chk = 0 → ∀ (q : LV) (W : World), LandAt W q LY → Calls Try.prog 33 #[landV q LY, .int .i64 i, .int .i64 j, .int .i64 k] W (RetL (LY.hrs i j k, 0) W)) := fun hc q W h => by
          have h2 := Hours_any q LY i j k W h hYs; rwa [hrsE_ok (ready_chk hc (by rw [ys.1]; exact l1)) (by rw [ys.1]; exact p1) (by rw [ys.1]; exact p2) (by rw [ys.2.2.1]; exact hk3) HIJ.out] at h2
        have HWz : Hid (∀ m, withinB (L.hrs i j m) (LZ.hrs i j k) = true) := fun m => by rw [hLZ]; exact hrs_sub rfl fun t h => can_nil hk3 h
        have HWx : Hid (withinB (LX.hrs i j k) (L.hrs i j k) = true) := by rw [Hid, hLX]; exact hrs_sub rfl fun t h => can_addRd h
        have HWy : Hid (withinB (LY.hrs i j k) (L.hrs i j k) = true) := by rw [Hid, hLY]; exact hrs_sub rfl fun t h => can_addCd hkc h
        have HLx : Hid (∀ W, Below V7.heap.size V7 W → Calls Try.prog 20 #[.agg #[.slice q1.a1 L.st.length q1.c1, .slice a' (L.rd.length + 1) c', .slice q1.a3 L.cs.length q1.c3, .slice q1.a4 L.sn.length q1.c4]] W (RetLand LX W)) := fun W hb => by
          have h := land_any ⟨q1.a1, q1.c1, a', c', q1.a3, q1.c3, q1.a4, q1.c4⟩ LX W (hXA.later hb) hXs
          rw [x2, xs.1, xs.2.1, xs.2.2] at h; exact h
        have HFx : Hid (∀ W, Below V7.heap.size V7 W → Calls Try.prog 22 #[.agg #[.slice q1.a1 L.st.length q1.c1, .slice a' (L.rd.length + 1) c', .slice q1.a3 L.cs.length q1.c3, .slice q1.a4 L.sn.length q1.c4]] W (Ret (.int .i64 LX.chk) W)) := fun W hb => by
          have h := lfault_any ⟨q1.a1, q1.c1, a', c', q1.a3, q1.c3, q1.a4, q1.c4⟩ LX W (hXA.later hb) hXs
          rw [x2, xs.1, xs.2.1, xs.2.2] at h; exact h
        have HLy : Hid (∀ W, Below V7.heap.size V7 W → Calls Try.prog 20 #[.agg #[.slice q2.a1 L.st.length q2.c1, .slice q2.a2 L.rd.length q2.c2, .slice q2.a3 L.cs.length q2.c3, .slice q2.a4 L.sn.length q2.c4]] W (RetLand LY W)) := fun W hb => by
          have h := land_any q2 LY W (hYA.later hb) hYs
          rw [ys.1, ys.2.1, ys.2.2.1, ys.2.2.2] at h; exact h
        have HFy : Hid (∀ W, Below V7.heap.size V7 W → Calls Try.prog 22 #[.agg #[.slice q2.a1 L.st.length q2.c1, .slice q2.a2 L.rd.length q2.c2, .slice q2.a3 L.cs.length q2.c3, .slice q2.a4 L.sn.length q2.c4]] W (Ret (.int .i64 LY.chk) W)) := fun W hb => by
          have h := lfault_any q2 LY W (hYA.later hb) hYs
          rw [ys.1, ys.2.1, ys.2.2.1, ys.2.2.2] at h; exact h
        have HLz : Hid (∀ W, Below V7.heap.size V7 W → Calls Try.prog 20 #[.agg #[.slice q3.a1 L.st.length q3.c1, .slice q3.a2 L.rd.length q3.c2, .slice q3.a3 L.cs.length q3.c3, .slice q3.a4 L.sn.length q3.c4]] W (RetLand LZ W)) := fun W hb => by
          have h := land_any q3 LZ W (hZA.later hb) (small_of hZr.chk)
          rw [zs.1, zs.2.1, zs.2.2.1, zs.2.2.2] at h; exact h
        have hlh : ∀ M : Land, M.sn = L.sn → (M.hrs i j k).length ≤ 1000 := fun M hM => by
          refine Nat.le_trans (sel_len _ _) ?_
          rw [hM]; omega
        have HLh := Lib.hid (show (L.hrs i j k).length ≤ 1000 ∧ (LZ.hrs i j k).length ≤ 1000 ∧ (LX.hrs i j k).length ≤ 1000 ∧ (LY.hrs i j k).length ≤ 1000 from ⟨hlh L rfl, hlh LZ zs.2.2.2, hlh LX xs.2.2, hlh LY ys.2.2.2⟩)
        have HLm : Hid (∀ m, (L.hrs i j m).length ≤ 1000) := fun m => Nat.le_trans (sel_len _ _) HS.out.l4
        rw [← HQy.out] at CY
        clear hzl hXA hYA hZA hkc hZr xs ys zs hXs hYs hlh x2 hLX hLY hLZ hX hY hZ XS XR XN XC YS YR YN hK7 but7 hV7 hgz1 hgz2 hgy1 hgy2 o12 o13 o23 xx1 xx2 xx3 y1 y2 y3 zz1 zz2 zz3 HD HKc HZ HZB HTo HGz HGy HXX HYY HW HB5 HCX HCY HCZ HC HR3 HZs HK7 HBz HOz HQy c18 t18 cgz fgz tgz
        have B16 := CX
        have B17 := CY
        have B18 := CZ
        clear CX CY CZ
        have V0 := Below.refl V7.heap.size V7
        have HWk := Lib.hid (HWz.out k)
        have HHk : Hid (∀ (q : LV) (W : World), LandAt W q L → Calls Try.prog 33 #[landV q L, .int .i64 i, .int .i64 j, .int .i64 k] W (RetL (L.hrs i j k, 0) W)) := fun q W h => HHl.out q W k hk3 h
        generalize L.hrs i j k = hl at *
        generalize LZ.hrs i j k = zl at *
        generalize LX.hrs i j k = xl at *
        generalize LY.hrs i j k = yl at *
        have c5 := B5.cell; have t5 := B5.lt; have c16 := B16.cell; have t16 := B16.lt; have c17 := B17.cell; have t17 := B17.lt; have c18 := B18.cell; have t18 := B18.lt
        go_wp2_with fail
        refine (land_any q L V7 (HL.out.later hW) HS.out).mono ?_
        rintro e v1 ⟨r1, rfl, hb1, hl1⟩
        have HL1 := Lib.hid hl1
        replace V0 := over V0 hb1
        replace hW := over hW hb1; (try clear c5 t5 c16 t16 c17 t17 c18 t18); replace B5 := B5.later hb1; replace B16 := B16.later hb1; replace B17 := B17.later hb1; replace B18 := B18.later hb1; have c5 := B5.cell; have t5 := B5.lt; have c16 := B16.cell; have t16 := B16.lt; have c17 := B17.cell; have t17 := B17.lt; have c18 := B18.cell; have t18 := B18.lt; clear hb1 hl1
        go_wp2_with fail
        refine (HHk.out r1 v1 HL1.out).mono ?_
        rintro e v2 ⟨ha, hc, rfl, hb2, hi2⟩
        have HH := Lib.hid (show IntsAt v2 ha hl from hi2)
        replace V0 := over V0 hb2
        replace hW := over hW hb2; (try clear c5 t5 c16 t16 c17 t17 c18 t18); replace B5 := B5.later hb2; replace B16 := B16.later hb2; replace B17 := B17.later hb2; replace B18 := B18.later hb2; have c5 := B5.cell; have t5 := B5.lt; have c16 := B16.cell; have t16 := B16.lt; have c17 := B17.cell; have t17 := B17.lt; have c18 := B18.cell; have t18 := B18.lt; clear hb2 hi2 HL1 HHk
        go_wp2_with fail
        refine (HLz.out v2 V0).mono ?_
        rintro e v3 ⟨r3, rfl, hb3, hl3⟩
        have HL3 := Lib.hid hl3
        replace V0 := over V0 hb3
        replace hW := over hW hb3; (try clear c5 t5 c16 t16 c17 t17 c18 t18); replace B5 := B5.later hb3; replace B16 := B16.later hb3; replace B17 := B17.later hb3; replace B18 := B18.later hb3; have c5 := B5.cell; have t5 := B5.lt; have c16 := B16.cell; have t16 := B16.lt; have c17 := B17.cell; have t17 := B17.lt; have c18 := B18.cell; have t18 := B18.lt; replace HH := Lib.hid (HH.out.later hb3); clear hb3 hl3 HLz
        go_wp2_with fail
        refine (HHz.out r3 v3 HL3.out).mono ?_
        rintro e v4 ⟨fa, fc, rfl, hb4, hi4⟩
        have HF := Lib.hid (show IntsAt v4 fa zl from hi4)
        replace V0 := over V0 hb4
        replace hW := over hW hb4; (try clear c5 t5 c16 t16 c17 t17 c18 t18); replace B5 := B5.later hb4; replace B16 := B16.later hb4; replace B17 := B17.later hb4; replace B18 := B18.later hb4; have c5 := B5.cell; have t5 := B5.lt; have c16 := B16.cell; have t16 := B16.lt; have c17 := B17.cell; have t17 := B17.lt; have c18 := B18.cell; have t18 := B18.lt; replace HH := Lib.hid (HH.out.later hb4); clear hb4 hi4 HL3 HHz
        have hwt := within_any2 hl zl ha fa hc fc v4 HH.out HF.out HLh.out.1 HLh.out.2.1
        rw [HWk.out] at hwt
        have HWt := Lib.hid hwt
        clear hwt HWk
        go_wp2_with fail
        refine HWt.out.mono ?_
        rintro e v5 ⟨rfl, hb5⟩
        replace V0 := over V0 hb5
        replace hW := over hW hb5; (try clear c5 t5 c16 t16 c17 t17 c18 t18); replace B5 := B5.later hb5; replace B16 := B16.later hb5; replace B17 := B17.later hb5; replace B18 := B18.later hb5; have c5 := B5.cell; have t5 := B5.lt; have c16 := B16.cell; have t16 := B16.lt; have c17 := B17.cell; have t17 := B17.lt; have c18 := B18.cell; have t18 := B18.lt; replace HH := Lib.hid (HH.out.later hb5); replace HF := Lib.hid (HF.out.later hb5); clear hb5 HWt
        clear B18 c18 t18
        go_wp2_with fail
        have HV0 := Lib.hid V0
        have HW5 := Lib.hid hW
        clear V0 hW
        go_loopw [24] (fun m' wr => ∃ m : Nat, m ≤ L.cs.length ∧ m' = .int .i64 m ∧ Below v5.heap.size v5 wr) (fun m' _ => L.cs.length - (intOf m').toNat)
        case atStart => exact ⟨0, Nat.zero_le _, rfl, Below.refl _ _⟩
        case round =>
          obtain ⟨m, hm, rfl, hb⟩ := hrel
          have hW := over HW5.out hb
          have V0 := over HV0.out hb
          (try clear c5 t5 c16 t16 c17 t17); replace B5 := B5.later hb; replace B16 := B16.later hb; replace B17 := B17.later hb; have c5 := B5.cell; have t5 := B5.lt; have c16 := B16.cell; have t16 := B16.lt; have c17 := B17.cell; have t17 := B17.lt
          replace HF := Lib.hid (HF.out.later hb)
          by_cases hlt : m < L.cs.length
          · have HHm := Lib.hid (fun (q : LV) (W : World) (h : LandAt W q L) => HHl.out q W m hlt h)
            have HWm := Lib.hid (HWz.out m)
            have hlm := HLm.out m
            generalize L.hrs i j m = ml at *
            have HB := Lib.hid hb
            clear hb V0
            go_wp2_with fail
            refine (land_any q L wr (HL.out.later hW) HS.out).mono ?_
            rintro e y1 ⟨r6, rfl, hc1, hl6⟩
            have HL6 := Lib.hid hl6
            replace HB := Lib.hid (over HB.out hc1)
            replace hW := over hW hc1; (try clear c5 t5); replace B5 := B5.later hc1; have c5 := B5.cell; have t5 := B5.lt; replace HF := Lib.hid (HF.out.later hc1); clear hc1 hl6
            go_wp2_with fail
            refine (HHm.out r6 y1 HL6.out).mono ?_
            rintro e y2 ⟨ma, mc, rfl, hc2, hi2⟩
            have HM := Lib.hid (show IntsAt y2 ma ml from hi2)
            replace HB := Lib.hid (over HB.out hc2)
            replace hW := over hW hc2; (try clear c5 t5); replace B5 := B5.later hc2; have c5 := B5.cell; have t5 := B5.lt; replace HF := Lib.hid (HF.out.later hc2); clear hc2 hi2 HL6 HHm
            have hwt := within_any2 ml zl ma fa mc fc y2 HM.out HF.out hlm HLh.out.2.1
            rw [HWm.out] at hwt
            have HWt := Lib.hid hwt
            clear hwt HWm
            go_wp2_with fail
            refine HWt.out.mono ?_
            rintro e y3 ⟨rfl, hc3⟩
            replace HB := Lib.hid (over HB.out hc3)
            replace hW := over hW hc3; (try clear c5 t5); replace B5 := B5.later hc3; have c5 := B5.cell; have t5 := B5.lt; clear hc3 HWt HF HM
            go_wp2_with fail
            go_roundw
            case rel => exact ⟨m + 1, by omega, by go_num, HB.out⟩
            case measure => simp [intOf]; omega
          · obtain rfl : m = L.cs.length := by omega
            replace HH := Lib.hid (HH.out.later hb)
            clear hb HF HHl HLm HWz HV0 HW5 hlt hm
            obtain ⟨xv, hxv⟩ : ∃ xv, xv = LX.chk := ⟨_, rfl⟩
            obtain ⟨yv, hyv⟩ : ∃ yv, yv = LY.chk := ⟨_, rfl⟩
            rw [← hxv] at HFx HHx
            rw [← hyv] at HFy HHy
            clear hxv hyv
            go_wp2_with fail
            refine (HFx.out wr V0).mono ?_
            rintro e y1 ⟨rfl, hc1⟩
            replace V0 := over V0 hc1
            replace hW := over hW hc1; (try clear c5 t5 c16 t16 c17 t17); replace B5 := B5.later hc1; replace B16 := B16.later hc1; replace B17 := B17.later hc1; have c5 := B5.cell; have t5 := B5.lt; have c16 := B16.cell; have t16 := B16.lt; have c17 := B17.cell; have t17 := B17.lt; replace HH := Lib.hid (HH.out.later hc1); clear hc1 HFx
            go_upto_if 150 with fail
            go_cut [27] (fun _ wx => Below y1.heap.size y1 wx)
            case first =>
              by_cases hx0 : xv = 0
              · subst hx0
                have HHx1 := Lib.hid (HHx.out rfl)
                go_wp2_with fail
                refine (HLx.out y1 V0).mono ?_
                rintro e y2 ⟨r7, rfl, hc2, hl7⟩
                have HL7 := Lib.hid hl7
                have HB := Lib.hid hc2
                replace hW := over hW hc2; (try clear c5 t5); replace B5 := B5.later hc2; have c5 := B5.cell; have t5 := B5.lt; replace HH := Lib.hid (HH.out.later hc2); clear hc2 hl7
                go_wp2_with fail
                refine (HHx1.out r7 y2 HL7.out).mono ?_
                rintro e y3 ⟨xa', xc', rfl, hc3, hi3⟩
                have HX3 := Lib.hid (show IntsAt y3 xa' xl from hi3)
                replace HB := Lib.hid (over HB.out hc3)
                replace hW := over hW hc3; (try clear c5 t5); replace B5 := B5.later hc3; have c5 := B5.cell; have t5 := B5.lt; replace HH := Lib.hid (HH.out.later hc3); clear hc3 hi3 HL7 HHx1
                have hwt := within_any2 xl hl xa' ha xc' hc y3 HX3.out HH.out HLh.out.2.2.1 HLh.out.1
                rw [HWx.out] at hwt
                have HWt := Lib.hid hwt
                clear hwt
                go_wp2_with fail
                refine HWt.out.mono ?_
                rintro e y4 ⟨rfl, hc4⟩
                replace HB := Lib.hid (over HB.out hc4)
                clear hc4
                go_wp2_with fail
                go_meet
                exact HB.out
              · have hxb : (xv == 0) = false := by simpa using hx0
                clear hx0
                go_wp2_with fail
                go_meet
                exact Below.refl _ _
            case rest =>
              replace V0 := over V0 hcut
              replace hW := over hW hcut; (try clear c5 t5 c17 t17); replace B5 := B5.later hcut; replace B17 := B17.later hcut; have c5 := B5.cell; have t5 := B5.lt; have c17 := B17.cell; have t17 := B17.lt; replace HH := Lib.hid (HH.out.later hcut); clear hcut HHx HLx HWx
              go_wp2_with fail
              refine (HFy.out wc V0).mono ?_
              rintro e y2 ⟨rfl, hc2⟩
              replace V0 := over V0 hc2
              replace hW := over hW hc2; (try clear c5 t5 c17 t17); replace B5 := B5.later hc2; replace B17 := B17.later hc2; have c5 := B5.cell; have t5 := B5.lt; have c17 := B17.cell; have t17 := B17.lt; replace HH := Lib.hid (HH.out.later hc2); clear hc2 HFy
              go_upto_if 170 with fail
              go_cut [29] (fun _ wx => Below y2.heap.size y2 wx)
              case first =>
                by_cases hy0 : yv = 0
                · subst hy0
                  have HHy1 := Lib.hid (HHy.out rfl)
                  go_wp2_with fail
                  refine (HLy.out y2 V0).mono ?_
                  rintro e y3 ⟨r7, rfl, hc3, hl7⟩
                  have HL7 := Lib.hid hl7
                  have HB := Lib.hid hc3
                  replace hW := over hW hc3; (try clear c5 t5); replace B5 := B5.later hc3; have c5 := B5.cell; have t5 := B5.lt; replace HH := Lib.hid (HH.out.later hc3); clear hc3 hl7
                  go_wp2_with fail
                  refine (HHy1.out r7 y3 HL7.out).mono ?_
                  rintro e y4 ⟨ya', yc', rfl, hc4, hi4⟩
                  have HY4 := Lib.hid (show IntsAt y4 ya' yl from hi4)
                  replace HB := Lib.hid (over HB.out hc4)
                  replace hW := over hW hc4; (try clear c5 t5); replace B5 := B5.later hc4; have c5 := B5.cell; have t5 := B5.lt; replace HH := Lib.hid (HH.out.later hc4); clear hc4 hi4 HL7 HHy1
                  have hwt := within_any2 yl hl ya' ha yc' hc y4 HY4.out HH.out HLh.out.2.2.2 HLh.out.1
                  rw [HWy.out] at hwt
                  have HWt := Lib.hid hwt
                  clear hwt
                  go_wp2_with fail
                  refine HWt.out.mono ?_
                  rintro e y5 ⟨rfl, hc5⟩
                  replace HB := Lib.hid (over HB.out hc5)
                  clear hc5
                  go_wp2_with fail
                  go_meet
                  exact HB.out
                · have hyb : (yv == 0) = false := by simpa using hy0
                  clear hy0
                  go_wp2_with fail
                  go_meet
                  exact Below.refl _ _
              case rest =>
                replace hW := over hW hcut; clear hcut 
                clear B5 c5 t5 B17 c17 t17 V0
                go_wp2_with fail
                refine (awake_any _).mono ?_
                rintro e y3 ⟨rfl, hbx⟩
                replace hW := over hW hbx; clear hbx 
                go_wp2_with fail
                go_ret
                exact ⟨rfl, hW⟩
end Go.Proofs.Ytmfnkmmbihmjnaa
