/- The statement on other orders: its walk. -/
import Derived.Test.YtmfnkmmbihmjnaaOrder1
import Derived.Test.YtmfnkmmbihmjnaaRise1
import Derived.Deep.DeepCutAuto
import Derived.Deep.CutBlock
open Go.RowKit
namespace Go.Proofs.Ytmfnkmmbihmjnaa
open Go.Hill

theorem nameAny {p : World → Prop} {w : World} (h : ∀ W, W = w → p W) : p w := h w rfl

set_option maxRecDepth 100000 in
set_option maxHeartbeats 4000000 in
theorem HillOrder_any (q : LV) (L : Land) (c bb : Nat) (w : World) (hL : LandAt w q L) (hs : Sane L) (hcc : c < 256) (hkk : bb < 256) :
    Calls Try.prog 9 #[landV q L, .int .u8 c, .int .u8 bb] w (Ret (.bool true) w) := by
  obtain ⟨tv, htv⟩ : ∃ tv, tv = readyB L := ⟨_, rfl⟩
  have HReady : Hid (∀ W, Below w.heap.size w W → Calls Try.prog 30 #[landV q L] W (Ret (.bool tv) W)) := fun W hW => by rw [htv]; exact ready_any q L W (hL.later hW) hs
  have HL := Lib.hid hL
  have HTv := Lib.hid htv
  clear hL hs htv
  go_enter Try.func9, Try.ntmps9
  go_wp2_with fail
  refine named1 (p := fun W => Calls _ _ _ W _) ?_
  intro W hW B5
  refine (HReady.out W hW).mono ?_
  rintro e w1 ⟨rfl, hb1⟩
  replace hW := over hW hb1
  (try clear c5 t5); replace B5 := B5.later hb1; have c5 := B5.cell; have t5 := B5.lt
  clear hb1 HReady
  cases tv with
  | false =>
    go_wp2_with fail
    refine (awake_any _).mono ?_
    rintro e w2 ⟨rfl, hb2⟩
    replace hW := over hW hb2
    clear hb2
    go_wp2_with fail
    go_ret
    exact ⟨rfl, hW⟩
  | true =>
    have R := ready_of HTv.out.symm
    have HR := Lib.hid R
    have HS := Lib.hid (small_of R.chk)
    obtain ⟨p1, p2, p3⟩ := pair_spec (c := c) R.st1
    have l1 := R.st1
    have l6 := R.st6
    have d6 := R.rd6
    have m4 := R.cs4
    have m1 := R.cs1
    clear R
    go_wp2_with fail
    refine (pair_any q L.st.length _ _ _ c _ l1 (by omega) hcc).mono ?_
    rintro e w2 ⟨rfl, hb2⟩
    replace hW := over hW hb2; (try clear c5 t5); replace B5 := B5.later hb2; have c5 := B5.cell; have t5 := B5.lt; clear hb2 
    generalize pairA L.st.length c = i at *
    generalize pairB L.st.length c = j at *
    have HIJ := Lib.hid p3
    clear p3
    have hlt3 : w.heap.size < w2.heap.size := t5
    go_wp2_with fail
    refine (copied_any q L w2 (HL.out.later hW) HS.out).mono ?_
    rintro e w4 ⟨q0, rfl, hb4, hR4⟩
    have hsz4 := hb4.size
    have HR4 := Lib.hid hR4
    replace hW := over hW hb4; (try clear c5 t5); replace B5 := B5.later hb4; have c5 := B5.cell; have t5 := B5.lt; clear hb4 hR4
    go_upto_region 5 with fail
    refine named1 (p := Code.wp _ _ _ _) ?_
    intro W5 hb5 B13
    replace HR4 := Lib.hid (HR4.out.later hb5)
    have hsz5 : w2.heap.size ≤ W5.heap.size := Nat.le_trans hsz4 hb5.size
    replace hW := over hW hb5; (try clear c5 t5); replace B5 := B5.later hb5; have c5 := B5.cell; have t5 := B5.lt; clear hb5 
    generalize w4.heap.size = n13 at *
    obtain ⟨x1, y1, x2, y2, x3, y3, x4, y4⟩ := q0
    simp only at B13
    obtain ⟨k, hk⟩ : ∃ k, k = bb % L.rd.length := ⟨_, rfl⟩
    have hk1 : (k : Int) = (bb : Int) % (L.rd.length : Int) := by rw [hk]; simp
    have hk2 : 0 < L.rd.length → k < L.rd.length := fun h => by rw [hk]; exact Nat.mod_lt bb h
    have hz2 : IntKind.i64.wrap (bb : Int) = (bb : Int) := IntWalk.i64_in _ (by omega)
    have HK1 := Lib.hid hk1
    have HK2 := Lib.hid hk2
    have HZ2 := Lib.hid hz2
    have hn13 : n13 < W5.heap.size := B13.lt
    clear hk hk1 hk2 hz2
    have c13 := B13.cell; have t13 := B13.lt
    go_upto_if 37 with fail
    go_cut [11] (fun _ wx => ∃ (Wm : World) (a2 : Option Addr) (c2 : Nat), Below W5.heap.size W5 Wm ∧ But n13 Wm wx ∧ Box wx n13 #[.slice x1 L.st.length y1, .slice a2 L.rd.length c2, .slice x3 L.cs.length y3, .slice x4 L.sn.length y4] 27 ∧ Own wx w2.heap.size 55 6 (.slice a2 L.rd.length c2) ((rot k L.rd).map Wl.vs))
    case first =>
      by_cases hn : 0 < L.rd.length
      · have hkl := HK2.out hn
        have hk3 := HK1.out
        have hz2 := HZ2.out
        have hk5 : (0 : Int) ≤ (bb : Int) % (L.rd.length : Int) ∧ (bb : Int) % (L.rd.length : Int) < 12 := by omega
        have hni : (0 : Int) < (L.rd.length : Int) := by omega
        go_upto_region 8 with fail
        rw [← hk3]
        clear hk3 hz2 hk5
        have r1 : (0 : Int) ≤ (k : Int) := by omega
        have r2 : (k : Int) ≤ (L.rd.length : Int) := by omega
        have hrc := HL.out.k2
        have r3 : (k : Int) ≤ (q.c2 : Int) := by omega
        have r4 : (L.rd.length : Int) ≤ (q.c2 : Int) := by omega
        have r5 : ¬ q.c2 = k := by omega
        have r6 : ¬ k = q.c2 := by omega
        obtain ⟨rb, ro, ea, hC⟩ := RowAt.at HL.out.rd hn
        rw [ea] at c5
        have hlen : (L.rd.drop k).length = L.rd.length - k := by simp
        have hlen2 : (L.rd.take k).length = k := by simp; omega
        have hCd := hC.drop k
        have hCt := hC.take k
        rw [← List.map_drop] at hCd
        rw [← List.map_take] at hCt
        have HCd := Lib.hid (show Cells w rb (ro + k * 6) 6 ((L.rd.drop k).map Wl.vs) from hCd)
        have HCt := Lib.hid (show Cells w rb ro 6 ((L.rd.take k).map Wl.vs) from hCt)
        have HLen := Lib.hid hlen
        have HLen2 := Lib.hid hlen2
        clear hC hCd hCt ea hlen hlen2
        have hWr := hW
        refine Fat.wp_region0 10 [0, 5] (fun i => if i = 0 then emptySpec 55 else ownSpec W5.heap.size 55 6 ((L.rd.drop k).map Wl.vs))
          (fun i => by split <;> first | exact emptySpec_lasting _ | exact ownSpec_lasting _ _ _ _) (by kernel_rfl) (by kernel_rfl) ?_
        simp only [List.take_succ_cons, List.take_zero, Fat.pick, List.contains_cons, List.contains_nil, Nat.reduceAdd, Nat.reduceBEq]
        repeat (first | simp only [Bool.or_false] | simp only [Bool.or_true] | simp only [Bool.true_or] | simp only [Bool.false_eq_true] | simp only [if_true] | simp only [if_false])
        repeat (go_big_quiet_step (fail))
        refine wpQuiet_nil ?_
        refine ⟨?_, ?_, ?_⟩
        · intro i o hi hown ho vals lo hi' W hW hdep
          simp only [List.contains_cons, List.contains_nil, Bool.or_false] at hi
          (try simp only [Bool.or_eq_true] at hi)
          simp only [beq_iff_eq] at hi
          rcases hi with rfl | rfl
          all_goals first
            | exact absurd hown (by decide)
            | (simp only [List.getElem?_cons_succ, List.getElem?_cons_zero, Option.some.injEq] at ho; subst ho; refine .inl ⟨rfl, ?_⟩; simp only [Fat.putN, Fat.dstOf, Act.put, List.getElem?_toArray, List.getElem?_cons_succ, List.getElem?_cons_zero, Option.bind_some, List.setIfInBounds_toArray, List.set_cons_succ, List.set_cons_zero])
          · go_simp
            exact emptySpec_new _ _
          · obtain ⟨d1, d2, d3, (d4 : emptySpec _ _ _ _ _)⟩ := hdep 0 rfl (by kernel_rfl)
            refine gives_append elem_rwl (by decide) (x := .tmp 42) (y := .tmp 46) rfl _ (lo 0) W5.heap.size ?_ d4.2.2 (by omega) _ (vs_wl _).1 (vs_wl _).2 _ _ _ rfl (by simp) (.inr ⟨_, _, rfl, (HCd.out.later hWr).later hW⟩) (by simp; omega) (by decide)
            exact d4.1
        · intro i o hi hown ho vals lo hi' W hW hdep
          simp only [List.contains_cons, List.contains_nil, Bool.or_false] at hi
          (try simp only [Bool.or_eq_true] at hi)
          simp only [beq_iff_eq] at hi
          rcases hi with rfl | rfl
          all_goals first
            | exact absurd (by decide) hown
            | (simp only [List.getElem?_cons_succ, List.getElem?_cons_zero, Option.some.injEq] at ho; subst ho; refine ⟨rfl, ?_⟩; simp only [Fat.putN, Fat.dstOf, Act.put, List.getElem?_toArray, List.getElem?_cons_succ, List.getElem?_cons_zero, Option.bind_some, List.setIfInBounds_toArray, List.set_cons_succ, List.set_cons_zero]; (try simp only [Option.bind_none]))
        · intro vals lo hi' w6 hb6 hphi hdis htied
          obtain ⟨_, _, _, (q5 : Own _ _ _ _ (vals 5) _)⟩ := hphi 5 rfl
          simp only [Fat.putN, Fat.dstOf, Act.put, List.getElem?_toArray, List.getElem?_cons_succ, List.getElem?_cons_zero, Option.bind_some, List.setIfInBounds_toArray, List.set_cons_succ, List.set_cons_zero, List.drop_succ_cons, List.drop_zero]
          clear hphi hdis htied
          generalize vals 5 = v5 at *
          generalize vals 0 = v0 at *
          refine wpList_growAll rfl (.tmp 47) (.tmp 51) 23 rfl elem_rwl (by decide) rfl q5 (b := rb) (p := ro) (m := k) rfl (by rw [List.length_map]; exact HLen2.out) ((HCt.out.later hWr).later hb6) (vs_wl _).1 (vs_wl _).2 (by simp; omega) (by omega) (by decide) hb6.size ?_
          intro a' c' W' hO' hb' hg'
          have e : ((L.rd.drop k).map Wl.vs).length + k = L.rd.length := by simp; omega
          rw [e] at hO' ⊢
          have hBm := (B13.later hb6)
          have hB : Box W' n13 _ _ := (hg'.block n13 hBm.lt fun he => own_ne q5 hBm (by decide) he.symm).trans hBm
          have hWm : Below W5.heap.size W5 W' := hb6.trans hb'
          clear q5 hg' hb' hBm c13 t13
          have c13 := hB.cell
          have t13 := hB.lt
          have f13 := hB.frozen
          have HO := Lib.hid hO'
          clear hO'
          go_wp2_with fail
          go_meet
          have hbut := setCell_but W' n13 1 (.slice a' L.rd.length c')
          refine ⟨W', a', c', hWm, hbut, setCell_box hB 1 _, ?_⟩
          rw [show (rot k L.rd).map Wl.vs = (L.rd.drop k).map Wl.vs ++ (L.rd.take k).map Wl.vs by unfold rot; simp]
          exact (HO.out.other hB (by decide) hbut).mono hsz5
      · have hni : (L.rd.length : Int) ≤ 0 := by omega
        have HN := Lib.hid hn
        clear hn
        go_wp2_with fail
        go_meet
        have hnil : L.rd = [] := List.length_eq_zero_iff.1 (by have := HN.out; omega)
        refine ⟨W5, x2, y2, Below.refl _ _, ⟨rfl, rfl, rfl, rfl, fun _ _ => rfl⟩, B13, ?_⟩
        have h := HR4.out.rd
        rw [hnil] at h ⊢
        rw [show rot k ([] : List Wl) = [] by unfold rot; simp]
        exact h
    case rest =>
      obtain ⟨Wm, a2, c2, hbm, hbut, hB, hrow⟩ := hcut
      have hwn : w.heap.size < n13 := by omega
      have hBm := B13.later hbm
      have D5 := hbut.box (B5.later hbm) (show w.heap.size ≠ n13 by omega)
      have hst := (HR4.out.st.later hbm).other hBm (by decide) hbut
      have hsn := (HR4.out.sn.later hbm).other hBm (by decide) hbut
      replace hW := hbut.below (over hW hbm) (by omega)
      simp only at hst hsn
      have HX := Lib.hid (And.intro hst (And.intro hsn hrow))
      clear hst hsn hrow hBm hbm hbut B13 c13 t13 B5 c5 t5 HR4 hsz4 hsz5 hn13 HK1 HK2 HZ2
      have B5 := D5
      have B13 := hB
      clear D5 hB
      have c5 := B5.cell; have t5 := B5.lt; have c13 := B13.cell; have t13 := B13.lt
      obtain ⟨m, hm⟩ : ∃ m, m = bb % L.cs.length := ⟨_, rfl⟩
      have hm1 : (m : Int) = (bb : Int) % (L.cs.length : Int) := by rw [hm]; simp
      have hm2 : m < L.cs.length := by rw [hm]; exact Nat.mod_lt bb m1
      have hz2 : IntKind.i64.wrap (bb : Int) = (bb : Int) := IntWalk.i64_in _ (by omega)
      have hk5 : (0 : Int) ≤ (bb : Int) % (L.cs.length : Int) ∧ (bb : Int) % (L.cs.length : Int) < 12 := by omega
      clear hm
      go_upto_region 10 with fail
      rw [← hm1]
      clear hm1 hz2 hk5
      have r1 : (0 : Int) ≤ (m : Int) := by omega
      have r2 : (m : Int) ≤ (L.cs.length : Int) := by omega
      have hrc := HL.out.k3
      have r3 : (m : Int) ≤ (q.c3 : Int) := by omega
      have r4 : (L.cs.length : Int) ≤ (q.c3 : Int) := by omega
      have r5 : ¬ q.c3 = m := by omega
      have r6 : ¬ m = q.c3 := by omega
      obtain ⟨cl, hcl, hrowc, hcs⟩ := HL.out.cs
      have hcll : cl.length = L.cs.length := by rw [← hcl]; simp
      obtain ⟨rb, ro, ea, hC⟩ := RowAt.at (k := m) hrowc (by rw [hcll]; exact hm2)
      rw [ea] at c5
      have hCd := hC.drop m
      have hCt := hC.take m
      rw [← List.map_drop, Nat.mul_one] at hCd
      rw [← List.map_take] at hCt
      have HCd := Lib.hid (show Cells w rb (ro + m) 1 ((cl.drop m).map fun x => [x.val]) from hCd)
      have HCt := Lib.hid (show Cells w rb ro 1 ((cl.take m).map fun x => [x.val]) from hCt)
      have HCl := Lib.hid hcl
      have HCs := Lib.hid hcs
      have HLen := Lib.hid hcll
      clear hC hCd hCt ea hcl hcs hrowc hcll
      have hone : ∀ l : List CV, (∀ x ∈ l.map fun x => [x.val], x.length = 1) ∧ ∀ x ∈ l.map fun x => [x.val], ∀ u ∈ x, u.oneCell' = true := fun l => by
        constructor
        · intro x hx; obtain ⟨s, _, rfl⟩ := List.mem_map.1 hx; rfl
        · intro x hx u hu; obtain ⟨s, _, rfl⟩ := List.mem_map.1 hx; simp at hu; subst hu; rfl
      have HOne := Lib.hid hone
      clear hone
      have hWr := hW
      refine Fat.wp_region0 10 [0, 5] (fun i => if i = 0 then emptySpec 59 else ownSpec wc.heap.size 59 1 ((cl.drop m).map fun x => [x.val]))
        (fun i => by split <;> first | exact emptySpec_lasting _ | exact ownSpec_lasting _ _ _ _) (by kernel_rfl) (by kernel_rfl) ?_
      simp only [List.take_succ_cons, List.take_zero, Fat.pick, List.contains_cons, List.contains_nil, Nat.reduceAdd, Nat.reduceBEq]
      repeat (first | simp only [Bool.or_false] | simp only [Bool.or_true] | simp only [Bool.true_or] | simp only [Bool.false_eq_true] | simp only [if_true] | simp only [if_false])
      repeat (go_big_quiet_step (fail))
      refine wpQuiet_nil ?_
      refine ⟨?_, ?_, ?_⟩
      · intro i o hi hown ho vals lo hi' W hW hdep
        simp only [List.contains_cons, List.contains_nil, Bool.or_false] at hi
        (try simp only [Bool.or_eq_true] at hi)
        simp only [beq_iff_eq] at hi
        rcases hi with rfl | rfl
        all_goals first
          | exact absurd hown (by decide)
          | (simp only [List.getElem?_cons_succ, List.getElem?_cons_zero, Option.some.injEq] at ho; subst ho; refine .inl ⟨rfl, ?_⟩; simp only [Fat.putN, Fat.dstOf, Act.put, List.getElem?_toArray, List.getElem?_cons_succ, List.getElem?_cons_zero, Option.bind_some, List.setIfInBounds_toArray, List.set_cons_succ, List.set_cons_zero])
        · go_simp
          exact emptySpec_new _ _
        · obtain ⟨d1, d2, d3, (d4 : emptySpec _ _ _ _ _)⟩ := hdep 0 rfl (by kernel_rfl)
          have hln := HLen.out
          refine gives_append elem_rcs (by decide) (x := .tmp 60) (y := .tmp 64) rfl _ (lo 0) wc.heap.size ?_ d4.2.2 (by omega) _ (HOne.out _).1 (HOne.out _).2 _ _ _ rfl (by simp; omega) (.inr ⟨_, _, rfl, (HCd.out.later hWr).later hW⟩) (by simp; omega) (by decide)
          exact d4.1
      · intro i o hi hown ho vals lo hi' W hW hdep
        simp only [List.contains_cons, List.contains_nil, Bool.or_false] at hi
        (try simp only [Bool.or_eq_true] at hi)
        simp only [beq_iff_eq] at hi
        rcases hi with rfl | rfl
        all_goals first
          | exact absurd (by decide) hown
          | (simp only [List.getElem?_cons_succ, List.getElem?_cons_zero, Option.some.injEq] at ho; subst ho; refine ⟨rfl, ?_⟩; simp only [Fat.putN, Fat.dstOf, Act.put, List.getElem?_toArray, List.getElem?_cons_succ, List.getElem?_cons_zero, Option.bind_some, List.setIfInBounds_toArray, List.set_cons_succ, List.set_cons_zero]; (try simp only [Option.bind_none]))
      · intro vals lo hi' w6 hb6 hphi hdis htied
        obtain ⟨_, _, _, (q5 : Own _ _ _ _ (vals 5) _)⟩ := hphi 5 rfl
        simp only [Fat.putN, Fat.dstOf, Act.put, List.getElem?_toArray, List.getElem?_cons_succ, List.getElem?_cons_zero, Option.bind_some, List.setIfInBounds_toArray, List.set_cons_succ, List.set_cons_zero, List.drop_succ_cons, List.drop_zero]
        clear hphi hdis htied
        generalize vals 5 = v5 at *
        generalize vals 0 = v0 at *
        have hln := HLen.out
        refine wpList_growAll rfl (.tmp 65) (.tmp 69) 24 rfl elem_rcs (by decide) rfl q5 (b := rb) (p := ro) (m := m) rfl (by simp; omega) ((HCt.out.later hWr).later hb6) (HOne.out _).1 (HOne.out _).2 (by simp; omega) (by omega) (by decide) hb6.size ?_
        intro a3 c3 W' hO' hb' hg'
        have e : ((cl.drop m).map fun x => [x.val]).length + m = L.cs.length := by simp; omega
        rw [e] at hO' ⊢
        have hBm := (B13.later hb6)
        have hB : Box W' n13 _ _ := (hg'.block n13 hBm.lt fun he => own_ne q5 hBm (by decide) he.symm).trans hBm
        have hWm : Below wc.heap.size wc W' := hb6.trans hb'
        have D5 := B5.later hWm
        clear q5 hg' hb' hBm c13 t13 hln c5 t5 r1 r2 r3 r4 r5 r6
        have c13 := hB.cell
        have t13 := hB.lt
        have f13 := hB.frozen
        have HO := Lib.hid hO'
        clear hO' B5 B13
        go_upto_region 11 with fail
        refine nameAny (p := Code.wp _ _ _ _) ?_
        intro V hV
        have hbut : But n13 W' V := by rw [hV]; exact setCell_but W' n13 2 _
        have B13 : Box V n13 #[.slice x1 L.st.length y1, .slice a2 L.rd.length c2, .slice a3 L.cs.length c3, .slice x4 L.sn.length y4] 27 := by rw [hV]; exact setCell_box hB 2 _
        have B5 := hbut.box D5 (show w.heap.size ≠ n13 by omega)
        have hrow3 := (HO.out.other hB (by decide) hbut).rowAt
        replace hW := hbut.below (over hWr hWm) (by omega)
        obtain ⟨hst, hsn, hrd⟩ := HX.out
        have hst := ((hst.later hWm).other hB (by decide) hbut).rowAt
        have hsn := ((hsn.later hWm).other hB (by decide) hbut).rowAt
        have hrd := ((hrd.later hWm).other hB (by decide) hbut).rowAt
        obtain ⟨L', hL'⟩ : ∃ L', L' = L.rot k m := ⟨_, rfl⟩
        have e2 : L'.rd.length = L.rd.length := by rw [hL']; exact rot_length _ _
        have e3 : L'.cs.length = L.cs.length := by rw [hL']; exact rot_length _ _
        have e1 : L'.st = L.st := by rw [hL']; rfl
        have e4 : L'.sn = L.sn := by rw [hL']; rfl
        have hLA : LandAt V ⟨x1, y1, a2, c2, a3, c3, x4, y4⟩ L' := by
          refine ⟨by rw [e1]; exact hst.2.2, by rw [hL']; exact hrd.2.2, ?_, by rw [e4]; exact hsn.2.2, by rw [e1]; simpa using hst.2.1, by rw [e2]; exact hrd.2.1, by rw [e3]; exact hrow3.2.1, by rw [e4]; simpa using hsn.2.1⟩
          rw [hL']
          refine ⟨rot m cl, ?_, ?_, fun x hx => (HCs.out x ?_).later hW⟩
          · unfold Land.rot rot
            rw [← HCl.out]; simp
          · have h := hrow3.2.2
            show RowAt V _ 1 ((rot m cl).map fun x => [x.val])
            rw [show ((rot m cl).map fun x => [x.val]) = ((cl.drop m).map fun x => [x.val]) ++ ((cl.take m).map fun x => [x.val]) by unfold rot; simp]
            exact h
          · unfold rot at hx
            rcases List.mem_append.1 hx with hx | hx
            · exact List.mem_of_mem_drop hx
            · exact List.mem_of_mem_take hx
        have hready : Ready L' := ready_chk (by rw [hL', chk_rot]; exact HR.out.chk) (by rw [e1]; exact l1)
        obtain ⟨a, hsti⟩ := some_of p1
        obtain ⟨b, hstj⟩ := some_of p2
        have halw : L'.alw i j = L.alw i j := by rw [hL']; exact alw_rot hsti hstj m1 k m
        have hris : L'.rise i j = L.rise i j := by rw [hL']; exact rise_rot L i j k m
        have q1 : i < L'.st.length := by rw [e1]; exact p1
        have q2 : j < L'.st.length := by rw [e1]; exact p2
        have HSm := Lib.hid (small_of hready.chk)
        have HAl : Hid (∀ (q : LV) (W : World), LandAt W q L → Calls Try.prog 36 #[landV q L, .int .i64 i, .int .i64 j] W (RetL (L.alw i j, 0) W)) := fun q W h => by
          have h2 := Always_any q L i j W h HS.out; rwa [alwE_ok HR.out p1 p2 HIJ.out] at h2
        have HAm : Hid (∀ (q : LV) (W : World), LandAt W q L' → Calls Try.prog 36 #[landV q L', .int .i64 i, .int .i64 j] W (RetL (L.alw i j, 0) W)) := fun q W h => by
          have h2 := Always_any q L' i j W h HSm.out; rwa [alwE_ok hready q1 q2 HIJ.out, halw] at h2
        obtain ⟨⟨rv, re⟩, hri⟩ : ∃ x, Land.riseE L i j = x := ⟨_, rfl⟩
        have HRl : Hid (∀ (q : LV) (W : World), LandAt W q L → Calls Try.prog 28 #[landV q L, .int .i64 i, .int .i64 j] W (Ret (.tuple #[.int .i64 rv, .int .i64 re]) W)) := fun q W h => by
          have h2 := Rise_any q L i j W h HS.out; rwa [hri] at h2
        have HRm : Hid (∀ (q : LV) (W : World), LandAt W q L' → Calls Try.prog 28 #[landV q L', .int .i64 i, .int .i64 j] W (Ret (.tuple #[.int .i64 rv, .int .i64 re]) W)) := fun q W h => by
          have h2 := Rise_any q L' i j W h HSm.out; rwa [riseE_ok hready q1 q2 HIJ.out, hris, ← riseE_ok HR.out p1 p2 HIJ.out, hri] at h2
        have HLm : Hid (∀ W, Below V.heap.size V W → Calls Try.prog 20 #[.agg #[.slice x1 L.st.length y1, .slice a2 L.rd.length c2, .slice a3 L.cs.length c3, .slice x4 L.sn.length y4]] W (RetLand L' W)) := fun W hb => by
          have h := land_any ⟨x1, y1, a2, c2, a3, c3, x4, y4⟩ L' W (hLA.later hb) HSm.out
          rw [e1, e2, e3, e4] at h
          exact h
        have hal : (L.alw i j).length ≤ 1000 := Nat.le_trans (sel_len _ _) HS.out.l4
        clear hLA hready halw hris q1 q2 e1 e2 e3 e4 hst hsn hrd hrow3 hbut hV hWm hWr HX HO HOne HCs HCl HCd HCt HLen D5 hB hri hL' hsti hstj t13 c13 f13
        generalize L.alw i j = al at *
        have V0 := Below.refl V.heap.size V
        have c5 := B5.cell; have t5 := B5.lt; have c13 := B13.cell; have t13 := B13.lt
        go_wp2_with fail
        refine (land_any q L V (HL.out.later hW) HS.out).mono ?_
        rintro e v1 ⟨q1, rfl, hb1, hl1⟩
        have HL1 := Lib.hid hl1
        replace V0 := over V0 hb1
        replace hW := over hW hb1; (try clear c5 t5 c13 t13); replace B5 := B5.later hb1; replace B13 := B13.later hb1; have c5 := B5.cell; have t5 := B5.lt; have c13 := B13.cell; have t13 := B13.lt; clear hb1 hl1
        go_wp2_with fail
        refine (HAl.out q1 v1 HL1.out).mono ?_
        rintro e v2 ⟨aa, ac, rfl, hb2, hi2⟩
        have HA := Lib.hid (show IntsAt v2 aa al from hi2)
        replace V0 := over V0 hb2
        replace hW := over hW hb2; (try clear c5 t5 c13 t13); replace B5 := B5.later hb2; replace B13 := B13.later hb2; have c5 := B5.cell; have t5 := B5.lt; have c13 := B13.cell; have t13 := B13.lt; clear hb2 hi2 HL1 HAl
        go_wp2_with fail
        refine (HLm.out v2 V0).mono ?_
        rintro e v3 ⟨q2, rfl, hb3, hl3⟩
        have HL3 := Lib.hid hl3
        replace V0 := over V0 hb3
        replace hW := over hW hb3; (try clear c5 t5 c13 t13); replace B5 := B5.later hb3; replace B13 := B13.later hb3; have c5 := B5.cell; have t5 := B5.lt; have c13 := B13.cell; have t13 := B13.lt; replace HA := Lib.hid (HA.out.later hb3); clear hb3 hl3
        go_wp2_with fail
        refine (HAm.out q2 v3 HL3.out).mono ?_
        rintro e v4 ⟨ba, bc, rfl, hb4, hi4⟩
        have HB := Lib.hid (show IntsAt v4 ba al from hi4)
        replace V0 := over V0 hb4
        replace hW := over hW hb4; (try clear c5 t5 c13 t13); replace B5 := B5.later hb4; replace B13 := B13.later hb4; have c5 := B5.cell; have t5 := B5.lt; have c13 := B13.cell; have t13 := B13.lt; replace HA := Lib.hid (HA.out.later hb4); clear hb4 hi4 HL3 HAm
        go_wp2_with fail
        refine (land_any q L v4 (HL.out.later hW) HS.out).mono ?_
        rintro e v5 ⟨q3, rfl, hb5, hl5⟩
        have HL5 := Lib.hid hl5
        replace V0 := over V0 hb5
        replace hW := over hW hb5; (try clear c5 t5 c13 t13); replace B5 := B5.later hb5; replace B13 := B13.later hb5; have c5 := B5.cell; have t5 := B5.lt; have c13 := B13.cell; have t13 := B13.lt; replace HA := Lib.hid (HA.out.later hb5); replace HB := Lib.hid (HB.out.later hb5); clear hb5 hl5
        go_wp2_with fail
        refine (HRl.out q3 v5 HL5.out).mono ?_
        rintro e v6 ⟨rfl, hb6⟩
        replace V0 := over V0 hb6
        replace hW := over hW hb6; (try clear c5 t5 c13 t13); replace B5 := B5.later hb6; replace B13 := B13.later hb6; have c5 := B5.cell; have t5 := B5.lt; have c13 := B13.cell; have t13 := B13.lt; replace HA := Lib.hid (HA.out.later hb6); replace HB := Lib.hid (HB.out.later hb6); clear hb6 HRl HL5
        go_wp2_with fail
        refine (HLm.out v6 V0).mono ?_
        rintro e v7 ⟨q4, rfl, hb7, hl7⟩
        have HL7 := Lib.hid hl7
        replace V0 := over V0 hb7
        replace hW := over hW hb7; (try clear c5 t5 c13 t13); replace B5 := B5.later hb7; replace B13 := B13.later hb7; have c5 := B5.cell; have t5 := B5.lt; have c13 := B13.cell; have t13 := B13.lt; replace HA := Lib.hid (HA.out.later hb7); replace HB := Lib.hid (HB.out.later hb7); clear hb7 hl7
        go_wp2_with fail
        refine (HRm.out q4 v7 HL7.out).mono ?_
        rintro e v8 ⟨rfl, hb8⟩
        replace V0 := over V0 hb8
        replace hW := over hW hb8; (try clear c5 t5 c13 t13); replace B5 := B5.later hb8; replace B13 := B13.later hb8; have c5 := B5.cell; have t5 := B5.lt; have c13 := B13.cell; have t13 := B13.lt; replace HA := Lib.hid (HA.out.later hb8); replace HB := Lib.hid (HB.out.later hb8); clear hb8 HRm HL7
        have HY := Lib.hid (ints_yes al aa ba ac bc v8 HA.out HB.out hal)
        clear HA HB hal
        go_wp2_with fail
        refine HY.out.mono ?_
        rintro e v9 ⟨rfl, hb9⟩
        replace hW := over hW hb9; clear hb9 HY
        go_wp2_with fail
        refine (awake_any _).mono ?_
        rintro e v10 ⟨rfl, hbx⟩
        replace hW := over hW hbx; clear hbx 
        go_wp2_with fail
        go_ret
        exact ⟨rfl, hW⟩
end Go.Proofs.Ytmfnkmmbihmjnaa
