/- The statements on relays: a land without a station. -/
import Derived.Test.YtfihdaoakfdlpaaRV1
import Derived.Test.YtfihdaoakfdlpaaLR2
import Derived.Test.YtfihdaoakfdlpaaRPlain12
open Go.RowKit
namespace Go.Proofs.Ytfihdaoakfdlpaa
open Go.Hill

def RetWo (L : Land) (i f t : Nat) (w : World) (e : Ending) (w' : World) : Prop :=
  ∃ q' : LV, e = .returned (.tuple #[.agg #[.slice q'.a1 (L.dropSt i).st.length q'.c1, .slice q'.a2 L.rd.length q'.c2, .slice q'.a3 L.cs.length q'.c3, .slice q'.a4 L.sn.length q'.c4], .int .i64 (dnI i f : Nat), .int .i64 (dnI i t : Nat)]) ∧ Below w.heap.size w w' ∧ LandAt w' q' (L.dropSt i)
set_option maxRecDepth 100000 in
set_option maxHeartbeats 8000000 in
theorem without_any (q : LV) (L : Land) (i f t : Nat) (w : World) (hL : LandAt w q L) (h6 : L.st.length ≤ 6) (hi : i < L.st.length) (hf : f < L.st.length) (ht : t < L.st.length) :
    Calls Try.prog 15 #[landV q L, .int .i64 i, .int .i64 f, .int .i64 t] w (RetWo L i f t w) := by
  have HL := Lib.hid hL
  have hcap := hL.k1
  obtain ⟨rb, ro, ea, hC⟩ := RowAt.at hL.st hi
  have hCt := hC.take i
  have hCd := hC.drop (i + 1)
  rw [← List.map_take] at hCt
  rw [← List.map_drop] at hCd
  have HCt := Lib.hid (show Cells w rb ro 4 ((L.st.take i).map Stn.vs) from hCt)
  have HCd := Lib.hid (show Cells w rb (ro + (i + 1) * 4) 4 ((L.st.drop (i + 1)).map Stn.vs) from hCd)
  clear hL hC hCt hCd
  go_enter Try.func15, Try.ntmps15
  go_wp2_with fail
  refine named2 (p := Code.wp _ _ _ _) ?_
  intro W5 hW5 B4 B8
  have HLt : Hid (w.heap.size + 1 < W5.heap.size) := B8.lt
  have c4 := B4.cell; have t4 := B4.lt
  have r1 : (0 : Int) ≤ (i : Int) := by omega
  have r2 : (i : Int) ≤ (L.st.length : Int) := by omega
  have r3 : (i : Int) ≤ (q.c1 : Int) := by omega
  have r4 : (L.st.length : Int) ≤ (q.c1 : Int) := by omega
  have r5 : (i : Int) + 1 ≤ (L.st.length : Int) := by omega
  have r6 : ¬ i = q.c1 := by omega
  have r7 : (i : Int) + 1 ≤ (q.c1 : Int) := by omega
  have r8 : (0 : Int) ≤ (i : Int) + 1 := by omega
  refine Fat.wp_region0 11 [0, 5] (fun k => if k = 0 then emptySpec 77 else ownSpec W5.heap.size 77 4 ((L.st.take i).map Stn.vs))
    (fun k => by split <;> first | exact emptySpec_lasting _ | exact ownSpec_lasting _ _ _ _) (by kernel_rfl) (by kernel_rfl) ?_
  simp only [List.take_succ_cons, List.take_zero, Fat.pick, List.contains_cons, List.contains_nil, Nat.reduceAdd, Nat.reduceBEq]
  repeat (first | simp only [Bool.or_false] | simp only [Bool.or_true] | simp only [Bool.true_or] | simp only [Bool.false_eq_true] | simp only [if_true] | simp only [if_false])
  repeat (go_big_quiet_step (fail))
  refine wpQuiet_nil ?_
  refine ⟨?_, ?_, ?_⟩
  · intro i o hi hown ho vals lo hi' W hW hdep
    simp only [List.contains_cons, List.contains_nil, Bool.or_false] at hi
    (try simp only [Bool.or_eq_true] at hi)
    simp only [beq_iff_eq] at hi
    rcases hi with rfl | rfl
    all_goals first
      | exact absurd hown (by decide)
      | (simp only [List.getElem?_cons_succ, List.getElem?_cons_zero, Option.some.injEq] at ho; subst ho; refine .inl ⟨rfl, ?_⟩; simp only [Fat.putN, Fat.dstOf, Act.put, List.getElem?_toArray, List.getElem?_cons_succ, List.getElem?_cons_zero, Option.bind_some, List.setIfInBounds_toArray, List.set_cons_succ, List.set_cons_zero])
    · go_simp
      exact emptySpec_new _ _
    · obtain ⟨d1, d2, d3, (d4 : emptySpec _ _ _ _ _)⟩ := hdep 0 rfl (by kernel_rfl)
      refine gives_append elem_rst (by decide) (x := .tmp 11) (y := .tmp 15) rfl _ (lo 0) W5.heap.size ?_ d4.2.2 (by omega) _ (vs_st _).1 (vs_st _).2 _ _ _ rfl (by simp; omega) (.inr ⟨_, _, rfl, (HCt.out.later hW5).later hW⟩) (by simp; omega) (by decide)
      exact d4.1
  · intro i o hi hown ho vals lo hi' W hW hdep
    simp only [List.contains_cons, List.contains_nil, Bool.or_false] at hi
    (try simp only [Bool.or_eq_true] at hi)
    simp only [beq_iff_eq] at hi
    rcases hi with rfl | rfl
    all_goals first
      | exact absurd (by decide) hown
      | (simp only [List.getElem?_cons_succ, List.getElem?_cons_zero, Option.some.injEq] at ho; subst ho; refine ⟨rfl, ?_⟩; simp only [Fat.putN, Fat.dstOf, Act.put, List.getElem?_toArray, List.getElem?_cons_succ, List.getElem?_cons_zero, Option.bind_some, List.setIfInBounds_toArray, List.set_cons_succ, List.set_cons_zero]; (try simp only [Option.bind_none]))
  · intro vals lo hi' w6 hb6 hphi hdis htied
    obtain ⟨_, _, _, (q5 : Own _ _ _ _ (vals 5) _)⟩ := hphi 5 rfl
    simp only [Fat.putN, Fat.dstOf, Act.put, List.getElem?_toArray, List.getElem?_cons_succ, List.getElem?_cons_zero, Option.bind_some, List.setIfInBounds_toArray, List.set_cons_succ, List.set_cons_zero, List.drop_succ_cons, List.drop_zero]
    clear hphi hdis htied
    generalize vals 5 = v5 at *
    generalize vals 0 = v0 at *
    obtain ⟨p, hp, hcp⟩ : ∃ p, (if q.c1 = i + 1 then some (⟨rb, ro, none⟩ : Addr) else some ⟨rb, ro + (i + 1) * 4, none⟩) = some ⟨rb, p, none⟩ ∧ Cells w rb p 4 ((L.st.drop (i + 1)).map Stn.vs) := by
      by_cases he : q.c1 = i + 1
      · refine ⟨ro, if_pos he, fun k x hx => ?_⟩
        have h0 : L.st.drop (i + 1) = [] := List.drop_eq_nil_of_le (by omega)
        rw [h0] at hx
        simp at hx
      · exact ⟨ro + (i + 1) * 4, if_neg he, HCd.out⟩
    rw [hp]
    refine wpList_growAll rfl (.tmp 16) (.tmp 21) 22 rfl elem_rst (by decide) rfl q5 (b := rb) (p := p) (m := L.st.length - (i + 1)) rfl (by simp) ((hcp.later hW5).later hb6) (vs_st _).1 (vs_st _).2 (by simp; omega) (by omega) (by decide) hb6.size ?_
    intro a' c' W' hO' hb' hg'
    have e : ((L.st.take i).map Stn.vs).length + (L.st.length - (i + 1)) = L.st.length - 1 := by simp; omega
    have e2 : (L.st.take i).map Stn.vs ++ (L.st.drop (i + 1)).map Stn.vs = (L.dropSt i).st.map Stn.vs := by
      unfold Land.dropSt
      simp only
      rw [← List.map_append, List.eraseIdx_eq_take_drop_succ]
    rw [e, e2] at hO'
    rw [e]
    have hlx : (L.dropSt i).st.length = L.st.length - 1 := by unfold Land.dropSt; simp [List.length_eraseIdx, hi]
    rw [← hlx] at hO' ⊢
    have hB4 := B4.later hb6
    have hB8 := B8.later hb6
    have B4b : Box W' w.heap.size _ _ := (hg'.block w.heap.size hB4.lt fun he => own_ne q5 hB4 (by decide) he.symm).trans hB4
    have B8b : Box W' (w.heap.size + 1) _ _ := (hg'.block (w.heap.size + 1) hB8.lt fun he => own_ne q5 hB8 (by decide) he.symm).trans hB8
    have hWm : Below W5.heap.size W5 W' := hb6.trans hb'
    have HO := Lib.hid hO'
    have HB4 := Lib.hid B4b
    have HB8 := Lib.hid B8b
    have HWm := Lib.hid hWm
    have c4 := B4b.cell
    have t4 := B4b.lt
    have f4 := B4b.frozen
    clear q5 hg' hb' hB4 hB8 B4 B8 hO' hWm hp hcp e e2 hlx B4b B8b hb6 r1 r2 r3 r4 r5 r6 r7 r8
    go_upto_region 2 with fail
    refine nameAny (p := Code.wp _ _ _ _) ?_
    intro V hV
    have hbut := setCell_but W' w.heap.size 0 (.slice a' (L.dropSt i).st.length c')
    rw [← hV] at hbut
    have hWv : Below w.heap.size w V := hbut.below (over hW5 HWm.out) (Nat.le_refl _)
    have B4 : Box V w.heap.size #[.slice a' (L.dropSt i).st.length c', .slice q.a2 L.rd.length q.c2, .slice q.a3 L.cs.length q.c3, .slice q.a4 L.sn.length q.c4] 27 := by rw [hV]; exact setCell_box HB4.out 0 _
    have B8 := hbut.box HB8.out (by omega)
    have hw5 : w.heap.size + 1 < W5.heap.size := HLt.out
    have HOv := Lib.hid (HO.out.but hbut (by omega))
    have HW5l : Hid (w.heap.size + 1 < W5.heap.size) := hw5
    have HWv := Lib.hid hWv
    have c4 := B4.cell; have t4 := B4.lt
    clear hw5 hWv hV hbut HO HB4 HB8 HWm t4 f4 HCt HCd hcap
    clear ea
    by_cases h1 : i < f
    · have e1 : (f : Int) - 1 = ((f - 1 : Nat) : Int) := by omega
      have HD1 : Hid (((f - 1 : Nat) : Int) = (dnI i f : Nat)) := by show _ = _; unfold dnI; rw [if_pos h1]
      by_cases h2 : i < t
      · have e2 : (t : Int) - 1 = ((t - 1 : Nat) : Int) := by omega
        have HD2 : Hid (((t - 1 : Nat) : Int) = (dnI i t : Nat)) := by show _ = _; unfold dnI; rw [if_pos h2]
        go_wp2_with (with_reducible refine wpList_store_box rfl rfl 27 (.tmp 8) (.tmp 34) rfl _ #[.slice a' (L.dropSt i).st.length c', .slice q.a2 L.rd.length q.c2, .slice q.a3 L.cs.length q.c3, .slice q.a4 L.sn.length q.c4] rfl rfl B8 rfl (by kernel_rfl) rfl ?_; intro W9 B9 hbut9; have c9 := B9.cell; have t9 := B9.lt)
        refine bodyPost_ret (v := .tuple #[.agg #[.slice a' (L.dropSt i).st.length c', .slice q.a2 L.rd.length q.c2, .slice q.a3 L.cs.length q.c3, .slice q.a4 L.sn.length q.c4], .int .i64 (dnI i f : Nat), .int .i64 (dnI i t : Nat)]) (by simp [results, Try.results15, go_sem, c9, ← HD1.out, ← HD2.out]; (try omega)) rfl ⟨⟨a', c', q.a2, q.c2, q.a3, q.c3, q.a4, q.c4⟩, rfl, hbut9.below HWv.out (by omega), ?_⟩
        have h9 := HL.out.later (hbut9.below HWv.out (by omega))
        obtain ⟨a2, c2, e, hle, hr⟩ := (HOv.out.but hbut9 HW5l.out).row
        simp only [List.length_map, Value.slice.injEq] at e hle
        obtain ⟨rfl, _, rfl⟩ := e
        exact ⟨hr, h9.rd, h9.cs, h9.sn, hle, h9.k2, h9.k3, h9.k4⟩
      · have HD2 : Hid (((t : Nat) : Int) = (dnI i t : Nat)) := by show _ = _; unfold dnI; rw [if_neg h2]
        go_wp2_with (with_reducible refine wpList_store_box rfl rfl 27 (.tmp 8) (.tmp 34) rfl _ #[.slice a' (L.dropSt i).st.length c', .slice q.a2 L.rd.length q.c2, .slice q.a3 L.cs.length q.c3, .slice q.a4 L.sn.length q.c4] rfl rfl B8 rfl (by kernel_rfl) rfl ?_; intro W9 B9 hbut9; have c9 := B9.cell; have t9 := B9.lt)
        refine bodyPost_ret (v := .tuple #[.agg #[.slice a' (L.dropSt i).st.length c', .slice q.a2 L.rd.length q.c2, .slice q.a3 L.cs.length q.c3, .slice q.a4 L.sn.length q.c4], .int .i64 (dnI i f : Nat), .int .i64 (dnI i t : Nat)]) (by simp [results, Try.results15, go_sem, c9, ← HD1.out, ← HD2.out]; (try omega)) rfl ⟨⟨a', c', q.a2, q.c2, q.a3, q.c3, q.a4, q.c4⟩, rfl, hbut9.below HWv.out (by omega), ?_⟩
        have h9 := HL.out.later (hbut9.below HWv.out (by omega))
        obtain ⟨a2, c2, e, hle, hr⟩ := (HOv.out.but hbut9 HW5l.out).row
        simp only [List.length_map, Value.slice.injEq] at e hle
        obtain ⟨rfl, _, rfl⟩ := e
        exact ⟨hr, h9.rd, h9.cs, h9.sn, hle, h9.k2, h9.k3, h9.k4⟩
    · have HD1 : Hid (((f : Nat) : Int) = (dnI i f : Nat)) := by show _ = _; unfold dnI; rw [if_neg h1]
      by_cases h2 : i < t
      · have e2 : (t : Int) - 1 = ((t - 1 : Nat) : Int) := by omega
        have HD2 : Hid (((t - 1 : Nat) : Int) = (dnI i t : Nat)) := by show _ = _; unfold dnI; rw [if_pos h2]
        go_wp2_with (with_reducible refine wpList_store_box rfl rfl 27 (.tmp 8) (.tmp 34) rfl _ #[.slice a' (L.dropSt i).st.length c', .slice q.a2 L.rd.length q.c2, .slice q.a3 L.cs.length q.c3, .slice q.a4 L.sn.length q.c4] rfl rfl B8 rfl (by kernel_rfl) rfl ?_; intro W9 B9 hbut9; have c9 := B9.cell; have t9 := B9.lt)
        refine bodyPost_ret (v := .tuple #[.agg #[.slice a' (L.dropSt i).st.length c', .slice q.a2 L.rd.length q.c2, .slice q.a3 L.cs.length q.c3, .slice q.a4 L.sn.length q.c4], .int .i64 (dnI i f : Nat), .int .i64 (dnI i t : Nat)]) (by simp [results, Try.results15, go_sem, c9, ← HD1.out, ← HD2.out]; (try omega)) rfl ⟨⟨a', c', q.a2, q.c2, q.a3, q.c3, q.a4, q.c4⟩, rfl, hbut9.below HWv.out (by omega), ?_⟩
        have h9 := HL.out.later (hbut9.below HWv.out (by omega))
        obtain ⟨a2, c2, e, hle, hr⟩ := (HOv.out.but hbut9 HW5l.out).row
        simp only [List.length_map, Value.slice.injEq] at e hle
        obtain ⟨rfl, _, rfl⟩ := e
        exact ⟨hr, h9.rd, h9.cs, h9.sn, hle, h9.k2, h9.k3, h9.k4⟩
      · have HD2 : Hid (((t : Nat) : Int) = (dnI i t : Nat)) := by show _ = _; unfold dnI; rw [if_neg h2]
        go_wp2_with (with_reducible refine wpList_store_box rfl rfl 27 (.tmp 8) (.tmp 34) rfl _ #[.slice a' (L.dropSt i).st.length c', .slice q.a2 L.rd.length q.c2, .slice q.a3 L.cs.length q.c3, .slice q.a4 L.sn.length q.c4] rfl rfl B8 rfl (by kernel_rfl) rfl ?_; intro W9 B9 hbut9; have c9 := B9.cell; have t9 := B9.lt)
        refine bodyPost_ret (v := .tuple #[.agg #[.slice a' (L.dropSt i).st.length c', .slice q.a2 L.rd.length q.c2, .slice q.a3 L.cs.length q.c3, .slice q.a4 L.sn.length q.c4], .int .i64 (dnI i f : Nat), .int .i64 (dnI i t : Nat)]) (by simp [results, Try.results15, go_sem, c9, ← HD1.out, ← HD2.out]; (try omega)) rfl ⟨⟨a', c', q.a2, q.c2, q.a3, q.c3, q.a4, q.c4⟩, rfl, hbut9.below HWv.out (by omega), ?_⟩
        have h9 := HL.out.later (hbut9.below HWv.out (by omega))
        obtain ⟨a2, c2, e, hle, hr⟩ := (HOv.out.but hbut9 HW5l.out).row
        simp only [List.length_map, Value.slice.injEq] at e hle
        obtain ⟨rfl, _, rfl⟩ := e
        exact ⟨hr, h9.rd, h9.cs, h9.sn, hle, h9.k2, h9.k3, h9.k4⟩
end Go.Proofs.Ytfihdaoakfdlpaa
