/- Layer 5, the walks: the smallest patience of one dispatch by one route. -/
import Derived.Test.YtingfmdbihbamaaGreatCI6
import Derived.Deep.LoopGhost
open Go.RowKit Go.Shelf
namespace Go.Proofs.YtingfmdbihbamaaGreat
namespace Cp
open Go.Once

theorem nameAny {p : World → Prop} {w : World} (h : ∀ W, W = w → p W) : p w := h w rfl
/-- A post at work, whatever its patience is. -/
structure WkAt (W : World) (bw bm : Nat) (q : PV) (p : Ps) (n : Int) : Prop where
  box : Box W bw #[.slice q.a1 p.sends.length q.c1, .slice q.a2 q.rs.length q.c2, .int .i64 n, .map (some bm)] 118
  hrs : HrsAt W bm p p.sends.length 0
theorem WkAt.later {W W' : World} {bw bm : Nat} {q : PV} {p : Ps} {n : Int} (h : WkAt W bw bm q p n) (hb : Below W.heap.size W W') : WkAt W' bw bm q p n := ⟨h.box.later hb, h.hrs.later hb⟩
theorem WkAt.work {W : World} {bw bm : Nat} {q : PV} {p : Ps} {n : Int} (h : WkAt W bw bm q p n) : WorkAt W bw bm q { p with pat := n } := ⟨h.box, h.hrs⟩
theorem WkAt.set {W V : World} {bw bm : Nat} {q : PV} {p : Ps} {n : Int} (h : WkAt W bw bm q p n) (m : Int) (hV : V = W.setCell ⟨bw, 2, none⟩ (.int .i64 m)) : WkAt V bw bm q p m := by
  subst hV
  exact ⟨setCell_box h.box 2 (.int .i64 m), h.hrs.but h.box (setCell_but _ _ _ _)⟩
set_option maxRecDepth 100000 in
set_option maxHeartbeats 4000000 in
theorem Least1_any (q : PV) (p : Ps) (r : Rt) (sd : Int) (w : World) (hB : PostAt w q p) (ho : p.Ok) (h1 : One p r sd) : Calls Tryz.prog 14 #[postV q p] w (Ret (.tuple #[.int .i64 (hiE r sd - sd), .int .i64 0]) w) := by
  obtain ⟨c0, c1, c2, c3, c4, c5⟩ := one_bd h1 ho
  obtain ⟨n0, hn0⟩ : ∃ n0 : Nat, (n0 : Int) = hiE r sd - sd := ⟨(hiE r sd - sd).toNat, by omega⟩
  obtain ⟨hv, hhv⟩ : ∃ hv, hv = hiE r sd := ⟨_, rfl⟩
  rw [← hhv] at hn0
  have hn18 : n0 ≤ 18 := by omega
  rw [← hhv, ← hn0]
  have HHv := Lib.hid hhv
  have HN0 := Lib.hid hn0
  clear c0 c1 c2 c3 c4 c5 hn0 hhv
  have HB := Lib.hid hB
  have HO := Lib.hid ho
  have HOne := Lib.hid h1
  have hsd : p.sends[0]? = some sd := by rw [h1.sends]; rfl
  have HSl : Hid (p.sends.length = 1) := by show _ = _; rw [h1.sends]; rfl
  have HSd := Lib.hid hsd
  clear hB ho h1 hsd
  go_enter Tryz.func14, Tryz.ntmps14
  go_wp2_with fail
  go_step3
  go_wp2_with fail
  refine named1 (p := fun W => Calls _ _ _ W _) ?_
  intro W hW B1
  have c1 := B1.cell; have t1 := B1.lt
  refine (checkPost_any q p W (HB.out.later hW) HO.out).mono ?_
  rintro e w1 ⟨rfl, hb1⟩
  replace hW := over hW hb1; (try clear c1 t1); replace B1 := B1.later hb1; have c1 := B1.cell; have t1 := B1.lt; clear hb1 
  go_wp2_with fail
  have hw1 : w.heap.size < w1.heap.size := t1
  refine (work_any q p _ (HB.out.later hW) HO.out).mono ?_
  rintro e w2 ⟨bw, bm, rfl, hb2, hwk, hbw⟩
  replace hbw : w.heap.size < bw := by omega
  replace hW := over hW hb2; (try clear c1 t1); replace B1 := B1.later hb2; have c1 := B1.cell; have t1 := B1.lt; clear hb2 
  have HWk := Lib.hid (WkAt.mk hwk.box hwk.hrs)
  have HB1 := Lib.hid B1
  clear hwk c1 t1 B1 hw1
  go_wp2_with fail
  go_step3
  go_wp2_with fail
  go_loopw [15] (fun i' wr => ∃ n : Nat, n ≤ n0 ∧ i' = .int .i64 n ∧ Below w.heap.size w wr ∧ (∃ pt, WkAt wr bw bm q p pt) ∧ Box wr w.heap.size #[.slice q.a1 p.sends.length q.c1, .slice q.a2 q.rs.length q.c2, .int .i64 p.pat] 61) (fun i' _ => 31 - (intOf i').toNat)
  case atStart => exact ⟨0, Nat.zero_le _, rfl, hW, ⟨_, HWk.out⟩, HB1.out⟩
  case round =>
    clear hW HWk HB1
    obtain ⟨n, hn, rfl, hW, ⟨pt, hwk⟩, B1⟩ := hrel
    have HWk := Lib.hid hwk
    have B0 := hwk.box
    have f0 := B0.frozen
    have HB1 := Lib.hid B1
    have r1 : (n : Int) < 31 := by omega
    clear hwk B1
    have c0 := B0.cell; have t0 := B0.lt
    go_upto_region 9 with fail
    refine nameAny (p := Code.wp _ _ _ _) ?_
    intro V hV
    have but0 : But bw wr V := by rw [hV]; exact setCell_but _ _ _ _
    have HWk2 := Lib.hid (HWk.out.set n hV)
    have B1 := but0.box HB1.out (by omega)
    replace hW := but0.below hW (by omega)
    have HW := Lib.hid hW
    clear hV but0 c0 t0 f0 B0 HB1 HWk r1 hW
    have c1 := B1.cell; have t1 := B1.lt
    go_wp2_with fail
    have HB1 := Lib.hid B1
    clear c1 t1 B1
    go_loopw [26] (fun j' wi => ((j' = .int .i64 0) ∨ (j' = .int .i64 1 ∧ hv ≤ sd + n)) ∧ Below V.heap.size V wi) (fun j' _ => 1 - (intOf j').toNat)
    case atStart => exact ⟨.inl rfl, Below.refl _ _⟩
    case round =>
      rename_i wi
      obtain ⟨rfl | ⟨rfl, hle⟩, hVi⟩ := hrel
      · have r1 : (0 : Int) < (p.sends.length : Int) := by have := HSl.out; omega
        have HWk3 := Lib.hid (HWk2.out.later hVi)
        have B0 := HWk3.out.box
        have hWi := over HW.out hVi
        have HWi := Lib.hid hWi
        have hsb := HO.out.sends sd (List.mem_of_getElem? HSd.out)
        have c0 := B0.cell; have t0 := B0.lt
        clear hWi
        have HVi := Lib.hid hVi
        clear hVi
        go_upto_region 12 with fail
        refine Fat.wp_region0 9 [2, 8] (fun i => if i = 2 then isSpec (.int .i64 hv) else isSpec (.int .i64 (sd + (n : Int)))) (fun i => by (repeat' split) <;> exact isSpec_lasting _) (by kernel_rfl) (by kernel_rfl) ?_
        simp only [List.take_succ_cons, List.take_zero, Fat.pick, List.contains_cons, List.contains_nil, Nat.reduceAdd, Nat.reduceBEq]
        repeat (first | simp only [Bool.or_false] | simp only [Bool.or_true] | simp only [Bool.true_or] | simp only [Bool.false_eq_true] | simp only [if_true] | simp only [if_false])
        repeat (go_big_quiet_step (fail))
        refine wpQuiet_nil ?_
        refine ⟨?_, ?_, ?_⟩
        · intro i o hi hown ho vals lo hi' W hW hdep
          simp only [List.contains_cons, List.contains_nil, Bool.or_false] at hi
          (try simp only [Bool.or_eq_true] at hi)
          simp only [beq_iff_eq] at hi
          rcases hi with rfl | rfl
          all_goals first
            | exact absurd hown (by decide)
            | (simp only [List.getElem?_cons_succ, List.getElem?_cons_zero, Option.some.injEq] at ho; subst ho; refine .inl ⟨rfl, ?_⟩; simp only [Fat.putN, Fat.dstOf, Act.put, List.getElem?_toArray, List.getElem?_cons_succ, List.getElem?_cons_zero, Option.bind_some, List.setIfInBounds_toArray, List.set_cons_succ, List.set_cons_zero])
          · go_simp
            exact (latest1_any bw bm q { p with pat := n } r sd W (HWk3.out.later hW).work ((HB.out.later (over HWi.out hW)).patient n) (HO.out.patient (by omega)) (HOne.out.pat n)).mono fun e w'' ⟨he, h⟩ => ⟨_, he, h, by rw [HHv.out]; rfl⟩
          · go_simp
            exact (deadline_any q { p with pat := n } 0 sd W ((HB.out.later (over HWi.out hW)).patient n) HSd.out hsb (by show 0 ≤ (n : Int) ∧ (n : Int) ≤ 30; omega)).mono fun e w'' ⟨he, h⟩ => ⟨_, he, h, rfl⟩
        · intro i o hi hown ho vals lo hi' W hW hdep
          simp only [List.contains_cons, List.contains_nil, Bool.or_false] at hi
          (try simp only [Bool.or_eq_true] at hi)
          simp only [beq_iff_eq] at hi
          rcases hi with rfl | rfl
          all_goals first
            | exact absurd (by decide) hown
            | (simp only [List.getElem?_cons_succ, List.getElem?_cons_zero, Option.some.injEq] at ho; subst ho; refine ⟨rfl, ?_⟩; simp only [Fat.putN, Fat.dstOf, Act.put, List.getElem?_toArray, List.getElem?_cons_succ, List.getElem?_cons_zero, Option.bind_some, List.setIfInBounds_toArray, List.set_cons_succ, List.set_cons_zero]; (try simp only [Option.bind_none]))
        · intro vals lo' hi' w9 hb9 hphi hdis htied
          obtain ⟨-, -, -, (q2 : vals 2 = _)⟩ := hphi 2 rfl
          obtain ⟨-, -, -, (q8 : vals 8 = _)⟩ := hphi 8 rfl
          simp only [Fat.putN, Fat.dstOf, Act.put, List.getElem?_toArray, List.getElem?_cons_succ, List.getElem?_cons_zero, Option.bind_some, List.setIfInBounds_toArray, List.set_cons_succ, List.set_cons_zero, List.drop_succ_cons, List.drop_zero]
          rw [q2, q8]
          have HWk4 := Lib.hid (HWk3.out.later hb9)
          have HW4 := Lib.hid (over HWi.out hb9)
          have HV4 := Lib.hid (over HVi.out hb9)
          clear q2 q8 hphi hdis htied c0 t0 B0
          by_cases hgt : sd + (n : Int) < hv
          · have hd : decide (hv > sd + (n : Int)) = true := by simpa using hgt
            have hn2 : n + 1 ≤ n0 := by have := HN0.out; omega
            have HB4 := Lib.hid (HB1.out.later (over HVi.out hb9))
            clear hgt hb9
            go_wp2_with fail
            go_roundw
            case rel => exact ⟨n + 1, hn2, by go_num, HW4.out, ⟨_, HWk4.out⟩, HB4.out⟩
            case measure => simp [intOf]; omega
          · have hd : decide (hv > sd + (n : Int)) = false := by simpa using hgt
            have hle : hv ≤ sd + (n : Int) := by omega
            have HLe := Lib.hid hle
            clear hgt hle hb9
            go_wp2_with fail
            go_roundw
            case rel => exact ⟨.inr ⟨rfl, HLe.out⟩, HV4.out⟩
            case measure => simp [intOf]
      · have r1 : ¬ (1 : Int) < (p.sends.length : Int) := by have := HSl.out; omega
        obtain rfl : n = n0 := by have := HN0.out; omega
        have HWf := Lib.hid (over HW.out hVi)
        clear hle hVi
        go_wp2_with fail
        try rw [Exit.noGoto_ret]
        go_ret2
        exact ⟨rfl, HWf.out⟩
end Cp
end Go.Proofs.YtingfmdbihbamaaGreat
