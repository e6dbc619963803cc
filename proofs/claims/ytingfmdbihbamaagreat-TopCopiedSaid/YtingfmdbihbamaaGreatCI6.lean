/- Layer 5, the walks: Spans, Surely and Least of one dispatch by one route. -/
import Derived.Test.YtingfmdbihbamaaGreatCI5
open Go.RowKit Go.Shelf
namespace Go.Proofs.YtingfmdbihbamaaGreat
namespace Cp
open Go.Once

def lowF (p : Ps) (r : Rt) (sd : Int) : Int := max 0 (min (loE r sd) (sd + p.pat))
def highF (p : Ps) (r : Rt) (sd : Int) : Int := max 0 (min (hiE r sd) (sd + p.pat))
def spanSpec (T : TypeId) (a b : Int) (i : Nat) : Fat.Spec := if i = 4 then isSpec (.int .i64 a) else if i = 8 then isSpec (.int .i64 b) else if i = 9 then isSpec (.agg #[.int .i64 a, .int .i64 b]) else oneSpec T #[.int .i64 a, .int .i64 b]
theorem spanSpec_lasting (T : TypeId) (a b : Int) (i : Nat) : Fat.Lasting (spanSpec T a b i) := by
  unfold spanSpec
  (repeat' split) <;> first | exact isSpec_lasting _ | exact oneSpec_lasting _ _
/-- One range in a row. -/
def RetSpan (a b : Int) (w : World) (e : Ending) (w' : World) : Prop := ∃ ad c, e = .returned (.tuple #[.slice ad 1 c, .int .i64 0]) ∧ Below w.heap.size w w' ∧ RowAt w' ad 2 [[.int .i64 a, .int .i64 b]]
theorem enters_earliest : ∀ args w, (callFunc 26 args).run Tryz.prog w = .ok (.enter 26 args) w := fun _ _ => by kernel_rfl
theorem enters_latest : ∀ args w, (callFunc 27 args).run Tryz.prog w = .ok (.enter 27 args) w := fun _ _ => by kernel_rfl
set_option maxRecDepth 100000 in
set_option maxHeartbeats 4000000 in
theorem Spans1_any (q : PV) (p : Ps) (r : Rt) (sd : Int) (w : World) (hB : PostAt w q p) (ho : p.Ok) (h1 : One p r sd) : Calls Tryz.prog 11 #[postV q p] w (RetSpan (lowF p r sd) (highF p r sd) w) := by
  obtain ⟨fa, hfa⟩ : ∃ fa, fa = lowF p r sd := ⟨_, rfl⟩
  obtain ⟨fb, hfb⟩ : ∃ fb, fb = highF p r sd := ⟨_, rfl⟩
  rw [← hfa, ← hfb]
  have HFa := Lib.hid hfa
  have HFb := Lib.hid hfb
  clear hfa hfb
  have HB := Lib.hid hB
  have HO := Lib.hid ho
  have HOne := Lib.hid h1
  have hsd : p.sends[0]? = some sd := by rw [h1.sends]; rfl
  have HSl : Hid (p.sends.length = 1) := by show _ = _; rw [h1.sends]; rfl
  have hpat := ho.pat
  have HSd := Lib.hid hsd
  clear hB ho h1 hsd
  go_enter Tryz.func11, Tryz.ntmps11
  go_wp2_with fail
  refine named1 (p := fun W => Calls _ _ _ W _) ?_
  intro W hW B1
  have c1 := B1.cell; have t1 := B1.lt
  refine (checkPost_any q p W (HB.out.later hW) HO.out).mono ?_
  rintro e w1 ⟨rfl, hb1⟩
  replace hW := over hW hb1; (try clear c1 t1); replace B1 := B1.later hb1; have c1 := B1.cell; have t1 := B1.lt; clear hb1 
  go_wp2_with fail
  refine (work_any q p _ (HB.out.later hW) HO.out).mono ?_
  rintro e w2 ⟨bw, bm, rfl, hb2, hwk, -⟩
  have HWk := Lib.hid hwk
  replace hW := over hW hb2; (try clear c1 t1); replace B1 := B1.later hb2; have c1 := B1.cell; have t1 := B1.lt; clear hb2 hwk
  go_upto_region 7 with fail
  refine named2 (p := Code.wp _ _ _ _) ?_
  intro W3 hb3 B6 B7
  replace HWk := Lib.hid (HWk.out.later hb3)
  replace hW := over hW hb3; (try clear c1 t1); replace B1 := B1.later hb3; have c1 := B1.cell; have t1 := B1.lt; clear hb3 
  have hl1 : ∀ W, Below W3.heap.size W3 W → Calls Tryz.prog 28 #[.agg #[.func (.func 26) #[] #[]], .pointer (some ⟨bw, 0, none⟩), .int .i64 0] W (Ret (.int .i64 (lowF p r sd)) W) := fun W hb =>
    finish1_any _ bw bm q p sd _ W (HWk.out.later hb) (HB.out.later (over hW hb)) HO.out HSd.out enters_earliest (fun W' hb' => earliest1_any bw bm q p r sd W' (HWk.out.later (over hb hb')) (HB.out.later (over (over hW hb) hb')) HO.out HOne.out)
  have hl2 : ∀ W, Below W3.heap.size W3 W → Calls Tryz.prog 28 #[.agg #[.func (.func 27) #[] #[]], .pointer (some ⟨bw, 0, none⟩), .int .i64 0] W (Ret (.int .i64 (highF p r sd)) W) := fun W hb =>
    finish1_any _ bw bm q p sd _ W (HWk.out.later hb) (HB.out.later (over hW hb)) HO.out HSd.out enters_latest (fun W' hb' => latest1_any bw bm q p r sd W' (HWk.out.later (over hb hb')) (HB.out.later (over (over hW hb) hb')) HO.out HOne.out)
  rw [← HFa.out] at hl1
  rw [← HFb.out] at hl2
  have HL1 := Lib.hid hl1
  have HL2 := Lib.hid hl2
  clear hl1 hl2
  obtain ⟨w0, hw0⟩ : ∃ w0, w0 = W3 := ⟨_, rfl⟩
  have hsame : Below w0.heap.size w0 W3 := by rw [hw0]; exact Below.refl _ _
  rw [← hw0] at HL1 HL2 B6 B7
  have HW0 := Lib.hid (show Below w.heap.size w w0 by rw [hw0]; exact hW)
  have HB6 := Lib.hid B6
  have HB7 := Lib.hid B7
  clear hw0 B6 B7
  go_wp2_with fail
  clear c1 t1 B1
  go_loopw [8, 22] (fun v i' wr => ((i' = .int .i64 0 ∧ Own wr w0.heap.size 66 2 v [] ∧ v = .slice none 0 0) ∨ (i' = .int .i64 1 ∧ ∃ ad c, v = .slice ad 1 c ∧ RowAt wr ad 2 [[.int .i64 fa, .int .i64 fb]])) ∧ Below w.heap.size w wr ∧ Below w0.heap.size w0 wr) (fun _ i' _ => 1 - (intOf i').toNat)
  case atStart => exact ⟨.inl ⟨rfl, Own.nil _ _ _ _, rfl⟩, hW, hsame⟩
  case round =>
    clear hW hsame
    obtain ⟨⟨rfl, hOw, rfl⟩ | ⟨rfl, ad, c, rfl, hrow⟩, hW, hW0⟩ := hrel
    · have r1 : (0 : Int) < (p.sends.length : Int) := by have := HSl.out; omega
      have B6 := HB6.out.later hW0
      have B7 := HB7.out.later hW0
      have HOw := Lib.hid hOw
      clear hOw
      have c6 := B6.cell; have t6 := B6.lt; have c7 := B7.cell; have t7 := B7.lt
      have hWr := hW
      have hWr0 := hW0
      go_upto_region 10 with fail
      refine Fat.wp_region0 11 [4, 8, 9, 10] (spanSpec 66 fa fb) (spanSpec_lasting _ fa fb) (by kernel_rfl) (by kernel_rfl) ?_
      simp only [List.take_succ_cons, List.take_zero, Fat.pick, List.contains_cons, List.contains_nil, Nat.reduceAdd, Nat.reduceBEq]
      repeat (first | simp only [Bool.or_false] | simp only [Bool.or_true] | simp only [Bool.true_or] | simp only [Bool.false_eq_true] | simp only [if_true] | simp only [if_false])
      repeat (go_big_quiet_step (fail))
      refine wpQuiet_nil ?_
      refine ⟨?_, ?_, ?_⟩
      · intro i o hi hown ho vals lo hi' W hW hdep
        simp only [List.contains_cons, List.contains_nil, Bool.or_false] at hi
        (try simp only [Bool.or_eq_true] at hi)
        simp only [beq_iff_eq] at hi
        rcases hi with rfl | rfl | rfl | rfl
        all_goals first
          | exact absurd hown (by decide)
          | (simp only [List.getElem?_cons_succ, List.getElem?_cons_zero, Option.some.injEq] at ho; subst ho; refine .inl ⟨rfl, ?_⟩; simp only [Fat.putN, Fat.dstOf, Act.put, List.getElem?_toArray, List.getElem?_cons_succ, List.getElem?_cons_zero, Option.bind_some, List.setIfInBounds_toArray, List.set_cons_succ, List.set_cons_zero])
        · go_simp
          exact (HL1.out W (over hWr0 hW)).mono fun e w'' ⟨he, h⟩ => ⟨_, he, h, rfl⟩
        · go_simp
          exact (HL2.out W (over hWr0 hW)).mono fun e w'' ⟨he, h⟩ => ⟨_, he, h, rfl⟩
        · obtain ⟨_, _, _, (hv4 : vals 4 = _)⟩ := hdep 4 rfl (by kernel_rfl)
          obtain ⟨_, _, _, (hv8 : vals 8 = _)⟩ := hdep 8 rfl (by kernel_rfl)
          rw [hv4, hv8]
          go_simp
          exact ⟨Below.refl _ _, rfl⟩
        · obtain ⟨_, _, _, (hv9 : vals 9 = _)⟩ := hdep 9 rfl (by kernel_rfl)
          rw [hv9]
          go_simp
          exact oneSpec_new _ _ _
      · intro i o hi hown ho vals lo hi' W hW hdep
        simp only [List.contains_cons, List.contains_nil, Bool.or_false] at hi
        (try simp only [Bool.or_eq_true] at hi)
        simp only [beq_iff_eq] at hi
        rcases hi with rfl | rfl | rfl | rfl
        all_goals first
          | exact absurd (by decide) hown
          | (simp only [List.getElem?_cons_succ, List.getElem?_cons_zero, Option.some.injEq] at ho; subst ho; refine ⟨rfl, ?_⟩; simp only [Fat.putN, Fat.dstOf, Act.put, List.getElem?_toArray, List.getElem?_cons_succ, List.getElem?_cons_zero, Option.bind_some, List.setIfInBounds_toArray, List.set_cons_succ, List.set_cons_zero]; (try simp only [Option.bind_none]))
      · intro vals lo' hi' w9 hb9 hphi hdis htied
        obtain ⟨-, -, -, (q4 : vals 4 = _)⟩ := hphi 4 rfl
        obtain ⟨-, -, -, (q8 : vals 8 = _)⟩ := hphi 8 rfl
        obtain ⟨-, -, -, (q9 : vals 9 = _)⟩ := hphi 9 rfl
        obtain ⟨-, -, -, (q10 : vals 10 = _), -, (BN : Box w9 (lo' 10) _ _)⟩ := hphi 10 rfl
        simp only [Fat.putN, Fat.dstOf, Act.put, List.getElem?_toArray, List.getElem?_cons_succ, List.getElem?_cons_zero, Option.bind_some, List.setIfInBounds_toArray, List.set_cons_succ, List.set_cons_zero, List.drop_succ_cons, List.drop_zero]
        rw [q4, q8, q9, q10]
        clear q4 q8 q9 q10 hphi hdis htied c6 t6 c7 t7
        generalize lo' 10 = g9 at *
        have hO9 := HOw.out.later hb9
        refine wpList_grow rfl (.tmp 25) (.tmp 35) 56 rfl elem_rg rfl hO9 rfl BN rfl (by decide) rfl (n := 0) (by simp) (by omega) (by decide) (over hWr0 hb9).size ?_
        intro a' c' W' hO' hb' _
        have hW1 := (over hWr hb9).trans (hb'.mono HW0.out.size)
        have hW2 := (over hWr0 hb9).trans hb'
        have HO' := Lib.hid hO'
        clear hO' hb' hb9 hO9 HOw BN
        go_wp2_with fail
        go_roundw
        case rel => exact ⟨.inr ⟨rfl, a', c', rfl, HO'.out.rowAt.2.2⟩, hW1, hW2⟩
        case measure => simp [intOf]
    · have HRow := Lib.hid hrow
      have r1 : ¬ (1 : Int) < (p.sends.length : Int) := by have := HSl.out; omega
      clear hrow
      go_wp2_with fail
      exact bodyPost_ret (v := .tuple #[.slice ad 1 c, .int .i64 0]) (by simp [results, Tryz.results11, go_sem]) rfl ⟨ad, c, rfl, hW, HRow.out⟩
/-- So many are surely delivered. -/
def RetMany (m : Nat) (w : World) (e : Ending) (w' : World) : Prop := ∃ ad c, e = .returned (.tuple #[.slice ad m c, .int .i64 0]) ∧ Below w.heap.size w w'
set_option maxRecDepth 100000 in
set_option maxHeartbeats 4000000 in
theorem Surely1_any (q : PV) (p : Ps) (r : Rt) (sd : Int) (w : World) (hB : PostAt w q p) (ho : p.Ok) (h1 : One p r sd) : Calls Tryz.prog 13 #[postV q p] w (RetMany (if hiE r sd ≤ sd + p.pat then 1 else 0) w) := by
  obtain ⟨m, hm⟩ : ∃ m : Nat, m = if hiE r sd ≤ sd + p.pat then 1 else 0 := ⟨_, rfl⟩
  rw [← hm]
  have HM := Lib.hid hm
  clear hm
  have HB := Lib.hid hB
  have HO := Lib.hid ho
  have HOne := Lib.hid h1
  have hsd : p.sends[0]? = some sd := by rw [h1.sends]; rfl
  have HSl : Hid (p.sends.length = 1) := by show _ = _; rw [h1.sends]; rfl
  have hpat := ho.pat
  have HSd := Lib.hid hsd
  clear hB ho h1 hsd
  go_enter Tryz.func13, Tryz.ntmps13
  go_wp2_with fail
  refine named1 (p := fun W => Calls _ _ _ W _) ?_
  intro W hW B1
  have c1 := B1.cell; have t1 := B1.lt
  refine (checkPost_any q p W (HB.out.later hW) HO.out).mono ?_
  rintro e w1 ⟨rfl, hb1⟩
  replace hW := over hW hb1; (try clear c1 t1); replace B1 := B1.later hb1; have c1 := B1.cell; have t1 := B1.lt; clear hb1 
  go_wp2_with fail
  refine (work_any q p _ (HB.out.later hW) HO.out).mono ?_
  rintro e w2 ⟨bw, bm, rfl, hb2, hwk, -⟩
  have HWk := Lib.hid hwk
  replace hW := over hW hb2; (try clear c1 t1); replace B1 := B1.later hb2; have c1 := B1.cell; have t1 := B1.lt; clear hb2 hwk
  go_wp2_with fail
  clear c1 t1
  obtain ⟨w0, hw0⟩ : ∃ w0, w0 = w2 := ⟨_, rfl⟩
  have hsame : Below w0.heap.size w0 w2 := by rw [hw0]; exact Below.refl _ _
  rw [← hw0] at HWk
  have HW0 := Lib.hid (show Below w.heap.size w w0 by rw [hw0]; exact hW)
  clear hw0
  go_loopw [6, 18] (fun v i' wr => ((i' = .int .i64 0 ∧ v = .slice none 0 0) ∨ (i' = .int .i64 1 ∧ ∃ ad c, v = .slice ad m c)) ∧ Below w.heap.size w wr ∧ Below w0.heap.size w0 wr) (fun _ i' _ => 1 - (intOf i').toNat)
  case atStart => exact ⟨.inl ⟨rfl, rfl⟩, hW, hsame⟩
  case round =>
    clear hW hsame B1
    obtain ⟨⟨rfl, rfl⟩ | ⟨rfl, ad, c, rfl⟩, hW, hW0⟩ := hrel
    · have r1 : (0 : Int) < (p.sends.length : Int) := by have := HSl.out; omega
      have hw9 := HWk.out.later hW0
      have B0 := hw9.box
      clear hw9
      have c0 := B0.cell; have t0 := B0.lt
      have hWr := hW
      have hWr0 := hW0
      have hsb := HO.out.sends sd (List.mem_of_getElem? HSd.out)
      obtain ⟨hv, hhv⟩ : ∃ hv, hv = hiE r sd := ⟨_, rfl⟩
      have HHv := Lib.hid hhv
      clear hhv
      go_upto_region 9 with fail
      refine Fat.wp_region0 9 [2, 8] (fun i => if i = 2 then isSpec (.int .i64 hv) else isSpec (.int .i64 (sd + p.pat))) (fun i => by (repeat' split) <;> exact isSpec_lasting _) (by kernel_rfl) (by kernel_rfl) ?_
      simp only [List.take_succ_cons, List.take_zero, Fat.pick, List.contains_cons, List.contains_nil, Nat.reduceAdd, Nat.reduceBEq]
      repeat (first | simp only [Bool.or_false] | simp only [Bool.or_true] | simp only [Bool.true_or] | simp only [Bool.false_eq_true] | simp only [if_true] | simp only [if_false])
      repeat (go_big_quiet_step (fail))
      refine wpQuiet_nil ?_
      refine ⟨?_, ?_, ?_⟩
      · intro i o hi hown ho vals lo hi' W hW hdep
        simp only [List.contains_cons, List.contains_nil, Bool.or_false] at hi
        (try simp only [Bool.or_eq_true] at hi)
        simp only [beq_iff_eq] at hi
        rcases hi with rfl | rfl
        all_goals first
          | exact absurd hown (by decide)
          | (simp only [List.getElem?_cons_succ, List.getElem?_cons_zero, Option.some.injEq] at ho; subst ho; refine .inl ⟨rfl, ?_⟩; simp only [Fat.putN, Fat.dstOf, Act.put, List.getElem?_toArray, List.getElem?_cons_succ, List.getElem?_cons_zero, Option.bind_some, List.setIfInBounds_toArray, List.set_cons_succ, List.set_cons_zero])
        · go_simp
          exact (latest1_any bw bm q p r sd W (HWk.out.later (over hWr0 hW)) (HB.out.later (over hWr hW)) HO.out HOne.out).mono fun e w'' ⟨he, h⟩ => ⟨_, he, h, by rw [HHv.out]; rfl⟩
        · go_simp
          exact (deadline_any q p 0 sd W (HB.out.later (over hWr hW)) HSd.out hsb hpat).mono fun e w'' ⟨he, h⟩ => ⟨_, he, h, rfl⟩
      · intro i o hi hown ho vals lo hi' W hW hdep
        simp only [List.contains_cons, List.contains_nil, Bool.or_false] at hi
        (try simp only [Bool.or_eq_true] at hi)
        simp only [beq_iff_eq] at hi
        rcases hi with rfl | rfl
        all_goals first
          | exact absurd (by decide) hown
          | (simp only [List.getElem?_cons_succ, List.getElem?_cons_zero, Option.some.injEq] at ho; subst ho; refine ⟨rfl, ?_⟩; simp only [Fat.putN, Fat.dstOf, Act.put, List.getElem?_toArray, List.getElem?_cons_succ, List.getElem?_cons_zero, Option.bind_some, List.setIfInBounds_toArray, List.set_cons_succ, List.set_cons_zero]; (try simp only [Option.bind_none]))
      · intro vals lo' hi' w9 hb9 hphi hdis htied
        obtain ⟨-, -, -, (q2 : vals 2 = _)⟩ := hphi 2 rfl
        obtain ⟨-, -, -, (q8 : vals 8 = _)⟩ := hphi 8 rfl
        simp only [Fat.putN, Fat.dstOf, Act.put, List.getElem?_toArray, List.getElem?_cons_succ, List.getElem?_cons_zero, Option.bind_some, List.setIfInBounds_toArray, List.set_cons_succ, List.set_cons_zero, List.drop_succ_cons, List.drop_zero]
        rw [q2, q8]
        replace hW := over hWr hb9
        replace hW0 := over hWr0 hb9
        clear q2 q8 hphi hdis htied hb9 c0 t0 B0 hWr hWr0
        by_cases hle : hv ≤ sd + p.pat
        · have hm1 : m = 1 := by rw [HM.out, ← HHv.out, if_pos hle]
          have HM1 := Lib.hid hm1
          have hd : decide (hv ≤ sd + p.pat) = true := by simpa using hle
          have HOw := Lib.hid (Own.nil w9 w0.heap.size 3 1)
          clear hm1 hle
          go_wp2_with (at_builtin; refine named1 (p := wpList _ _ _ _ _) ?_; intro w3 hb3 B3; have hO := HOw.out.later hb3; refine wpList_grow rfl (.tmp 31) (.tmp 33) 41 rfl elem_int rfl hO rfl B3 rfl (by decide) rfl (n := 0) (by simp) (by omega) (by decide) (over hW0 hb3).size ?_; intro a' c' W' hO' hb' _; replace hW0 := (over hW0 hb3).trans hb'; replace hW := (over hW hb3).trans (hb'.mono HW0.out.size); clear hO' hb' hb3 hO HOw B3)
          go_roundw
          case rel => exact ⟨.inr ⟨rfl, a', c', by rw [HM1.out]⟩, hW, hW0⟩
          case measure => simp [intOf]
        · have hm1 : m = 0 := by rw [HM.out, ← HHv.out, if_neg hle]
          have HM1 := Lib.hid hm1
          have hd : decide (hv ≤ sd + p.pat) = false := by simpa using hle
          clear hm1 hle
          go_wp2_with fail
          go_roundw
          case rel => exact ⟨.inr ⟨rfl, none, 0, by rw [HM1.out]⟩, hW, hW0⟩
          case measure => simp [intOf]
    · have r1 : ¬ (1 : Int) < (p.sends.length : Int) := by have := HSl.out; omega
      go_wp2_with fail
      exact bodyPost_ret (v := .tuple #[.slice ad m c, .int .i64 0]) (by simp [results, Tryz.results13, go_sem]) rfl ⟨ad, c, rfl, hW⟩
end Cp
end Go.Proofs.YtingfmdbihbamaaGreat
