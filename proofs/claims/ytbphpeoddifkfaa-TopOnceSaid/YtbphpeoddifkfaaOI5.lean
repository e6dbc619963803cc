/- Layer 5, the walks: what is surely delivered. -/
import Derived.Test.YtbphpeoddifkfaaOI4
open Go.RowKit Go.Shelf
namespace Go.Proofs.Ytbphpeoddifkfaa
open Go.Once

/-- Whoever is in the list is delivered, whatever is true. -/
def SureL (p : Ps) (l : List Int) : Prop := ∀ x ∈ l, ∃ i : Nat, x = i ∧ i < p.sends.length ∧ ∀ t, Shaped p t → hourI p t i ≤ deadI p i
def RetSure (p : Ps) (w : World) (e : Ending) (w' : World) : Prop := ∃ a c l, e = .returned (.tuple #[.slice a l.length c, .int .i64 0]) ∧ Below w.heap.size w w' ∧ IntsAt w' a l ∧ SureL p l ∧ l.length ≤ p.sends.length
def lateSpec (p : Ps) (sd : Int) : Fat.Spec := fun v _ _ _ => ∃ n : Int, v = .int .i64 n ∧ 0 ≤ n ∧ n ≤ 101 ∧ LatestTo p sd p.routes.length n
theorem lateSpec_lasting (p : Ps) (sd : Int) : Fat.Lasting (lateSpec p sd) := fun _ _ _ _ _ _ _ h => h

set_option maxRecDepth 100000 in
set_option maxHeartbeats 4000000 in
theorem Surely_any (q : PV) (p : Ps) (w : World) (hB : PostAt w q p) (ho : p.Ok) : Calls Try.prog 15 #[postV q p] w (RetSure p w) := by
  have HB := Lib.hid hB
  have HO := Lib.hid ho
  have hs4 := ho.s4
  have hpat := ho.pat
  clear hB ho
  go_enter Try.func15, Try.ntmps15
  go_wp2_with fail
  refine named1 (p := fun W => Calls _ _ _ W _) ?_
  intro W hW B1
  have c1 := B1.cell; have t1 := B1.lt
  refine (checkPost_any q p W (HB.out.later hW) HO.out).mono ?_
  rintro e w1 ⟨rfl, hb1⟩
  replace hW := over hW hb1; (try clear c1 t1); replace B1 := B1.later hb1; have c1 := B1.cell; have t1 := B1.lt; clear hb1 
  go_wp2_with fail
  refine (work_any q p _ (HB.out.later hW) HO.out).mono ?_
  rintro e w2 ⟨bw, bm, rfl, hb2, hwk⟩
  have HWk := Lib.hid hwk
  replace hW := over hW hb2; (try clear c1 t1); replace B1 := B1.later hb2; have c1 := B1.cell; have t1 := B1.lt; clear hb2 hwk
  go_wp2_with fail
  clear c1 t1
  obtain ⟨w0, hw0⟩ : ∃ w0, w0 = w2 := ⟨_, rfl⟩
  have hsame : Below w0.heap.size w0 w2 := by rw [hw0]; exact Below.refl _ _
  rw [← hw0] at HWk
  have HW0 := Lib.hid (show Below w.heap.size w w0 by rw [hw0]; exact hW)
  clear hw0
  go_loopw [6, 18] (fun v i' wr => ∃ (i : Nat) (l : List Int), i ≤ p.sends.length ∧ i' = .int .i64 i ∧ Below w.heap.size w wr ∧ Below w0.heap.size w0 wr ∧ Own wr w0.heap.size 3 1 v (ivs l) ∧ l.length ≤ i ∧ SureL p l) (fun _ i' _ => p.sends.length - (intOf i').toNat)
  case atStart => exact ⟨0, [], Nat.zero_le _, rfl, hW, hsame, Own.nil _ _ _ _, Nat.zero_le _, fun x hx => by cases hx⟩
  case round =>
    clear hW hsame B1
    obtain ⟨i, l, hi, rfl, hW, hW0, hOw, hll, hSu⟩ := hrel
    have HOw := Lib.hid hOw
    have HSu := Lib.hid hSu
    clear hOw hSu
    by_cases hlt : i < p.sends.length
    · obtain ⟨sd, hsd⟩ : ∃ sd, p.sends[i]? = some sd := ⟨p.sends[i], by simp⟩
      have hsb := HO.out.sends sd (List.mem_of_getElem? hsd)
      have HSd := Lib.hid hsd
      have hw9 := HWk.out.later hW0
      have B0 := hw9.box
      clear hsd hw9
      have c0 := B0.cell; have t0 := B0.lt
      have hWr := hW
      have hWr0 := hW0
      go_upto_region 9 with fail
      refine Fat.wp_region0 9 [2, 8] (fun i => if i = 2 then lateSpec p sd else isSpec (.int .i64 (sd + p.pat))) (fun i => by (repeat' split) <;> first | exact lateSpec_lasting _ _ | exact isSpec_lasting _) (by kernel_rfl) (by kernel_rfl) ?_
      simp only [List.take_succ_cons, List.take_zero, Fat.pick, List.contains_cons, List.contains_nil, Nat.reduceAdd, Nat.reduceBEq]
      repeat (first | simp only [Bool.or_false] | simp only [Bool.or_true] | simp only [Bool.true_or] | simp only [Bool.false_eq_true] | simp only [if_true] | simp only [if_false])
      repeat (go_big_quiet_step (fail))
      refine wpQuiet_nil ?_
      refine ⟨?_, ?_, ?_⟩
      · intro i o hi hown ho vals lo hi' W hW hdep
        simp only [List.contains_cons, List.contains_nil, Bool.or_false] at hi
        (try simp only [Bool.or_eq_true] at hi)
        simp only [beq_iff_eq] at hi
        rcases hi with rfl | rfl
        all_goals first
          | exact absurd hown (by decide)
          | (simp only [List.getElem?_cons_succ, List.getElem?_cons_zero, Option.some.injEq] at ho; subst ho; refine .inl ⟨rfl, ?_⟩; simp only [Fat.putN, Fat.dstOf, Act.put, List.getElem?_toArray, List.getElem?_cons_succ, List.getElem?_cons_zero, Option.bind_some, List.setIfInBounds_toArray, List.set_cons_succ, List.set_cons_zero])
        · go_simp
          exact (latest_any bw bm q p i sd W (HWk.out.later (over hWr0 hW)) (HB.out.later (over hWr hW)) HO.out HSd.out).mono fun e w'' ⟨v, he, h, hn⟩ => ⟨v, he, h, hn⟩
        · go_simp
          exact (deadline_any q p i sd W (HB.out.later (over hWr hW)) HSd.out hsb hpat).mono fun e w'' ⟨he, h⟩ => ⟨_, he, h, rfl⟩
      · intro i o hi hown ho vals lo hi' W hW hdep
        simp only [List.contains_cons, List.contains_nil, Bool.or_false] at hi
        (try simp only [Bool.or_eq_true] at hi)
        simp only [beq_iff_eq] at hi
        rcases hi with rfl | rfl
        all_goals first
          | exact absurd (by decide) hown
          | (simp only [List.getElem?_cons_succ, List.getElem?_cons_zero, Option.some.injEq] at ho; subst ho; refine ⟨rfl, ?_⟩; simp only [Fat.putN, Fat.dstOf, Act.put, List.getElem?_toArray, List.getElem?_cons_succ, List.getElem?_cons_zero, Option.bind_some, List.setIfInBounds_toArray, List.set_cons_succ, List.set_cons_zero]; (try simp only [Option.bind_none]))
      · intro vals lo' hi' w9 hb9 hphi hdis htied
        obtain ⟨_, _, _, n, (q2 : vals 2 = _), hn0, hn1, hLt⟩ := hphi 2 rfl
        obtain ⟨_, _, _, (q8 : vals 8 = _)⟩ := hphi 8 rfl
        simp only [Fat.putN, Fat.dstOf, Act.put, List.getElem?_toArray, List.getElem?_cons_succ, List.getElem?_cons_zero, Option.bind_some, List.setIfInBounds_toArray, List.set_cons_succ, List.set_cons_zero, List.drop_succ_cons, List.drop_zero]
        rw [q2, q8]
        have HLt := Lib.hid hLt
        replace HOw := Lib.hid (HOw.out.later hb9)
        replace hW := over hWr hb9
        replace hW0 := over hWr0 hb9
        clear q2 q8 hphi hdis htied hb9 c0 t0 B0 hLt hWr hWr0
        by_cases hle : n ≤ sd + p.pat
        · have HNew : Hid (SureL p (l ++ [(i : Int)])) := fun x hx => by
            rcases List.mem_append.1 hx with hx | hx
            · exact HSu.out x hx
            · simp at hx; subst hx
              exact ⟨i, rfl, hlt, fun t ht => sure_hour HO.out HSd.out HLt.out hle ht⟩
          have hd : decide (n ≤ sd + p.pat) = true := by simpa using hle
          go_wp2_with (at_builtin; refine named1 (p := wpList _ _ _ _ _) ?_; intro w3 hb3 B3; have hO := HOw.out.later hb3; refine wpList_grow rfl (.tmp 31) (.tmp 33) 23 rfl elem_int rfl hO rfl B3 rfl (by decide) rfl (n := l.length) (by simp) (by omega) (by decide) (over hW0 hb3).size ?_; intro a' c' W' hO' hb' _; replace hW0 := (over hW0 hb3).trans hb'; replace hW := (over hW hb3).trans (hb'.mono HW0.out.size); have HO' := Lib.hid hO'; clear hO' hb' hb3 hO HOw B3)
          go_roundw
          case rel => exact ⟨i + 1, l ++ [(i : Int)], by omega, by go_num, hW, hW0, by rw [ivs, List.map_append]; exact HO'.out, by simp; omega, HNew.out⟩
          case measure => first | omega | (simp [intOf]; omega)
        · have hd : decide (n ≤ sd + p.pat) = false := by simpa using hle
          go_wp2_with fail
          go_roundw
          case rel => exact ⟨i + 1, l, by omega, by go_num, hW, hW0, HOw.out, by omega, HSu.out⟩
          case measure => first | omega | (simp [intOf]; omega)
    · obtain rfl : i = p.sends.length := by omega
      obtain ⟨ra, rc, rfl, _, hrow⟩ := HOw.out.row
      rw [show (ivs l).length = l.length from List.length_map _]
      have HRow := Lib.hid (show IntsAt wr ra l from hrow)
      clear hrow hi hlt HOw
      go_wp2_with fail
      exact bodyPost_ret (v := .tuple #[.slice ra l.length rc, .int .i64 0]) (by simp [results, Try.results15, go_sem]) rfl ⟨ra, rc, l, rfl, hW, HRow.out, HSu.out, hll⟩
end Go.Proofs.Ytbphpeoddifkfaa
