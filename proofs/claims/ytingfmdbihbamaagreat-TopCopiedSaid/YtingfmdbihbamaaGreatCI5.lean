/- Layer 5, the walks: what one dispatch by one route makes of a post: its span, whether it is surely delivered, the smallest patience. -/
import Derived.Test.YtingfmdbihbamaaGreatCI4
import Derived.WalkMore
open Go.RowKit Go.Shelf
namespace Go.Proofs.YtingfmdbihbamaaGreat
namespace Cp
open Go.Once

theorem one_bd {p : Ps} {r : Rt} {sd : Int} (h1 : One p r sd) (ho : p.Ok) : 0 ≤ loE r sd ∧ loE r sd ≤ hiE r sd ∧ hiE r sd ≤ sd + 18 ∧ sd ≤ loE r sd ∧ 0 ≤ sd ∧ sd ≤ 30 := by
  have hs := ho.sends sd (by rw [h1.sends]; simp)
  have hr := ho.routes r (by rw [h1.routes]; simp)
  have h3 := hr.l3
  have : ∀ i, i ≤ r.legs.length → 0 ≤ sumLo r.legs i ∧ sumLo r.legs i ≤ sumHi r.legs i ∧ sumHi r.legs i ≤ 6 * i := by
    intro i
    induction i with
    | zero => intro _; exact ⟨Int.le_refl _, Int.le_refl _, by simp [sumHi]⟩
    | succ i ih =>
      intro hi
      have := ih (by omega)
      obtain ⟨m, hm⟩ : ∃ m, r.legs[i]? = some m := ⟨r.legs[i], by simp⟩
      have := (hr.legs m (List.mem_of_getElem? hm)).tk
      simp only [sumLo, sumHi, hm]; omega
  have := this _ (Nat.le_refl _)
  unfold loE hiE
  omega
theorem One.pat {p : Ps} {r : Rt} {sd : Int} (h : One p r sd) (n : Int) : One { p with pat := n } r sd := ⟨h.sends, h.routes, h.lossy, h.wake⟩
theorem _root_.Go.Once.Ps.Ok.patient {p : Ps} (h : p.Ok) {n : Int} (hn : 0 ≤ n ∧ n ≤ 30) : Ps.Ok { p with pat := n } := ⟨h.s1, h.s4, h.r1, h.r3, hn, h.sends, h.rises, h.routes⟩
theorem PostAt.patient {W : World} {q : PV} {p : Ps} (h : PostAt W q p) (n : Int) : PostAt W q { p with pat := n } := by
  exact ⟨h.sends, h.row, h.rts, h.eq⟩
theorem HrsAt.but {W W' : World} {bm b : Nat} {p : Ps} {i k : Nat} {cs : Array Value} (h : HrsAt W bm p i k) (hB : Box W b cs 118) (hb : But b W W') : HrsAt W' bm p i k := by
  obtain ⟨es, clock, h1, h2, h3⟩ := h
  refine ⟨es, clock, (hb.block bm fun e => ?_).trans h1, fun e he => ?_, h3⟩
  · have h1' : W.heap[bm]? = some (.map es clock) := h1
    rw [e, show W.heap[b]? = _ from hB] at h1'; cases h1'
  · obtain ⟨i', k', g1, g2, bs, s, g3, g4, g5⟩ := h2 e he
    exact ⟨i', k', g1, g2, bs, s, g3, hb.box g4 fun e => by
      subst e
      have g4' : W.heap[bs]? = _ := g4
      rw [show W.heap[bs]? = _ from hB] at g4'
      injection g4' with g4'
      injection g4' with _ g4'
      exact absurd g4' (by decide), g5⟩
/-- The values of the drawn region: the hour, the deadline, both in a row, the smaller one. -/
def finSpec (v d : Int) (i : Nat) : Fat.Spec := if i = 5 then isSpec (.int .i64 v) else if i = 11 then isSpec (.int .i64 d) else if i = 12 then twoSpec 3 (.int .i64 v) (.int .i64 d) else isSpec (.int .i64 (min v d))
theorem finSpec_lasting (v d : Int) (i : Nat) : Fat.Lasting (finSpec v d i) := by
  unfold finSpec
  (repeat' split) <;> first | exact isSpec_lasting _ | exact twoSpec_lasting _ _ _
set_option maxRecDepth 100000 in
set_option maxHeartbeats 2000000 in
theorem finish1_any (g bw bm : Nat) (q : PV) (p : Ps) (sd v : Int) (w : World) (hw : WorkAt w bw bm q p) (hB : PostAt w q p) (ho : p.Ok) (hsd : p.sends[0]? = some sd) (hgf : ∀ args w, (callFunc g args).run Tryz.prog w = .ok (.enter g args) w)
    (hg : ∀ W, Below w.heap.size w W → Calls Tryz.prog g #[.pointer (some ⟨bw, 0, none⟩), .int .i64 0] W (Ret (.int .i64 v) W)) :
    Calls Tryz.prog 28 #[.agg #[.func (.func g) #[] #[]], .pointer (some ⟨bw, 0, none⟩), .int .i64 0] w (Ret (.int .i64 (max 0 (min v (sd + p.pat)))) w) := by
  have HW := Lib.hid hw
  have HB := Lib.hid hB
  have HO := Lib.hid ho
  have HSd := Lib.hid hsd
  have HG := Lib.hid hg
  have HGf := Lib.hid hgf
  have hsb := ho.sends sd (List.mem_of_getElem? hsd)
  have hpat := ho.pat
  clear hw hB ho hsd hg hgf
  go_enter Tryz.func28, Tryz.ntmps28
  go_wp2_with fail
  refine named1 (p := Code.wp _ _ _ _) ?_
  intro W hW B3
  go_wp2_with fail
  go_loopw [6, 10] (fun a' i' wr => ((i' = .int .i64 0 ∧ a' = .int .i64 0) ∨ (i' = .int .i64 1 ∧ a' = .int .i64 (max 0 (min v (sd + p.pat))))) ∧ Below W.heap.size W wr) (fun _ i' _ => 1 - (intOf i').toNat)
  case atStart => exact ⟨.inl ⟨rfl, rfl⟩, Below.refl _ _⟩
  case round =>
    obtain ⟨⟨rfl, rfl⟩ | ⟨rfl, rfl⟩, hb⟩ := hrel
    · have hWW := over hW hb
      replace B3 := B3.later hb
      have B0 := (HW.out.later hWW).box
      have c3 := B3.cell; have t3 := B3.lt; have c0 := B0.cell; have t0 := B0.lt
      have HHb := Lib.hid hb
      go_upto_region 4 with fail
      refine Fat.wp_region0 14 [5, 11, 12, 13] (finSpec v (sd + p.pat)) (finSpec_lasting v (sd + p.pat)) (by kernel_rfl) (by kernel_rfl) ?_
      simp only [List.take_succ_cons, List.take_zero, Fat.pick, List.contains_cons, List.contains_nil, Nat.reduceAdd, Nat.reduceBEq]
      repeat (first | simp only [Bool.or_false] | simp only [Bool.or_true] | simp only [Bool.true_or] | simp only [Bool.false_eq_true] | simp only [if_true] | simp only [if_false])
      repeat (go_big_quiet_step (fail))
      refine wpQuiet_nil ?_
      refine ⟨?_, ?_, ?_⟩
      · intro i o hi hown ho vals lo hi' W hW hdep
        simp only [List.contains_cons, List.contains_nil, Bool.or_false] at hi
        (try simp only [Bool.or_eq_true] at hi)
        simp only [beq_iff_eq] at hi
        rcases hi with rfl | rfl | rfl | rfl
        all_goals first
          | exact absurd hown (by decide)
          | (simp only [List.getElem?_cons_succ, List.getElem?_cons_zero, Option.some.injEq] at ho; subst ho; refine .inl ⟨rfl, ?_⟩; simp only [Fat.putN, Fat.dstOf, Act.put, List.getElem?_toArray, List.getElem?_cons_succ, List.getElem?_cons_zero, Option.bind_some, List.setIfInBounds_toArray, List.set_cons_succ, List.set_cons_zero])
        · go_simp
          rw [HGf.out]
          exact (HG.out W (over hWW hW)).mono fun e w'' ⟨he, h⟩ => ⟨_, he, h, rfl⟩
        · go_simp
          exact (deadline_any q p 0 sd W (HB.out.later (over hWW hW)) HSd.out hsb hpat).mono fun e w'' ⟨he, h⟩ => ⟨_, he, h, rfl⟩
        · obtain ⟨_, _, _, (hv5 : vals 5 = _)⟩ := hdep 5 rfl (by kernel_rfl)
          obtain ⟨_, _, _, (hv11 : vals 11 = _)⟩ := hdep 11 rfl (by kernel_rfl)
          rw [hv5, hv11]
          go_simp
          exact twoSpec_new _ _ _
        · obtain ⟨_, _, _, (hv12 : vals 12 = _), _, hB12⟩ := hdep 12 rfl (by kernel_rfl)
          rw [hv12]
          go_simp
          exact (smallest_any v (sd + p.pat) _ W hB12).mono fun e w'' ⟨he, h⟩ => ⟨_, he, h, rfl⟩
      · intro i o hi hown ho vals lo hi' W hW hdep
        simp only [List.contains_cons, List.contains_nil, Bool.or_false] at hi
        (try simp only [Bool.or_eq_true] at hi)
        simp only [beq_iff_eq] at hi
        rcases hi with rfl | rfl | rfl | rfl
        all_goals first
          | exact absurd (by decide) hown
          | (simp only [List.getElem?_cons_succ, List.getElem?_cons_zero, Option.some.injEq] at ho; subst ho; refine ⟨rfl, ?_⟩; simp only [Fat.putN, Fat.dstOf, Act.put, List.getElem?_toArray, List.getElem?_cons_succ, List.getElem?_cons_zero, Option.bind_some, List.setIfInBounds_toArray, List.set_cons_succ, List.set_cons_zero]; (try simp only [Option.bind_none]))
      · intro vals lo' hi' w9 hb9 hphi hdis htied
        obtain ⟨-, -, -, (q5 : vals 5 = _)⟩ := hphi 5 rfl
        obtain ⟨-, -, -, (q11 : vals 11 = _)⟩ := hphi 11 rfl
        obtain ⟨-, -, -, (q12 : vals 12 = _), -, -⟩ := hphi 12 rfl
        obtain ⟨-, -, -, (q13 : vals 13 = _)⟩ := hphi 13 rfl
        simp only [Fat.putN, Fat.dstOf, Act.put, List.getElem?_toArray, List.getElem?_cons_succ, List.getElem?_cons_zero, Option.bind_some, List.setIfInBounds_toArray, List.set_cons_succ, List.set_cons_zero, List.drop_succ_cons, List.drop_zero]
        rw [q5, q11, q12, q13]
        have hb1 := over HHb.out hb9
        clear q5 q11 q12 q13 hphi hdis htied c0 t0 c3 t3 B0 B3
        have HMx : Hid (max 0 (min v (sd + p.pat)) = if 0 < min v (sd + p.pat) then min v (sd + p.pat) else 0) := by show _ = _; split <;> omega
        obtain ⟨m, hm⟩ : ∃ m, m = min v (sd + p.pat) := ⟨_, rfl⟩
        rw [← hm] at HMx ⊢
        have HM := Lib.hid hm
        clear hm
        go_wp2_with fail
        go_roundw
        case rel => exact ⟨.inr ⟨rfl, by rw [← HM.out, HMx.out]⟩, hb1⟩
        case measure => simp [intOf]
    · go_wp2_with fail
      go_ret
      exact ⟨rfl, over hW hb⟩
end Cp
end Go.Proofs.YtingfmdbihbamaaGreat
