/- Layer 5, the walks: when a copy comes; what becomes of a dispatch. -/
import Derived.Test.YtingfmdbihbamaaGreatOPlay
open Go.RowKit
namespace Go.Proofs.YtingfmdbihbamaaGreat
namespace Cp
open Go.Once

set_option maxRecDepth 100000 in
set_option maxHeartbeats 2000000 in
theorem comes_any (x : RtV) (s : Int) (xs : List Int) (ta : Option Addr) (tc : Nat) (w : World) (hx : RtAt w x) (ho : x.rt.Ok) (ht : OkTakes x.rt xs) (hs : 0 ≤ s ∧ s ≤ 30) (hi : IntsAt w ta xs) :
    Calls Tryz.prog 54 #[.agg #[.slice x.a x.legs.length x.c, .bool x.lossy], .int .i64 s, .slice ta xs.length tc] w (Ret (.int .i64 (comesR x.rt s xs)) w) := by
  have HX := Lib.hid hx
  have HI := Lib.hid hi
  have HO := Lib.hid ho
  have HT := Lib.hid ht
  have hll : x.rt.legs.length = x.legs.length := by simp [RtV.rt]
  have h3 := ho.l3
  rw [hll] at h3
  by_cases hxs : xs = []
  · subst hxs
    clear hx hi ho ht hll
    go_enter Tryz.func54, Tryz.ntmps54
    go_wp2_with fail
    go_ret
    exact ⟨ret_int (by simp [comesR]), (by repeat (first | exact Below.refl _ _ | refine al ?_ _ | refine Below.drew ?_ | refine sc ?_ (by simp) _))⟩
  have hxl : xs.length = x.legs.length := by
    rcases ht with ⟨_, h⟩ | ⟨h, _⟩
    · exact absurd h hxs
    · rw [h, hll]
  have hx0 : 0 < xs.length := List.length_pos_iff.2 hxs
  have hne : ((xs.length : Int) == 0) = false := beq_eq_false_iff_ne.2 (by omega)
  have HB := Lib.hid (hourAt_bd ho ht hxs hs)
  have HXs := Lib.hid hxs
  have HLl := Lib.hid hll
  have HXl := Lib.hid hxl
  obtain ⟨tb, to_, rfl, hC⟩ := RowAt.at (k := 0) hi (by simpa using hx0)
  have HC := Lib.hid hC
  clear hx hi ho ht hxs hll hxl hC hx0
  go_enter Tryz.func54, Tryz.ntmps54
  go_wp2_with fail
  refine named1 (p := Code.wp _ _ _ _) ?_
  intro W hW B3
  clear hne
  go_loopw [1, 15] (fun v i wr => ∃ k : Nat, k ≤ x.legs.length ∧ i = .int .i64 k ∧ v = .int .i64 (hourAt x.rt.legs s xs k) ∧ Below w.heap.size w wr) (fun _ i _ => x.legs.length - (intOf i).toNat)
  case atStart => exact ⟨0, Nat.zero_le _, rfl, rfl, hW⟩
  case round =>
    clear hW B3
    obtain ⟨k, hk, rfl, rfl, hW⟩ := hrel
    by_cases hlt : k < x.legs.length
    · obtain ⟨y, hy⟩ : ∃ y, x.legs[k]? = some y := ⟨x.legs[k], by simp⟩
      obtain ⟨lb, lo, ex, f0, f1, f2, z2, hLg⟩ := (HX.out.later hW).leg hy
      have hyr : x.rt.legs[k]? = some y.lg := by simp [RtV.rt, hy]
      obtain ⟨n, hn, n1, n2⟩ := takes_at HT.out HXs.out hyr
      have hyo := HO.out.legs y.lg (List.mem_of_getElem? hyr)
      have htk := hyo.tk
      have hb := HB.out k (by rw [HLl.out]; exact hk)
      have e0 := cells_one (HC.out.later hW) hn
      have HSucc := Lib.hid (hourAt_succ (s := s) hyr hn)
      have HLg := Lib.hid hLg
      have HYo := Lib.hid hyo
      have HHb := Lib.hid hb.2.2
      obtain ⟨hb1, hb2, _⟩ := hb
      generalize hourAt x.rt.legs s xs k = hv at *
      have r1 : (0 : Int) ≤ (k : Int) := by omega
      have r2 : (k : Int) < (x.legs.length : Int) := by omega
      have r3 : (k : Int) < (xs.length : Int) := by have := HXl.out; omega
      have z1 := block_lt_of_cell e0
      rw [ex]
      clear hy ex hLg hyr hn hyo
      go_upto_region 6 with fail
      refine named1 (p := Code.wp _ _ _ _) ?_
      intro W8 hb8 B8
      replace e0 := (hb8.cell z1).trans e0
      replace HLg := Lib.hid (RowAt.later HLg.out hb8)
      replace z1 := block_lt_of_cell e0
      replace hW := over hW hb8
      clear f0 f1 f2 z2 hb8
      have c8 := B8.cell; have t8 := B8.lt
      have hWr := hW
      refine Fat.wp_region0 8 [7] (fun _ => isSpec (.int .i64 (awk y.lg.as (hv + n)))) (fun _ => isSpec_lasting _) (by kernel_rfl) (by kernel_rfl) ?_
      simp only [List.take_succ_cons, List.take_zero, Fat.pick, List.contains_cons, List.contains_nil, Nat.reduceAdd, Nat.reduceBEq]
      repeat (first | simp only [Bool.or_false] | simp only [Bool.or_true] | simp only [Bool.true_or] | simp only [Bool.false_eq_true] | simp only [if_true] | simp only [if_false])
      repeat (go_big_quiet_step (fail))
      refine wpQuiet_nil ?_
      refine ⟨?_, ?_, ?_⟩
      · intro i o hi hown ho vals lo hi' W hW hdep
        simp only [List.contains_cons, List.contains_nil, Bool.or_false] at hi
        (try simp only [Bool.or_eq_true] at hi)
        simp only [beq_iff_eq] at hi
        rcases hi with rfl
        all_goals first
          | exact absurd hown (by decide)
          | (simp only [List.getElem?_cons_succ, List.getElem?_cons_zero, Option.some.injEq] at ho; subst ho; refine .inl ⟨rfl, ?_⟩; simp only [Fat.putN, Fat.dstOf, Act.put, List.getElem?_toArray, List.getElem?_cons_succ, List.getElem?_cons_zero, Option.bind_some, List.setIfInBounds_toArray, List.set_cons_succ, List.set_cons_zero])
        go_simp
        exact (awake5_any y (hv + n) W (RowAt.later HLg.out hW) HYo.out (by omega) (by omega)).mono fun e w'' ⟨he, h⟩ => ⟨_, he, h, rfl⟩
      · intro i o hi hown ho vals lo hi' W hW hdep
        simp only [List.contains_cons, List.contains_nil, Bool.or_false] at hi
        (try simp only [Bool.or_eq_true] at hi)
        simp only [beq_iff_eq] at hi
        rcases hi with rfl
        all_goals first
          | exact absurd (by decide) hown
          | (simp only [List.getElem?_cons_succ, List.getElem?_cons_zero, Option.some.injEq] at ho; subst ho; refine ⟨rfl, ?_⟩; simp only [Fat.putN, Fat.dstOf, Act.put, List.getElem?_toArray, List.getElem?_cons_succ, List.getElem?_cons_zero, Option.bind_some, List.setIfInBounds_toArray, List.set_cons_succ, List.set_cons_zero]; (try simp only [Option.bind_none]))
      · intro vals lo' hi' w9 hb9 hphi hdis htied
        obtain ⟨_, _, _, (q7 : vals 7 = _)⟩ := hphi 7 rfl
        simp only [Fat.putN, Fat.dstOf, Act.put, List.getElem?_toArray, List.getElem?_cons_succ, List.getElem?_cons_zero, Option.bind_some, List.setIfInBounds_toArray, List.set_cons_succ, List.set_cons_zero, List.drop_succ_cons, List.drop_zero]
        rw [q7, ← HSucc.out]
        replace hW := over hWr hb9
        clear q7 hphi hdis htied hb9 c8 t8 B8 e0 z1 hWr hb1 hb2 HSucc HHb
        go_wp2_with fail
        go_roundw
        case rel => exact ⟨k + 1, by omega, by go_num, rfl, hW⟩
        case measure => first | omega | (simp [intOf]; omega)
    · obtain rfl : k = x.legs.length := by omega
      clear hk hlt
      have HRes : Hid (comesR x.rt s xs = hourAt x.rt.legs s xs x.legs.length) := by show _ = _; unfold comesR; rw [if_neg HXs.out, HLl.out]
      go_wp2_with fail
      go_ret
      exact ⟨ret_int HRes.out.symm, hW⟩

set_option maxRecDepth 100000 in
theorem receive_any (q : PV) (p : Ps) (k : Nat) (s b hv : Int) (w : World) (hB : PostAt w q p) (hs : p.sends[k]? = some s) (hsb : 0 ≤ s ∧ s ≤ 30) (hp : 0 ≤ p.pat ∧ p.pat ≤ 30) :
    Calls Tryz.prog 55 #[postV q p, .int .i64 k, .int .i64 b, .int .i64 hv] w (Ret (.agg #[.int .i64 k, .int .i64 (max b (min hv (s + p.pat))), .bool (decide (s + p.pat < hv))]) w) := by
  have HB := Lib.hid hB
  have HS := Lib.hid hs
  clear hB hs
  go_enter Tryz.func55, Tryz.ntmps55
  go_wp2_with fail
  refine named2 (p := fun W => Calls _ _ _ W _) ?_
  intro W hW B4 B8
  have c4 := B4.cell; have t4 := B4.lt; have c8 := B8.cell; have t8 := B8.lt
  refine (deadline_any q p k s W (HB.out.later hW) HS.out hsb hp).mono ?_
  rintro e w1 ⟨rfl, hb1⟩
  replace hW := over hW hb1; (try clear c4 t4 c8 t8); replace B4 := B4.later hb1; replace B8 := B8.later hb1; have c4 := B4.cell; have t4 := B4.lt; have c8 := B8.cell; have t8 := B8.lt; clear hb1 
  generalize s + p.pat = dl at *
  go_wp2_with fail
  refine named1 (p := fun W => Calls _ _ _ W _) ?_
  intro w2 hb2 B17
  replace hW := over hW hb2; (try clear c4 t4 c8 t8); replace B4 := B4.later hb2; replace B8 := B8.later hb2; have c4 := B4.cell; have t4 := B4.lt; have c8 := B8.cell; have t8 := B8.lt; clear hb2 
  refine (smallest_any hv dl _ w2 B17).mono ?_
  rintro e w3 ⟨rfl, hb3⟩
  replace hW := over hW hb3; (try clear c4 t4 c8 t8); replace B4 := B4.later hb3; replace B8 := B8.later hb3; have c4 := B4.cell; have t4 := B4.lt; have c8 := B8.cell; have t8 := B8.lt; clear hb3 
  have f8 := B8.frozen
  clear B17
  generalize min hv dl = mv at *
  have HL : Hid (Below w.heap.size w w3) := hW
  go_wp2_with fail
  · refine bodyPost_ret (v := .agg #[.int .i64 k, .int .i64 mv, .bool (decide (dl < hv))]) (by simp [results, Tryz.results55, go_sem, c8]) rfl ⟨?_, sc (sc (sc HL.out (by simp) _) (by simp) _) (by simp) _⟩
    rw [show max b mv = mv by omega]
  · refine bodyPost_ret (v := .agg #[.int .i64 k, .int .i64 b, .bool (decide (dl < hv))]) (by simp [results, Tryz.results55, go_sem, c8]) rfl ⟨?_, sc (sc (sc HL.out (by simp) _) (by simp) _) (by simp) _⟩
    rw [show max b mv = b by omega]
end Cp
end Go.Proofs.YtingfmdbihbamaaGreat
