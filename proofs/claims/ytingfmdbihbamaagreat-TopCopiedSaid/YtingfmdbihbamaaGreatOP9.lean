/- Layer 5, the walks: when a station wakes; the smaller of two. -/
import Derived.Test.YtingfmdbihbamaaGreatOP8
open Go.RowKit
namespace Go.Proofs.YtingfmdbihbamaaGreat
namespace Cp
open Go.Once

theorem awk_bd {l : List Rg} (hl : ∀ r ∈ l, r.Ok 30) {h : Int} (h0 : 0 ≤ h) : h ≤ awk l h ∧ (awk l h = h ∨ awk l h ≤ 31) := by
  obtain ⟨k, hk⟩ : ∃ k, (List.range 40).find? (fun k : Nat => !slp l (h + k)) = some k := by
    rw [← Option.isSome_iff_exists, List.find?_isSome]
    exact ⟨31, by simp, by rw [slp_late hl (by omega)]; rfl⟩
  obtain ⟨h1, h2, h3⟩ := List.find?_range_eq_some.1 hk
  have h4 := awk_at hl h0 (k := k) (by simpa using h1) (fun j hj => by simpa using h3 j hj)
  rw [h4.1]
  omega

theorem asleep1_any (r : Rg) (b : Nat) (n : Int) (w : World) (B : Box w b #[.int .i64 n] 3) : Calls Tryz.prog 82 #[.agg #[.int .i64 r.lo, .int .i64 r.hi], .pointer (some ⟨b, 0, none⟩)] w (Ret (.bool (inB n r.lo r.hi)) w) := by
  go_enter Tryz.func82, Tryz.ntmps82
  go_upto_region 1 with fail
  refine named1 (p := Code.wp _ _ _ _) ?_
  intro W hW B2
  replace B := B.later hW
  have c1 := B.cell
  have t1 := B.lt
  have c2 := B2.cell; have t2 := B2.lt
  go_wp2_with fail
  refine (has_any r n _).mono ?_
  rintro e w1 ⟨rfl, hb1⟩
  replace hW := over hW hb1; (try clear c2 t2); replace B2 := B2.later hb1; have c2 := B2.cell; have t2 := B2.lt; clear hb1 
  go_wp2_with fail
  go_ret
  exact ⟨rfl, hW⟩

def hourOfBox (w : World) (b : Nat) : Int := match w.cell? ⟨b, 0, none⟩ with | some (.int _ n) => n | _ => 0
theorem box_hour {w : World} {b : Nat} {n : Int} {T : TypeId} (B : Box w b #[.int .i64 n] T) : hourOfBox w b = n := by
  unfold hourOfBox
  rw [B.cell]; rfl
set_option maxHeartbeats 1000000 in
theorem awake5_any (y : LgV) (h : Int) (w : World) (hy : LgAt w y) (ho : y.lg.Ok) (h0 : 0 ≤ h) (h1 : h ≤ 1000) : Calls Tryz.prog 50 #[.agg #[.int .i64 y.lg.lo, .int .i64 y.lg.hi, .slice y.a y.lg.as.length y.c], .int .i64 h] w (Ret (.int .i64 (awk y.lg.as h)) w) := by
  have HY := Lib.hid hy
  have HO := Lib.hid ho.as
  have hf := ho.few
  clear hy ho
  go_enter Tryz.func50, Tryz.ntmps50
  go_wp2_with fail
  refine named2 (p := Code.wp _ _ _ _) ?_
  intro W hW B2 B3
  go_loopw [] (fun wr => ∃ k : Nat, (k = 0 ∨ h + k ≤ 31) ∧ Below w.heap.size w wr ∧ Box wr w.heap.size #[.int .i64 y.lg.lo, .int .i64 y.lg.hi, .slice y.a y.lg.as.length y.c] 89 ∧ Box wr (w.heap.size + 1) #[.int .i64 (h + k)] 3 ∧ ∀ j : Nat, j < k → slp y.lg.as (h + j) = true) (fun wr => (h + 40 - hourOfBox wr (w.heap.size + 1)).toNat)
  case atStart => exact ⟨0, .inl rfl, hW, B2, by simpa using B3, by simp⟩
  case round =>
    clear hW B2 B3
    obtain ⟨k, hk, hW, B2, B3, hs⟩ := hrel
    have HS := Lib.hid hs
    have HSl : Hid (slp y.lg.as (h + k) = y.lg.as.any fun r => inB (h + k) r.lo r.hi) := rfl
    have hkb : (h + k : Int) ≤ 1040 := by omega
    have HK := Lib.hid hk
    obtain ⟨n, hn⟩ : ∃ n : Int, n = h + k := ⟨_, rfl⟩
    rw [← hn] at B3 HSl hkb
    have HN := Lib.hid hn
    have hn0 : 0 ≤ n := by omega
    clear hs hk hn
    have HM := Lib.hid (box_hour B3)
    have c2 := B2.cell; have t2 := B2.lt; have c3 := B3.cell; have t3 := B3.lt
    go_wp2_with fail
    refine (contains_rg y.lg.as y.a y.c wr (RowAt.later HY.out hW) 82 #[] #[.pointer (some ⟨w.heap.size + 1, 0, none⟩)] (fun r => inB n r.lo r.hi) (fun _ _ => by kernel_rfl) (by omega) (fun r _ w' hb' => asleep1_any r _ n w' (B3.later hb'))).mono ?_
    rintro e w2 ⟨rfl, hb2⟩
    rw [← HSl.out]
    replace hW := over hW hb2; (try clear c2 t2 c3 t3); replace B2 := B2.later hb2; replace B3 := B3.later hb2; have c2 := B2.cell; have t2 := B2.lt; have c3 := B3.cell; have t3 := B3.lt; clear hb2 
    obtain ⟨sv, hsv⟩ : ∃ sv, slp y.lg.as n = sv := ⟨_, rfl⟩
    rw [hsv]
    have HSv := Lib.hid hsv
    clear hsv HSl
    have f3 := B3.frozen
    cases sv with
    | true =>
      go_wp2_with fail
      go_roundw
      case rel =>
        have hbut := setCell_but w2 (w.heap.size + 1) 0 (.int .i64 (n + 1))
        have hN := HN.out
        refine ⟨k + 1, ?_, hbut.below hW (by omega), hbut.box B2 (by omega), ?_, fun j hj => ?_⟩
        · right
          have h2 := HSv.out
          by_cases h3 : n ≤ 30
          · omega
          · rw [slp_late HO.out (by omega)] at h2; cases h2
        · have h2 := setCell_box B3 0 (.int .i64 (n + 1))
          rw [show (h + ((k + 1 : Nat) : Int)) = n + 1 by omega]
          exact h2
        · rcases Nat.lt_succ_iff_lt_or_eq.1 hj with h2 | rfl
          · exact HS.out j h2
          · rw [← hN]; exact HSv.out
      case measure =>
        have hN := HN.out
        have hK := HK.out
        have h2 : hourOfBox (w2.setCell ⟨w.heap.size + 1, 0, none⟩ (.int .i64 (n + 1))) (w.heap.size + 1) = n + 1 := box_hour (setCell_box B3 0 (.int .i64 (n + 1)))
        rw [h2, HM.out]
        omega
    | false =>
      go_wp2_with fail
      go_ret
      have h2 := awk_at HO.out h0 (k := k) (by rw [← HN.out]; exact HSv.out) HS.out
      exact ⟨ret_int (by rw [h2.1]; exact HN.out), hW⟩

theorem ite_min (a b : Int) : (if b < a then b else a) = min a b := by split <;> omega
theorem min_any (a b : Int) (bk : Nat) (w : World) (B : Box w bk #[.int .i64 a, .int .i64 b] 3) : Calls Tryz.prog 72 #[.slice (some ⟨bk, 0, none⟩) 2 2] w (Ret (.int .i64 (min a b)) w) := by
  go_enter Tryz.func72, Tryz.ntmps72
  have c0 := B.cell
  have t0 := B.lt
  go_wp2_with fail
  clear c0 t0
  go_loopw [3, 4] (fun m i wr => ((m = .int .i64 a ∧ i = .int .i64 1) ∨ (m = .int .i64 (min a b) ∧ i = .int .i64 2)) ∧ Below w.heap.size w wr) (fun _ i _ => 2 - (intOf i).toNat)
  case atStart => exact ⟨.inl ⟨rfl, rfl⟩, Below.refl _ _⟩
  case round =>
    obtain ⟨⟨rfl, rfl⟩ | ⟨rfl, rfl⟩, hW⟩ := hrel
    · replace B := B.later hW
      have c0 := B.cell
      have t0 := B.lt
      go_wp2_with fail
      go_roundw
      case rel => exact ⟨.inr ⟨by rw [ite_min], rfl⟩, hW⟩
      case measure => decide
    · go_wp2_with fail
      go_ret
      exact ⟨rfl, hW⟩

theorem smallest_any (a b : Int) (bk : Nat) (w : World) (B : Box w bk #[.int .i64 a, .int .i64 b] 3) : Calls Tryz.prog 51 #[.slice (some ⟨bk, 0, none⟩) 2 2] w (Ret (.int .i64 (min a b)) w) := by
  have HM := Lib.hid (min_any a b bk w B)
  generalize min a b = m at *
  go_enter Tryz.func51, Tryz.ntmps51
  go_wp2_with fail
  refine HM.out.mono ?_
  rintro e w1 ⟨rfl, hb1⟩
  go_wp2_with fail
  go_ret
  exact ⟨rfl, hb1⟩

theorem deadline_any (q : PV) (p : Ps) (k : Nat) (s : Int) (w : World) (hB : PostAt w q p) (hs : p.sends[k]? = some s) (hb : 0 ≤ s ∧ s ≤ 30) (hp : 0 ≤ p.pat ∧ p.pat ≤ 30) :
    Calls Tryz.prog 32 #[postV q p, .int .i64 k] w (Ret (.int .i64 (s + p.pat)) w) := by
  obtain ⟨pb, po, ea, e0, z1⟩ := hB.send hs
  have hk := (List.getElem?_eq_some_iff.1 hs).1
  have r1 : (0 : Int) ≤ (k : Int) := by omega
  have r2 : (k : Int) < (p.sends.length : Int) := by omega
  rw [show postV q p = .agg #[.slice q.a1 p.sends.length q.c1, .slice q.a2 q.rs.length q.c2, .int .i64 p.pat] from rfl, ea]
  clear hB hs ea
  go_enter Tryz.func32, Tryz.ntmps32
  go_upto_region 1 with fail
  refine named1 (p := Code.wp _ _ _ _) ?_
  intro W hW B2
  have e1 := (hW.cell z1).trans e0
  have z2 := block_lt_of_cell e1
  have c2 := B2.cell; have t2 := B2.lt
  clear e0
  refine Fat.wp_region_tail 9 (by kernel_rfl) (by kernel_rfl) ?_
  simp only [List.take_succ_cons, List.drop_succ_cons, List.take_nil, List.drop_nil]
  repeat (go_big_quiet_step (fail))
  refine wpQuiet_nil ?_
  intro W2 hb2
  go_wp2_with fail
  go_ret
  exact ⟨rfl, over hW hb2⟩
end Cp
end Go.Proofs.YtingfmdbihbamaaGreat
