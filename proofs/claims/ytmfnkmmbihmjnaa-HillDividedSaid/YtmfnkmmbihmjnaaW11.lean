/- The statements' own helpers: walls converted, thin lands. -/
import Derived.Test.YtmfnkmmbihmjnaaW10
open Go.RowKit
namespace Go.Proofs.Ytmfnkmmbihmjnaa
open Go.Hill

theorem wall_any (s : Wl) (w : World) : Calls Try.prog 48 #[.agg #[.int .i64 s.X1, .int .i64 s.Y1, .int .i64 s.X2, .int .i64 s.Y2, .int .i64 s.B, .int .i64 s.T]] w (Ret (.agg #[.int .i64 s.X1, .int .i64 s.Y1, .int .i64 s.X2, .int .i64 s.Y2, .int .i64 s.B, .int .i64 s.T]) w) := by
  go_enter Try.func48, Try.ntmps48
  go_wp2
  exact bodyPost_ret (v := .agg #[.int .i64 s.X1, .int .i64 s.Y1, .int .i64 s.X2, .int .i64 s.Y2, .int .i64 s.B, .int .i64 s.T]) (by simp [results, Try.results48, go_sem]) rfl ⟨rfl, (by repeat (first | exact Below.refl _ _ | refine al ?_ _ | refine Below.drew ?_ | refine sc ?_ (by simp) _))⟩

/-- A land that is thin. -/
def thinB (L : Land) : Bool := ((L.cs.take 10).all fun c => decide (c.length ≤ 7)) && decide (L.st.length ≤ 9) && decide (L.rd.length ≤ 9) && decide (L.cs.length ≤ 9) && decide (L.sn.length ≤ 15)

theorem thin_small {L : Land} (h : thinB L = true) : Small L := by
  unfold thinB at h
  simp only [Bool.and_eq_true, decide_eq_true_eq] at h
  obtain ⟨⟨⟨⟨h1, h2⟩, h3⟩, h4⟩, h5⟩ := h
  refine ⟨by omega, by omega, by omega, by omega, fun c hc => ?_⟩
  rw [List.take_of_length_le (by omega), List.all_eq_true] at h1
  have := h1 c hc
  simp at this; omega

/-- Lengths as a slice in memory has them. -/
structure Sane (L : Land) : Prop where
  l1 : L.st.length ≤ 9223372036854775807
  l2 : L.rd.length ≤ 9223372036854775807
  l3 : L.cs.length ≤ 9223372036854775807
  l4 : L.sn.length ≤ 9223372036854775807
  l5 : ∀ c ∈ L.cs, c.length ≤ 9223372036854775807

theorem take_all2 {α : Type} {p : α → Bool} {l : List α} {k n : Nat} {x : α} (hx : l[k]? = some x) (hk : k < n) (hp : p x = false) : (l.take n).all p = false := by
  rw [List.all_eq_false]
  exact ⟨x, List.mem_of_getElem? (i := k) (by rw [List.getElem?_take_of_lt hk]; exact hx), by simp [hp]⟩

set_option maxRecDepth 100000 in
set_option maxHeartbeats 1000000 in
theorem thin_any (q : LV) (L : Land) (w : World) (hL : LandAt w q L) (hs : Sane L) :
    Calls Try.prog 17 #[.agg #[.slice q.a1 L.st.length q.c1, .slice q.a2 L.rd.length q.c2, .slice q.a3 L.cs.length q.c3, .slice q.a4 L.sn.length q.c4]] w (Ret (.bool (thinB L)) w) := by
  obtain ⟨cl, hcl, hrow, hcs⟩ := hL.cs
  have hcll : cl.length = L.cs.length := by rw [← hcl]; simp
  obtain ⟨l1, l2, l3, l4, l5⟩ := hs
  have HRow := Lib.hid hrow
  have HCll := Lib.hid hcll
  have HM : Hid (∀ c ∈ cl, c.cs.length ≤ 9223372036854775807) := fun c hc => l5 c.cs (by rw [← hcl]; exact List.mem_map_of_mem hc)
  have E4 : Hid (((cl.take 10).all fun x => decide (x.cs.length ≤ 7)) = (L.cs.take 10).all fun c => decide (c.length ≤ 7)) := by rw [Hid, ← hcl, ← List.map_take, List.all_map]; rfl
  clear hL hrow hcs hcl hcll l5
  go_enter Try.func17, Try.ntmps17
  go_wp2_with fail
  refine named1 (p := Code.wp _ _ _ _) ?_
  intro W hW B1
  go_loopw [3] (fun i wr => ∃ k : Nat, k ≤ L.cs.length ∧ k ≤ 10 ∧ i = .int .i64 k ∧ Below W.heap.size W wr ∧ ((cl.take k).all fun x => decide (x.cs.length ≤ 7)) = true) (fun i _ => 10 - (intOf i).toNat)
  case atStart => exact ⟨0, Nat.zero_le _, Nat.zero_le _, rfl, Below.refl _ _, rfl⟩
  case round =>
    obtain ⟨k, hk, hk10, rfl, hb, hp⟩ := hrel
    have HP := Lib.hid hp
    clear hp
    (try clear c1 t1); replace B1 := B1.later hb; have c1 := B1.cell; have t1 := B1.lt
    by_cases hlt : k < L.cs.length ∧ k < 10
    · obtain ⟨hlt, hl10⟩ := hlt
      obtain ⟨b3, o3, ea, hC⟩ := RowAt.at (k := k) HRow.out (by rw [HCll.out]; exact hlt)
      obtain ⟨x, hx⟩ : ∃ x, cl[k]? = some x := ⟨cl[k]'(by rw [HCll.out]; exact hlt), by simp⟩
      have e0 := cells_one ((hC.later hW).later hb) hx
      have hxl := HM.out x (List.mem_of_getElem? hx)
      have HX := Lib.hid hx
      rw [ea] at c1
      clear hx hC ea
      by_cases hx7 : x.cs.length ≤ 7
      · go_wp2_with fail
        go_roundw
        case rel => exact ⟨k + 1, by omega, by omega, by go_num, hb, take_all HP.out HX.out (by simpa using hx7)⟩
        case measure => simp [intOf]; omega
      · go_wp2_with fail
        go_ret
        exact ⟨ret_bool (by rw [thinB, ← E4.out, take_all2 HX.out hl10 (by simpa using hx7)]; rfl), over hW hb⟩
    · have HQ : Hid (((L.cs.take 10).all fun c => decide (c.length ≤ 7)) = true) := by
        rw [Hid, ← E4.out]
        by_cases h10 : k = 10
        · subst h10; exact HP.out
        · rw [List.take_of_length_le (by rw [HCll.out]; omega)]
          exact take_full HP.out (by rw [HCll.out]; omega)
      have HT : Hid (thinB L = (decide (L.st.length ≤ 9) && decide (L.rd.length ≤ 9) && decide (L.cs.length ≤ 9) && decide (L.sn.length ≤ 15))) := by rw [Hid, thinB, HQ.out]; rfl
      clear HP HQ
      by_cases hkc : k < L.cs.length
      all_goals
        go_wp2_with fail
        all_goals
          go_ret
          exact ⟨ret_bool (by rw [HT.out, Bool.eq_iff_iff]; simp; omega), over hW hb⟩
end Go.Proofs.Ytmfnkmmbihmjnaa
