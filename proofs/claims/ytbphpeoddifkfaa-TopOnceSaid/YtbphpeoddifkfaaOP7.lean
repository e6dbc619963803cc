/- Layer 5, the walks: a truth converted. -/
import Derived.Test.YtbphpeoddifkfaaOP6
open Go.RowKit
namespace Go.Proofs.Ytbphpeoddifkfaa
open Go.Once

theorem cells_iv {W : World} {b o k : Nat} {l : List IV} {x : IV} (h : Cells W b o 1 (l.map IV.vs)) (hx : l[k]? = some x) : W.cell? ⟨b, o + k, none⟩ = some (.slice x.a x.xs.length x.c) := by
  have := h k x.vs (by simp [hx]) 0 _ rfl
  simpa using this
theorem cells_tv {W : World} {b o k : Nat} {l : List TV} {x : TV} (h : Cells W b o 1 (l.map TV.vs)) (hx : l[k]? = some x) : W.cell? ⟨b, o + k, none⟩ = some (.slice x.a x.ls.length x.c) := by
  have := h k x.vs (by simp [hx]) 0 _ rfl
  simpa using this
theorem TruthAt.one {W : World} {a : Option Addr} {vs : List TV} {t : List (List (List Int))} {k : Nat} {x : TV} (h : TruthAt W a vs t) (hx : vs[k]? = some x) :
    ∃ b o, a = some ⟨b, o, none⟩ ∧ W.cell? ⟨b, o + k, none⟩ = some (.slice x.a x.ls.length x.c) ∧ b < W.heap.size ∧ TvAt W x := by
  obtain ⟨b, o, e, hC⟩ := RowAt.at (k := k) h.row (by have := (List.getElem?_eq_some_iff.1 hx).1; omega)
  have e0 := cells_tv hC hx
  exact ⟨b, o, e, e0, block_lt_of_cell e0, h.ls x (List.mem_of_getElem? hx)⟩
theorem TvAt.one {W : World} {x : TV} {k : Nat} {y : IV} (h : TvAt W x) (hy : x.ls[k]? = some y) :
    ∃ b o, x.a = some ⟨b, o, none⟩ ∧ W.cell? ⟨b, o + k, none⟩ = some (.slice y.a y.xs.length y.c) ∧ b < W.heap.size ∧ IntsAt W y.a y.xs := by
  obtain ⟨b, o, e, hC⟩ := RowAt.at (k := k) h.row (by have := (List.getElem?_eq_some_iff.1 hy).1; omega)
  have e0 := cells_iv hC hy
  exact ⟨b, o, e, e0, block_lt_of_cell e0, h.ls y (List.mem_of_getElem? hy)⟩
/-- A truth is not too great. -/
structure Small5 (vs : List TV) : Prop where
  l1 : vs.length ≤ 1000
  l2 : ∀ x ∈ vs, x.ls.length ≤ 1000
  l3 : ∀ x ∈ vs, ∀ y ∈ x.ls, y.xs.length ≤ 1000

/-- It returns a truth of its own. -/
def RetTruth (t : List (List (List Int))) (w : World) (e : Ending) (w' : World) : Prop := ∃ a c vs, e = .returned (.slice a vs.length c) ∧ Below w.heap.size w w' ∧ TruthAt w' a vs t

set_option maxRecDepth 100000 in
set_option maxHeartbeats 8000000 in
theorem truth5_any (a : Option Addr) (c : Nat) (vs : List TV) (t : List (List (List Int))) (w : World) (hT : TruthAt w a vs t) (hs : Small5 vs) :
    Calls Try.prog 13 #[.slice a vs.length c] w (RetTruth t w) := by
  have HT := Lib.hid hT
  obtain ⟨l1, l2, l3⟩ := hs
  have H2 := Lib.hid l2
  have H3 := Lib.hid l3
  have HEt := Lib.hid hT.eq
  clear hT l2 l3
  go_enter Try.func13, Try.ntmps13
  go_wp2_with fail
  go_loopw [3, 4] (fun v i wr => ∃ (k : Nat) (us : List TV), k ≤ vs.length ∧ i = .int .i64 k ∧ Below w.heap.size w wr ∧ Own wr w.heap.size 35 1 v (us.map TV.vs) ∧ (∀ x ∈ us, TvO wr w.heap.size x) ∧ us.length = k ∧ us.map TV.told = (vs.take k).map TV.told) (fun _ i _ => vs.length - (intOf i).toNat)
  case atStart => exact ⟨0, [], Nat.zero_le _, rfl, Below.refl _ _, Own.nil _ _ _ _, by simp, rfl, by simp⟩
  case round =>
    obtain ⟨k, us, hk, rfl, hW, hO, hV, hvl, hR⟩ := hrel
    have HO := Lib.hid hO
    have HV := Lib.hid hV
    have HVl := Lib.hid hvl
    have HR := Lib.hid hR
    clear hO hV hvl hR
    by_cases hlt : k < vs.length
    · go_wp2_with fail
      obtain ⟨x, hx⟩ : ∃ x, vs[k]? = some x := ⟨vs[k], by simp⟩
      have hx2 := H2.out x (List.mem_of_getElem? hx)
      have HX3 := Lib.hid (H3.out x (List.mem_of_getElem? hx))
      obtain ⟨ab, ao, rfl, _⟩ := HT.out.one hx
      have HX := Lib.hid hx
      clear hx
      obtain ⟨w0, hw0'⟩ : ∃ w0, w0 = wr := ⟨_, rfl⟩
      have hsame : Below wr.heap.size wr wr := Below.refl _ _
      rw [← hw0'] at HO HV
      rw [show Below wr.heap.size wr wr = Below w0.heap.size w0 wr by rw [hw0']] at hsame
      have hW0 := hW
      rw [← hw0'] at hW0
      have HW0 := Lib.hid hW0
      have r1 : (0 : Int) ≤ (k : Int) := by omega
      have r2 : (k : Int) < (vs.length : Int) := by omega
      clear hw0' hW0
      go_loopw [5, 6] (fun v i wi => ∃ (m : Nat) (ls : List IV), m ≤ x.ls.length ∧ i = .int .i64 m ∧ Below w.heap.size w wi ∧ Below w0.heap.size w0 wi ∧ Own wi w0.heap.size 23 1 v (ls.map IV.vs) ∧ (∀ x ∈ ls, IvO wi w0.heap.size x) ∧ ls.length = m ∧ ls.map (·.xs) = (x.ls.take m).map (·.xs)) (fun _ i _ => x.ls.length - (intOf i).toNat)
      case atStart => exact ⟨0, [], Nat.zero_le _, rfl, hW, hsame, Own.nil _ _ _ _, by simp, rfl, by simp⟩
      case round =>
        clear hW hsame
        obtain ⟨m, ls, hm, rfl, hW, hW0, hO2, hL2, hl2, hR2⟩ := hrel
        have HO2 := Lib.hid hO2
        have HL2 := Lib.hid hL2
        have Hl2 := Lib.hid hl2
        have HR2 := Lib.hid hR2
        clear hO2 hL2 hl2 hR2
        obtain ⟨ab', ao', ea, e0, z1, hX⟩ := (HT.out.later hW).one HX.out
        cases ea
        by_cases hmt : m < x.ls.length
        · obtain ⟨y, hy⟩ : ∃ y, x.ls[m]? = some y := ⟨x.ls[m], by simp⟩
          obtain ⟨pb, po, ea, e1, z2, hI⟩ := hX.one hy
          have hy3 := HX3.out y (List.mem_of_getElem? hy)
          have HY := Lib.hid hy
          have HI := Lib.hid hI
          rw [ea] at e0
          clear hy hI hX ea
          have r3 : (0 : Int) ≤ (m : Int) := by omega
          have r4 : (m : Int) < (x.ls.length : Int) := by omega
          go_wp2_with fail
          refine (list5_any y.xs y.a y.c _ HI.out hy3).mono ?_
          rintro e w2 ⟨v2, rfl, hb2, hO5⟩
          obtain ⟨ta, tc, rfl, _, _⟩ := hO5.row
          rw [show (ivs y.xs).length = y.xs.length from List.length_map _] at hO5 ⊢
          have HI0 := Lib.hid (show IvO w2 w0.heap.size ⟨ta, tc, y.xs⟩ from Own.mono hO5 hW0.size)
          replace HO2 := Lib.hid (HO2.out.later hb2)
          replace HL2 := Lib.hid (fun x hx => Own.later (HL2.out x hx) hb2)
          replace hW0 := over hW0 hb2
          replace hW := over hW hb2
          clear hO5 hb2 e0 e1 z1 z2 HI
          go_wp2_with (at_builtin; refine named1 (p := wpList _ _ _ _ _) ?_; intro w9 hb9 B9; have hO9 := HO2.out.later hb9; refine wpList_grow rfl (.tmp 22) (.tmp 31) 35 rfl elem_ints rfl hO9 rfl B9 rfl (by decide) rfl (n := m) (by simp [Hl2.out]) (by omega) (by decide) (Nat.le_trans hW0.size hb9.size) ?_; intro a' c' W' hO' hb' hg'; have HO' := Lib.hid hO'; have HL' := Lib.hid (fun y hy => Own.keep (Own.later (HL2.out y hy) hb9) (KeepT.grown hO9 (by decide) hg')); have HI' := Lib.hid (Own.keep (Own.later HI0.out hb9) (KeepT.grown hO9 (by decide) hg')); replace hW0 := (over hW0 hb9).trans hb'; replace hW := (over hW hb9).trans (hb'.mono HW0.out.size); clear HO2 HL2 hO' hb' hg' hO9 hb9 B9 HI0)
          go_roundw
          case rel =>
            refine ⟨m + 1, ls ++ [⟨ta, tc, y.xs⟩], by omega, by go_num, hW, hW0, ?_, fun z hz => ?_, by simp [Hl2.out], ?_⟩
            · rw [List.map_append]; exact HO'.out
            · rcases List.mem_append.1 hz with hz | hz
              · exact HL'.out z hz
              · simp at hz; subst hz; exact HI'.out
            · rw [List.map_append, HR2.out, take_map_succ HY.out]; rfl
          case measure => first | omega | (simp [intOf]; omega)
        · obtain rfl : m = x.ls.length := by omega
          obtain ⟨la, lc, rfl, _, _⟩ := HO2.out.row
          rw [List.length_map] at HO2 ⊢
          have HT0 := Lib.hid (show TvO wr w.heap.size ⟨la, lc, ls⟩ from TvO.mono ⟨HO2.out, HL2.out⟩ HW0.out.size)
          replace HO := Lib.hid (HO.out.later hW0)
          replace HV := Lib.hid (fun x hx => (HV.out x hx).later hW0)
          clear HO2 HL2 hm hmt hW0 hX
          go_wp2_with (at_builtin; refine named1 (p := wpList _ _ _ _ _) ?_; intro w9 hb9 B9; have hO9 := HO.out.later hb9; refine wpList_grow rfl (.tmp 33) (.tmp 35) 51 rfl elem_intss rfl hO9 rfl B9 rfl (by decide) rfl (n := k) (by simp [HVl.out]) (by omega) (by decide) (over hW hb9).size ?_; intro a' c' W' hO' hb' hg'; have HO' := Lib.hid hO'; have hK : ∀ E, 35 ≠ E → KeepT E w9 W' := fun E hE => KeepT.grown hO9 hE hg'; have HV' := Lib.hid (fun y hy => ((HV.out y hy).later hb9).keep (hK _ (by decide)) (hK _ (by decide))); have HT' := Lib.hid ((HT0.out.later hb9).keep (hK _ (by decide)) (hK _ (by decide))); replace hW := (over hW hb9).trans hb'; clear e0 z1 HO HV hO' hb' hg' hO9 hb9 B9 HT0 hK)
          go_roundw
          case rel =>
            refine ⟨k + 1, us ++ [⟨la, lc, ls⟩], by omega, by go_num, hW, ?_, fun y hy => ?_, by simp [HVl.out], ?_⟩
            · rw [List.map_append]; exact HO'.out
            · rcases List.mem_append.1 hy with hy | hy
              · exact HV'.out y hy
              · simp at hy; subst hy; exact HT'.out
            · rw [List.map_append, HR.out, take_map_succ HX.out]
              have h := HR2.out
              rw [List.take_of_length_le (Nat.le_refl _)] at h
              simp [TV.told, h]
          case measure => first | omega | (simp [intOf]; omega)
    · obtain rfl : k = vs.length := by omega
      obtain ⟨la, lc, rfl, _, hrow⟩ := HO.out.row
      rw [List.length_map]
      have HRow := Lib.hid hrow
      clear hrow hk hlt
      go_wp2_with fail
      go_ret
      refine ⟨la, lc, us, rfl, hW, ⟨HRow.out, fun x hx => (HV.out x hx).at, ?_⟩⟩
      have h := HR.out
      rw [List.take_of_length_le (Nat.le_refl _), HEt.out] at h
      exact h
end Go.Proofs.Ytbphpeoddifkfaa
