/- Layer 3, the walks: where a route leads, and where it sticks. -/
import Derived.Test.YtfihdaoakfdlpaaRC
import Derived.Test.YtfihdaoakfdlpaaRB
import Derived.Test.YtfihdaoakfdlpaaRPlain9
open Go.RowKit Go.Shelf
namespace Go.Proofs.Ytfihdaoakfdlpaa
open Go.Hill

def Hi.vs (x : Hi) : List Value := [.int .i64 x.fr, .int .i64 x.ta, .int .i64 x.hr]
abbrev HisAt (W : World) (a : Option Addr) (l : List Hi) : Prop := RowAt W a 3 (l.map Hi.vs)
theorem his_hops {W : World} {a : Option Addr} {l : List Hp} (h : HisAt W a (l.map Hp.hi)) : HopsAt W a l := by
  unfold HisAt at h
  rw [List.map_map] at h
  exact h
theorem cells_hi {W : World} {b o k : Nat} {l : List Hi} {x : Hi} (h : Cells W b o 3 (l.map Hi.vs)) (hx : l[k]? = some x) :
    W.cell? ⟨b, o + k * 3, none⟩ = some (.int .i64 x.fr) ∧ W.cell? ⟨b, o + k * 3 + 1, none⟩ = some (.int .i64 x.ta) ∧ W.cell? ⟨b, o + k * 3 + 2, none⟩ = some (.int .i64 x.hr) := by
  have h1 := h k (Hi.vs x) (by simp [hx])
  exact ⟨by simpa using h1 0 _ rfl, h1 1 _ rfl, h1 2 _ rfl⟩
theorem lead_at {n e : Nat} {a h : Int} {l : List Hi} {i : Nat} {p : Hi} (hp : l[i]? = some p) : leadF n e a h (l.drop i) = if p.fr = a ∧ inB p.ta 0 ((n : Int) - 1) = true ∧ inB p.hr h ((e : Int) - 1) = true then leadF n e p.ta (p.hr + 1) (l.drop (i + 1)) else none := by
  have hi := (List.getElem?_eq_some_iff.1 hp).1
  have he : l[i] = p := (List.getElem?_eq_some_iff.1 hp).2
  rw [List.drop_eq_getElem_cons hi, he]; rfl
theorem lead_end {n e : Nat} {a h : Int} {l : List Hi} : leadF n e a h (l.drop l.length) = some a := by rw [List.drop_length]; rfl
def ledV (o : Option Int) : Value := .tuple #[.int .i64 (o.getD 0), .bool o.isSome]
set_option maxRecDepth 100000 in
set_option maxHeartbeats 8000000 in
theorem leads_any (r : RV) (q : LV) (L : Land) (f s : Nat) (l : List Hi) (a : Option Addr) (c : Nat) (w : World) (hr : RelAt w r q L) (hc : L.chk = 0) (hl : HisAt w a l) (hll : l.length ≤ 1000) :
    Calls Try.prog 37 #[.pointer (some ⟨r.bw, 0, none⟩), .int .i64 f, .int .i64 s, .slice a l.length c] w (Ret (ledV (leadF L.st.length L.sn.length f s l)) w) := by
  have HR := Lib.hid hr
  have HL := Lib.hid hl
  obtain ⟨n6, n0, e12, e0, m4, m0⟩ := st_six hc
  obtain ⟨o, ho⟩ : ∃ o, o = leadF L.st.length L.sn.length f s l := ⟨_, rfl⟩
  rw [← ho]
  have HO : Hid (o = leadF L.st.length L.sn.length f s (l.drop 0)) := by rw [List.drop_zero]; exact ho
  clear hr hl hc ho
  go_enter Try.func37, Try.ntmps37
  go_wp2_with fail
  refine named1 (p := Code.wp _ _ _ _) ?_
  intro W hW B10
  have HB10 := Lib.hid B10
  have HW := Lib.hid hW
  clear B10 hW
  go_loopw [18] (fun i' wr => ∃ (i : Nat) (av hv : Int), i ≤ l.length ∧ i' = .int .i64 i ∧ (hv = s ∨ (0 ≤ hv ∧ hv ≤ 1000)) ∧ Below w.heap.size w wr ∧ Box wr w.heap.size #[.int .i64 av, .int .i64 hv] 93 ∧ o = leadF L.st.length L.sn.length av hv (l.drop i)) (fun i' _ => l.length - (intOf i').toNat)
  case atStart => exact ⟨0, f, s, Nat.zero_le _, rfl, .inl rfl, HW.out, HB10.out, HO.out⟩
  case round =>
    clear HB10 HW HO
    obtain ⟨i, av, hv, hi, rfl, hvb, hW, B10, ho⟩ := hrel
    have HO := Lib.hid ho
    clear ho
    by_cases hlt : i < l.length
    · obtain ⟨p1, o1, rfl, hC1⟩ := RowAt.at (HL.out.later hW) hlt
      obtain ⟨p, hp⟩ : ∃ p, l[i]? = some p := ⟨l[i], by simp⟩
      obtain ⟨e0', e1, e2⟩ := cells_hi hC1 hp
      have z1 := block_lt_of_cell e0'
      have HAt := Lib.hid (lead_at (n := L.st.length) (e := L.sn.length) (a := av) (h := hv) hp)
      have r1 : (0 : Int) ≤ (i : Int) := by omega
      have r2 : (i : Int) < (l.length : Int) := by omega
      obtain ⟨pf, pt, ph⟩ := p
      simp only at e0' e1 e2 HAt
      clear hC1 hp
      go_upto_region 5 with fail
      refine named1 (p := Code.wp _ _ _ _) ?_
      intro W4 hb4 B12
      replace hW := over hW hb4
      replace B10 := B10.later hb4
      clear e0' e1 e2 z1 hb4
      obtain ⟨b2, hb2⟩ : ∃ b, b = inB pt 0 ((L.st.length : Int) - 1) := ⟨_, rfl⟩
      obtain ⟨b3, hb3⟩ : ∃ b, b = inB ph hv ((L.sn.length : Int) - 1) := ⟨_, rfl⟩
      have HBx := Lib.hid (HR.out.later hW).box
      have HSta : Hid (∀ W, Below W4.heap.size W4 W → Calls Try.prog 45 #[.pointer (some ⟨r.bw, 0, none⟩), .int .i64 pt] W (Ret (.bool b2) W)) := fun W hb => by rw [hb2]; exact station_any pt W (HBx.out.later hb) (by omega)
      have HEn : Hid (∀ W, Below W4.heap.size W4 W → Calls Try.prog 31 #[.pointer (some ⟨r.bw, 0, none⟩)] W (Ret (.int .i64 L.sn.length) W)) := fun W hb => end_any W (HBx.out.later hb)
      have HIn : Hid (∀ W, Calls Try.prog 41 #[.int .i64 ph, .int .i64 hv, .int .i64 ((L.sn.length : Int) - 1)] W (Ret (.bool b3) W)) := fun W => by rw [hb3]; exact rwithin_any _ _ _ _
      have hat := HAt.out
      rw [← hb2, ← hb3] at hat
      have HAt2 := Lib.hid hat
      have hb3' : b3 = true → 0 ≤ ph + 1 ∧ ph + 1 ≤ 1000 := fun h => by
        rw [h] at hb3
        have h9 : hv ≤ ph ∧ ph ≤ (L.sn.length : Int) - 1 := of_decide_eq_true hb3.symm
        omega
      have HPh := Lib.hid hb3'
      have c10 := B10.cell; have t10 := B10.lt; have c12 := B12.cell; have t12 := B12.lt
      clear hat HAt hb2 hb3 hb3'
      by_cases h1 : pf = av
      case neg =>
        have d1 : (pf != av) = true := by simpa using h1
        have HX : Hid (o = none) := by show _ = _; rw [HO.out, HAt2.out, if_neg fun h => h1 h.1]
        clear h1 HO HAt2
        refine Fat.wp_region_tail 23 (by kernel_rfl) (by kernel_rfl) ?_
        simp only [List.take_succ_cons, List.drop_succ_cons, List.take_nil, List.drop_nil]
        repeat (go_big_quiet_step ((first | with_reducible exact Calls.regrown_of (HSta.out _ (below_regrown _ _ _)) | with_reducible exact Calls.regrown_of (HEn.out _ (below_regrown _ _ _)) | with_reducible exact Calls.regrown_of (HIn.out _))))
        refine wpQuiet_nil ?_
        intro w5 hb5
        replace hW := over hW hb5
        clear c10 t10 c12 t12 B10 B12
        go_wp2_with fail
        go_ret2
        rw [HX.out]
        exact ⟨rfl, hW⟩
      have d1 : (pf != av) = false := by simpa using h1
      have HE := Lib.hid h1
      clear h1
      cases b2 with
      | false =>
        have HX : Hid (o = none) := by show _ = _; rw [HO.out, HAt2.out, if_neg fun h => by cases h.2.1]
        clear HO HAt2
        refine Fat.wp_region_tail 23 (by kernel_rfl) (by kernel_rfl) ?_
        simp only [List.take_succ_cons, List.drop_succ_cons, List.take_nil, List.drop_nil]
        repeat (go_big_quiet_step ((first | with_reducible exact Calls.regrown_of (HSta.out _ (below_regrown _ _ _)) | with_reducible exact Calls.regrown_of (HEn.out _ (below_regrown _ _ _)) | with_reducible exact Calls.regrown_of (HIn.out _))))
        refine wpQuiet_nil ?_
        intro w5 hb5
        replace hW := over hW hb5
        clear c10 t10 c12 t12 B10 B12
        go_wp2_with fail
        go_ret2
        rw [HX.out]
        exact ⟨rfl, hW⟩
      | true =>
        cases b3 with
        | false =>
          have HX : Hid (o = none) := by show _ = _; rw [HO.out, HAt2.out, if_neg fun h => by cases h.2.2]
          clear HO HAt2
          refine Fat.wp_region_tail 23 (by kernel_rfl) (by kernel_rfl) ?_
          simp only [List.take_succ_cons, List.drop_succ_cons, List.take_nil, List.drop_nil]
          repeat (go_big_quiet_step ((first | with_reducible exact Calls.regrown_of (HSta.out _ (below_regrown _ _ _)) | with_reducible exact Calls.regrown_of (HEn.out _ (below_regrown _ _ _)) | with_reducible exact Calls.regrown_of (HIn.out _))))
          refine wpQuiet_nil ?_
          intro w5 hb5
          replace hW := over hW hb5
          clear c10 t10 c12 t12 B10 B12
          go_wp2_with fail
          go_ret2
          rw [HX.out]
          exact ⟨rfl, hW⟩
        | true =>
          have HX : Hid (o = leadF L.st.length L.sn.length pt (ph + 1) (l.drop (i + 1))) := by show _ = _; rw [HO.out, HAt2.out, if_pos ⟨HE.out, rfl, rfl⟩]
          have hphb := HPh.out rfl
          clear HO HAt2 HPh
          refine Fat.wp_region_tail 23 (by kernel_rfl) (by kernel_rfl) ?_
          simp only [List.take_succ_cons, List.drop_succ_cons, List.take_nil, List.drop_nil]
          repeat (go_big_quiet_step ((first | with_reducible exact Calls.regrown_of (HSta.out _ (below_regrown _ _ _)) | with_reducible exact Calls.regrown_of (HEn.out _ (below_regrown _ _ _)) | with_reducible exact Calls.regrown_of (HIn.out _))))
          refine wpQuiet_nil ?_
          intro w5 hb5
          replace hW := over hW hb5
          replace B10 := B10.later hb5
          replace B12 := B12.later hb5
          clear hb5 c10 t10 c12 t12
          have hset := setCells_box (cells := #[.int .i64 pt, .int .i64 (ph + 1)]) B10 rfl
          have HSet := Lib.hid hset
          have HWd := Lib.hid hW
          have c10 := B10.cell; have t10 := B10.lt; have c12 := B12.cell; have t12 := B12.lt
          have f10 := B10.frozen
          clear hset B10 B12 hW
          go_wp2_with fail
          go_roundw
          case rel => exact ⟨i + 1, pt, ph + 1, by omega, by go_num, .inr hphb, HSet.out.2.below HWd.out (Nat.le_refl _), HSet.out.1, HX.out⟩
          case measure => simp [intOf]; omega
    · obtain rfl : i = l.length := by omega
      have HX : Hid (o = some av) := by show _ = _; rw [HO.out, lead_end]
      have c10 := B10.cell; have t10 := B10.lt
      clear HO B10
      go_wp2_with fail
      go_ret2
      rw [HX.out]
      exact ⟨rfl, hW⟩
end Go.Proofs.Ytfihdaoakfdlpaa
