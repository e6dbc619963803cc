import Derived.Test.YtfihdaoakfdlpaaRB
import Derived.Test.YtfihdaoakfdlpaaRPl
import Derived.OwnWalkIn
section
/- Layer 3, the walks: how routes compare; the stations that are reached in each case. -/
open Go.RowKit Go.Shelf
namespace Go.Proofs.Ytfihdaoakfdlpaa
open Go.Hill

abbrev hopC (x : Hp) : Array Value := #[.int .i64 x.fr, .int .i64 x.ta, .int .i64 x.hr]
def Hp.vs (x : Hp) : List Value := [.int .i64 x.fr, .int .i64 x.ta, .int .i64 x.hr]
theorem cells_hp {W : World} {b o k : Nat} {l : List Hp} {x : Hp} (h : Cells W b o 3 (l.map Hp.vs)) (hx : l[k]? = some x) :
    W.cell? ⟨b, o + k * 3, none⟩ = some (.int .i64 x.fr) ∧ W.cell? ⟨b, o + k * 3 + 1, none⟩ = some (.int .i64 x.ta) ∧ W.cell? ⟨b, o + k * 3 + 2, none⟩ = some (.int .i64 x.hr) := by
  have h1 := h k (Hp.vs x) (by simp [hx])
  exact ⟨by simpa using h1 0 _ rfl, h1 1 _ rfl, h1 2 _ rfl⟩

theorem nan_any (x : Int) (w : World) : Calls Try.prog 105 #[.int .i64 x] w (Ret (.bool false) w) := by
  go_enter Try.func105, Try.ntmps105
  go_wp2_with fail
  go_ret
  exact ⟨ret_bool (by simp), Below.refl _ _⟩
theorem cmp_any (a b : Nat) (w : World) : Calls Try.prog 101 #[.int .i64 a, .int .i64 b] w (Ret (.int .i64 (cmpI a b)) w) := by
  go_enter Try.func101, Try.ntmps101
  go_wp2_with fail
  refine (nan_any a w).mono ?_
  rintro e w1 ⟨rfl, hb1⟩
  go_wp2_with fail
  refine (nan_any b w1).mono ?_
  rintro e w2 ⟨rfl, hb2⟩
  have HW := Lib.hid (over hb1 hb2)
  clear hb1 hb2
  go_wp2_with fail
  all_goals
    go_ret
    exact ⟨ret_int (by unfold cmpI; (repeat' split) <;> omega), HW.out⟩
theorem sooner_any (x y : Hp) (w : World) : Calls Try.prog 91 #[.agg (hopC x), .agg (hopC y)] w (Ret (.int .i64 (cmpI x.hr y.hr)) w) := by
  go_enter Try.func91, Try.ntmps91
  go_wp2_with fail
  refine named2 (p := fun W => Calls _ _ _ W _) ?_
  intro W hW B2 B3
  refine (cmp_any x.hr y.hr W).mono ?_
  rintro e w1 ⟨rfl, hb1⟩
  replace hW := over hW hb1
  clear hb1 B2 B3
  go_wp2_with fail
  go_ret
  exact ⟨rfl, hW⟩
theorem lower_any (x y : Hp) (w : World) : Calls Try.prog 92 #[.agg (hopC x), .agg (hopC y)] w (Ret (.int .i64 (cmpI x.ta y.ta)) w) := by
  go_enter Try.func92, Try.ntmps92
  go_wp2_with fail
  refine named2 (p := fun W => Calls _ _ _ W _) ?_
  intro W hW B2 B3
  refine (cmp_any x.ta y.ta W).mono ?_
  rintro e w1 ⟨rfl, hb1⟩
  replace hW := over hW hb1
  clear hb1 B2 B3
  go_wp2_with fail
  go_ret
  exact ⟨rfl, hW⟩

set_option maxRecDepth 100000 in
set_option maxHeartbeats 1000000 in
theorem cmpH_any (x y : Hp) (w : World) : Calls Try.prog 90 #[.agg (hopC x), .agg (hopC y)] w (Ret (.int .i64 (cmpH x y)) w) := by
  have HS : Hid (∀ w, Calls Try.prog 91 #[.agg (hopC x), .agg (hopC y)] w (Ret (.int .i64 (cmpI x.hr y.hr)) w)) := fun w => sooner_any x y w
  have HL : Hid (∀ w, Calls Try.prog 92 #[.agg (hopC x), .agg (hopC y)] w (Ret (.int .i64 (cmpI x.ta y.ta)) w)) := fun w => lower_any x y w
  have HC : Hid (cmpH x y = if cmpI x.hr y.hr = 0 then cmpI x.ta y.ta else cmpI x.hr y.hr) := rfl
  generalize cmpI x.hr y.hr = k1 at *
  generalize cmpI x.ta y.ta = k2 at *
  generalize cmpH x y = c at *
  go_enter Try.func90, Try.ntmps90
  go_wp2_with fail
  refine named3 (p := Code.wp _ _ _ _) ?_
  intro W hW B2 B3 B10
  go_loopw [12] (fun i' wr => (i' = .int .i64 0 ∨ (i' = .int .i64 1 ∧ Hid (k1 = 0)) ∨ (i' = .int .i64 2 ∧ Hid (k1 = 0) ∧ Hid (k2 = 0))) ∧ Below W.heap.size W wr) (fun i' _ => 2 - (intOf i').toNat)
  case atStart => exact ⟨.inl rfl, Below.refl _ _⟩
  case round =>
    obtain ⟨hcase, hb⟩ := hrel
    replace hW := over hW hb
    (try clear c2 t2 c3 t3 c10 t10); replace B2 := B2.later hb; replace B3 := B3.later hb; replace B10 := B10.later hb; have c2 := B2.cell; have t2 := B2.lt; have c3 := B3.cell; have t3 := B3.lt; have c10 := B10.cell; have t10 := B10.lt
    rcases hcase with rfl | ⟨rfl, h1⟩ | ⟨rfl, h1, h2⟩
    · go_wp2_with fail
      refine named1 (p := fun W => Calls _ _ _ W _) ?_
      intro w4 hb4 B6
      replace hW := over hW hb4
      replace hb := over hb hb4
      (try clear c2 t2 c3 t3 c10 t10); replace B2 := B2.later hb4; replace B3 := B3.later hb4; replace B10 := B10.later hb4; have c2 := B2.cell; have t2 := B2.lt; have c3 := B3.cell; have t3 := B3.lt; have c10 := B10.cell; have t10 := B10.lt
      have c6 := B6.cell; have t6 := B6.lt
      clear hb4
      go_wp2_with fail
      refine (HS.out _).mono ?_
      rintro e w5 ⟨rfl, hb5⟩
      replace hW := over hW hb5
      replace hb := over hb hb5
      clear hb5 c2 t2 c3 t3 c10 t10 c6 t6 B2 B3 B10 B6
      by_cases h0 : k1 = 0
      · have hb1 : (k1 != 0) = false := by simp [h0]
        have H0 : Hid (k1 = 0) := h0
        clear h0
        go_wp2_with fail
        go_roundw
        case rel => exact ⟨.inr (.inl ⟨rfl, H0⟩), hb⟩
        case measure => decide
      · have hb1 : (k1 != 0) = true := by simp [h0]
        have H0 : Hid (c = k1) := HC.out.trans (if_neg h0)
        clear h0
        go_wp2_with fail
        go_ret
        exact ⟨ret_int H0.out.symm, hW⟩
    · go_wp2_with fail
      refine named1 (p := fun W => Calls _ _ _ W _) ?_
      intro w4 hb4 B6
      replace hW := over hW hb4
      replace hb := over hb hb4
      (try clear c2 t2 c3 t3 c10 t10); replace B2 := B2.later hb4; replace B3 := B3.later hb4; replace B10 := B10.later hb4; have c2 := B2.cell; have t2 := B2.lt; have c3 := B3.cell; have t3 := B3.lt; have c10 := B10.cell; have t10 := B10.lt
      have c6 := B6.cell; have t6 := B6.lt
      clear hb4
      go_wp2_with fail
      refine (HL.out _).mono ?_
      rintro e w5 ⟨rfl, hb5⟩
      replace hW := over hW hb5
      replace hb := over hb hb5
      clear hb5 c2 t2 c3 t3 c10 t10 c6 t6 B2 B3 B10 B6
      by_cases h0 : k2 = 0
      · have hb1 : (k2 != 0) = false := by simp [h0]
        have H0 : Hid (k2 = 0) := h0
        clear h0
        go_wp2_with fail
        go_roundw
        case rel => exact ⟨.inr (.inr ⟨rfl, h1, H0⟩), hb⟩
        case measure => decide
      · have hb1 : (k2 != 0) = true := by simp [h0]
        have H0 : Hid (c = k2) := HC.out.trans (if_pos h1.out)
        clear h0
        go_wp2_with fail
        go_ret
        exact ⟨ret_int H0.out.symm, hW⟩
    · have H0 : Hid (c = 0) := (HC.out.trans (if_pos h1.out)).trans h2.out
      go_wp2_with fail
      go_ret
      exact ⟨ret_int H0.out.symm, hW⟩
end Go.Proofs.Ytfihdaoakfdlpaa
end

section
/- Layer 3, the walks: how paths compare; the stations that are reached in each case. -/
open Go.RowKit Go.Shelf
namespace Go.Proofs.Ytfihdaoakfdlpaa
open Go.Hill

abbrev HopsAt (W : World) (a : Option Addr) (l : List Hp) : Prop := RowAt W a 3 (l.map Hp.vs)
set_option maxRecDepth 100000 in
set_option maxHeartbeats 1000000 in
theorem cmpF_any (l m : List Hp) (a b : Option Addr) (ca cb : Nat) (w : World) (h1 : HopsAt w a l) (h2 : HopsAt w b m) (hlm : l.length = m.length) (hl : l.length ≤ 1000) :
    Calls Try.prog 89 #[.slice a l.length ca, .slice b m.length cb, .func (.func 90) #[] #[]] w (Ret (.int .i64 (cmpR l m)) w) := by
  have H1 := Lib.hid h1
  have H2 := Lib.hid h2
  obtain ⟨c, hc⟩ : ∃ c, c = cmpR l m := ⟨_, rfl⟩
  rw [← hc]
  have HC := Lib.hid hc
  have HLm := Lib.hid hlm
  clear h1 h2 hc hlm
  go_enter Try.func89, Try.ntmps89
  go_wp2_with fail
  go_loopw [13] (fun i' wr => ∃ i : Nat, i ≤ l.length ∧ i' = .int .i64 i ∧ Below w.heap.size w wr ∧ Hid (c = cmpR (l.drop i) (m.drop i))) (fun i' _ => l.length - (intOf i').toNat)
  case atStart => exact ⟨0, Nat.zero_le _, rfl, Below.refl _ _, HC.out⟩
  case round =>
    obtain ⟨i, hi, rfl, hW, hcm⟩ := hrel
    by_cases hlt : i < l.length
    · obtain ⟨p1, o1, rfl, hC1⟩ := RowAt.at H1.out hlt
      obtain ⟨p2, o2, rfl, hC2⟩ := RowAt.at H2.out (show i < m.length by have := HLm.out; omega)
      obtain ⟨x, hx⟩ : ∃ x, l[i]? = some x := ⟨l[i], by simp [hlt]⟩
      obtain ⟨y, hy⟩ : ∃ y, m[i]? = some y := ⟨m[i]'(by have := HLm.out; omega), by simp⟩
      obtain ⟨e0, e1, e2⟩ := cells_hp (hC1.later hW) hx
      have hcells2 := cells_hp (hC2.later hW) hy
      have z1 := block_lt_of_cell e0
      have HCmp := Lib.hid (cmpR_at hx hy)
      have HCall : Hid (∀ w, Calls Try.prog 90 #[.agg (hopC x), .agg (hopC y)] w (Ret (.int .i64 (cmpH x y)) w)) := fun w => cmpH_any x y w
      generalize cmpH x y = k at *
      have r1 : (0 : Int) ≤ (i : Int) := by omega
      have r2 : (i : Int) < (l.length : Int) := by omega
      have r3 : (i : Int) < (m.length : Int) := by have := HLm.out; omega
      clear hx hy hC1 hC2
      go_upto_region 6 with fail
      refine named1 (p := Code.wp _ _ _ _) ?_
      intro w4 hb4 B8
      have hW4 := over hW hb4
      obtain ⟨f0, f1, f2⟩ := hcells2
      have z2 := block_lt_of_cell f0
      replace f0 := (hb4.cell (p := ⟨p2, o2 + i * 3, none⟩) z2).trans f0
      replace f1 := (hb4.cell (p := ⟨p2, o2 + i * 3 + 1, none⟩) z2).trans f1
      replace f2 := (hb4.cell (p := ⟨p2, o2 + i * 3 + 2, none⟩) z2).trans f2
      have z2 := block_lt_of_cell f0
      clear e0 e1 e2 z1 hb4 hW
      go_upto_region 7 with fail
      refine named1 (p := Code.wp _ _ _ _) ?_
      intro w5 hb5 B9
      have hW5 := over hW4 hb5
      replace B8 := B8.later hb5
      have c8 := B8.cell; have t8 := B8.lt; have c9 := B9.cell; have t9 := B9.lt
      clear f0 f1 f2 z2 hb5 hW4
      go_wp2_with fail
      refine (HCall.out _).mono ?_
      rintro e w6 ⟨rfl, hb6⟩
      have hW6 := over hW5 hb6
      clear hb6 hW5 c8 t8 c9 t9 B8 B9
      by_cases h0 : k = 0
      · subst h0
        have H3 : Hid (c = cmpR (l.drop (i + 1)) (m.drop (i + 1))) := hcm.out.trans (HCmp.out.trans (if_pos rfl))
        clear hcm HCmp
        go_wp2_with fail
        go_roundw
        case rel =>
          exact ⟨i + 1, by omega, by go_num, hW6, H3⟩
        case measure => simp [intOf]; omega
      · have hb0 : (k != 0) = true := by simp [h0]
        have H3 : Hid (c = k) := hcm.out.trans (HCmp.out.trans (if_neg h0))
        clear hcm HCmp h0
        go_wp2_with fail
        go_ret
        exact ⟨ret_int H3.out.symm, hW6⟩
    · obtain rfl : i = l.length := by omega
      have H3 : Hid (c = 0) := hcm.out.trans (cmpR_end.trans (if_neg (by have := HLm.out; omega)))
      clear hcm
      have r3 : ((l.length : Int) < (m.length : Int)) = False := by have := HLm.out; simp; omega
      go_wp2_with fail
      go_ret
      exact ⟨ret_int H3.out.symm, hW⟩
end Go.Proofs.Ytfihdaoakfdlpaa
end

section
/- Layer 3, the walks: which path is before another one; the stations that are reached in each case. -/
open Go.RowKit Go.Shelf
namespace Go.Proofs.Ytfihdaoakfdlpaa
open Go.Hill

theorem cmpR_any (l m : List Hp) (a b : Option Addr) (ca cb : Nat) (w : World) (h1 : HopsAt w a l) (h2 : HopsAt w b m) (hlm : l.length = m.length) (hl : l.length ≤ 1000) :
    Calls Try.prog 68 #[.slice a l.length ca, .slice b m.length cb] w (Ret (.int .i64 (cmpR l m)) w) := by
  have HC := Lib.hid (cmpF_any l m a b ca cb w h1 h2 hlm hl)
  generalize cmpR l m = c at *
  clear h1 h2 hlm
  go_enter Try.func68, Try.ntmps68
  go_wp2_with fail
  refine HC.out.mono ?_
  rintro e w1 ⟨rfl, hb1⟩
  go_wp2_with fail
  go_ret
  exact ⟨rfl, hb1⟩
def ol (o : Option (List Hp)) : List Hp := o.getD []
/-- A path in memory. -/
def PathAt (W : World) (v : Value) (o : Option (List Hp)) : Prop := ∃ a c, v = .agg #[.slice a (ol o).length c, .bool o.isSome] ∧ HopsAt W a (ol o)
theorem PathAt.later {W W' : World} {v : Value} {o : Option (List Hp)} (h : PathAt W v o) (hb : Below W.heap.size W W') : PathAt W' v o := by
  obtain ⟨a, c, h1, h2⟩ := h
  exact ⟨a, c, h1, RowAt.later h2 hb⟩
theorem PathAt.turned {ex : Nat → Prop} {W W' : World} {v : Value} {o : Option (List Hp)} (h : PathAt W v o) (hb : Turn ex none W W') : PathAt W' v o := by
  obtain ⟨a, c, h1, h2⟩ := h
  exact ⟨a, c, h1, hb.row h2⟩
theorem bettR_form (o1 o2 : Option (List Hp)) : bettR o1 o2 = if o1.isSome && o2.isSome then (if (ol o1).length = (ol o2).length then decide (cmpR (ol o1) (ol o2) < 0) else decide ((ol o1).length < (ol o2).length)) else o1.isSome := by
  cases o1 <;> cases o2 <;> rfl
theorem decide_lt_cast (a b : Nat) : decide ((a : Int) < (b : Int)) = decide (a < b) := by rw [Bool.eq_iff_iff]; simp only [decide_eq_true_eq]; omega
set_option maxRecDepth 100000 in
set_option maxHeartbeats 1000000 in
theorem better_any (o1 o2 : Option (List Hp)) (v1 v2 : Value) (w : World) (h1 : PathAt w v1 o1) (h2 : PathAt w v2 o2) (l1 : (ol o1).length ≤ 1000) :
    Calls Try.prog 50 #[v1, v2] w (Ret (.bool (bettR o1 o2)) w) := by
  obtain ⟨a1, c1, rfl, r1⟩ := h1
  obtain ⟨a2, c2, rfl, r2⟩ := h2
  have HCmp : Hid (∀ W, Below w.heap.size w W → (ol o1).length = (ol o2).length → Calls Try.prog 68 #[.slice a1 (ol o1).length c1, .slice a2 (ol o2).length c2] W (Ret (.int .i64 (cmpR (ol o1) (ol o2))) W)) := fun W hW hl => cmpR_any _ _ a1 a2 c1 c2 W (RowAt.later r1 hW) (RowAt.later r2 hW) hl l1
  obtain ⟨v, hv⟩ : ∃ v, v = bettR o1 o2 := ⟨_, rfl⟩
  rw [← hv]
  rw [bettR_form] at hv
  generalize cmpR (ol o1) (ol o2) = c at *
  generalize o1.isSome = b1 at *
  generalize o2.isSome = b2 at *
  generalize (ol o1).length = n1 at *
  generalize (ol o2).length = n2 at *
  have HV := Lib.hid hv
  clear r1 r2 hv
  go_enter Try.func50, Try.ntmps50
  go_upto_region 1 with fail
  refine named2 (p := Code.wp _ _ _ _) ?_
  intro W hW B2 B3
  have c2 := B2.cell; have t2 := B2.lt; have c3 := B3.cell; have t3 := B3.lt
  cases b1 with
  | false =>
    have H : Hid (v = false) := HV.out
    go_wp2_with fail
    go_ret
    exact ⟨ret_bool H.out.symm, hW⟩
  | true =>
  cases b2 with
  | false =>
    have H : Hid (v = true) := HV.out
    go_wp2_with fail
    go_ret
    exact ⟨ret_bool H.out.symm, hW⟩
  | true =>
  by_cases hl : n1 = n2
  · have H : Hid (v = decide (c < 0)) := HV.out.trans (by rw [if_pos (by rfl), if_pos hl])
    have HC := Lib.hid (HCmp.out W hW hl)
    have hb : ((n1 : Int) != (n2 : Int)) = false := by simp [hl]
    clear hl HV HCmp
    go_wp2_with fail
    refine HC.out.mono ?_
    rintro e w1 ⟨rfl, hb1⟩
    replace hW := over hW hb1
    clear hb1 c2 t2 c3 t3 B2 B3 hb
    go_wp2_with fail
    go_ret
    exact ⟨ret_bool H.out.symm, hW⟩
  · have H : Hid (v = decide (n1 < n2)) := HV.out.trans (by rw [if_pos (by rfl), if_neg hl])
    have hb : ((n1 : Int) != (n2 : Int)) = true := by simp; omega
    clear hl HV HCmp
    go_wp2_with fail
    go_ret
    exact ⟨ret_bool (by rw [H.out, ← decide_lt_cast]), hW⟩

/-- The stations that are reached in each case, as one number. -/
abbrev setA (L : Land) (i t : Nat) : Nat := bitN (fun j => L.alws i j t) L.st.length
def alwK (L : Land) (i t k : Nat) : Nat := bitN (fun j => (List.range k).all fun c => L.can i j c t) L.st.length
theorem alwK_zero (L : Land) (i t : Nat) : alwK L i t 0 = 2 ^ L.st.length - 1 := by
  rw [bitN_all]; rfl
theorem two_wrap {n : Nat} (h : n ≤ 6) : IntKind.u64.wrap (IntKind.u64.wrap (2 ^ n) - 1) = ((2 ^ n - 1 : Nat) : Int) := by
  have h6 : n = 0 ∨ n = 1 ∨ n = 2 ∨ n = 3 ∨ n = 4 ∨ n = 5 ∨ n = 6 := by omega
  rcases h6 with rfl | rfl | rfl | rfl | rfl | rfl | rfl <;> decide
theorem alwK_succ (L : Land) (i t k : Nat) : alwK L i t k &&& bitN (fun j => L.can i j k t) L.st.length = alwK L i t (k + 1) := by
  unfold alwK
  rw [bitN_and]
  exact bitN_congr fun j _ => by rw [List.range_succ, List.all_append]; simp
theorem alwK_lt (L : Land) (i t k : Nat) (h : L.st.length ≤ 6) : alwK L i t k < 64 := Nat.lt_of_lt_of_le (bitN_lt _ _) (Nat.pow_le_pow_right (n := 2) (by omega) h)
set_option maxRecDepth 100000 in
set_option maxHeartbeats 1000000 in
theorem always_any (r : RV) (q : LV) (L : Land) (i t : Nat) (w : World) (hr : RelAt w r q L) (hc : L.chk = 0) (hi : i < L.st.length) (ht : t < L.sn.length) :
    Calls Try.prog 49 #[.pointer (some ⟨r.bw, 0, none⟩), pairV i t] w (RetR (flV (setA L i t)) r q L w) := by
  have HR := Lib.hid hr
  have HC := Lib.hid hc
  obtain ⟨n6, n0, e12, e0, m4, m0⟩ := st_six hc
  have B1 := hr.box
  clear hr hc
  go_enter Try.func49, Try.ntmps49
  go_upto_region 1 with fail
  refine named1 (p := Code.wp _ _ _ _) ?_
  intro W hW B3
  (try clear c1 t1); replace B1 := B1.later hW; have c1 := B1.cell; have t1 := B1.lt
  have hz : IntKind.u64.wrap (IntKind.u64.wrap (2 ^ L.st.length) - 1) = ((alwK L i t 0 : Nat) : Int) := by rw [alwK_zero]; exact two_wrap n6
  go_wp2_with fail
  clear hz c1 t1
  go_loopw [5, 21] (fun v i' wr => ∃ k : Nat, k ≤ L.cs.length ∧ i' = .int .i64 k ∧ v = flV (alwK L i t k) ∧ Turn r.ex none w wr ∧ KnAt wr r L ∧ Box wr w.heap.size #[.int .i64 i, .int .i64 t] 93) (fun _ i' _ => L.cs.length - (intOf i').toNat)
  case atStart => exact ⟨0, Nat.zero_le _, rfl, rfl, Below.turn hW, HR.out.kn.later hW, B3⟩
  case round =>
    clear hW B3 B1
    obtain ⟨k, hk, rfl, rfl, hT, hK, B3⟩ := hrel
    by_cases hlt : k < L.cs.length
    · have HF := Lib.hid (from_any r q L k i t wr (HR.out.turn hT hK) HC.out hi hlt ht)
      have h1 := alwK_lt L i t k n6
      have h2 : bitN (fun j => L.can i j k t) L.st.length < 64 := Nat.lt_of_lt_of_le (bitN_lt _ _) (Nat.pow_le_pow_right (n := 2) (by omega) n6)
      have h3 := u64_and _ _ (show alwK L i t k < 2 ^ 64 by omega) (show bitN (fun j => L.can i j k t) L.st.length < 2 ^ 64 by omega)
      rw [alwK_succ] at h3
      have H3 := Lib.hid h3
      have r1 : (k : Int) < (L.cs.length : Int) := by omega
      have c3 := B3.cell; have t3 := B3.lt
      clear h1 h2 h3
      go_wp2_with fail
      refine HF.out.mono ?_
      rintro e w2 ⟨rfl, hT2, hR2⟩
      have HT := Lib.hid (hT.trans hT2)
      have HK := Lib.hid hR2.kn
      have B3' := hT2.box0 B3
      clear hT hK hT2 hR2 HF c3 t3 B3
      go_wp2_with fail
      go_roundw
      case rel => exact ⟨k + 1, by omega, by go_num, by rw [H3.out], HT.out, HK.out, B3'⟩
      case measure => simp [intOf]; omega
    · obtain rfl : k = L.cs.length := by omega
      have HT := Lib.hid hT
      have HK := Lib.hid hK
      have hV : alwK L i t L.cs.length = setA L i t := rfl
      rw [hV]
      generalize setA L i t = sv at *
      clear hT hK B3 hV
      go_wp2_with fail
      go_ret
      exact ⟨rfl, HT.out, HR.out.turn HT.out HK.out⟩
end Go.Proofs.Ytfihdaoakfdlpaa
end

section
/- Layer 3, the walks: the best path, found. -/
open Go.RowKit Go.Shelf
namespace Go.Proofs.Ytfihdaoakfdlpaa
open Go.Hill
attribute [local go_sem] Oper.semAt_some

/-- A map of spots, and the best paths from there. -/
def PMemo (W : World) (bp : Nat) (L : Land) (ta u : Nat) : Prop :=
  ∃ es clock, MapIs W bp es clock ∧ Pairs es ∧ ∀ e ∈ es.toList, ∀ i t : Nat, e.key = pairV i t → PathAt W e.val (bestF L.alws L.st.length ta u (u - t) i)
/-- Where the closure's variables lie. -/
structure FV where
  b1 : Nat
  b2 : Nat
  b3 : Nat
  b4 : Nat
  b5 : Nat
  bp : Nat
abbrev FV.caps (x : FV) : Array Value := #[.pointer (some ⟨x.b1, 0, none⟩), .pointer (some ⟨x.b2, 0, none⟩), .pointer (some ⟨x.b3, 0, none⟩), .pointer (some ⟨x.b4, 0, none⟩), .pointer (some ⟨x.b5, 0, none⟩)]
structure Env (W : World) (x : FV) (r : RV) (q : LV) (L : Land) (ta u : Nat) : Prop where
  R : RelAt W r q L
  B1 : Box W x.b1 #[.int .i64 ta] 3
  B2 : Box W x.b2 #[.int .i64 u] 3
  B3 : Box W x.b3 #[.map (some x.bp)] 117
  B4 : Box W x.b4 #[.func (.func 48) #[] x.caps] 118
  B5 : Box W x.b5 #[.pointer (some ⟨r.bw, 0, none⟩)] 71
  M : PMemo W x.bp L ta u
  ne : x.bp ∉ r.kn
def FV.ex (x : FV) (r : RV) : Nat → Prop := fun k => k ∈ r.kn ∨ k = x.bp
section
variable {W W' W'' w : World} {x : FV} {r : RV} {q : LV} {L : Land} {ta u : Nat}
theorem PMemo.later {bp : Nat} (h : PMemo W bp L ta u) (hb : Below W.heap.size W W') : PMemo W' bp L ta u := by
  obtain ⟨es, c, h1, h2, h3⟩ := h
  exact ⟨es, c, h1.later hb, h2, fun e he i t hk => (h3 e he i t hk).later hb⟩
theorem PMemo.turned {bp : Nat} {ex : Nat → Prop} (h : PMemo W bp L ta u) (ht : Turn ex none W W') (hn : ¬ ex bp) : PMemo W' bp L ta u := by
  obtain ⟨es, c, h1, h2, h3⟩ := h
  exact ⟨es, c, (ht.block bp (Array.getElem?_eq_some_iff.1 h1).1 (by simp) fun he => absurd he hn).trans h1, h2, fun e he i t hk => (h3 e he i t hk).turned ht⟩
/-- What holds on the way, seen from the beginning. -/
structure St (w : World) (x : FV) (r : RV) (L : Land) (ta u : Nat) (W : World) : Prop where
  T : Turn (x.ex r) none w W
  K : KnAt W r L
  M : PMemo W x.bp L ta u
theorem Env.at' (h : Env w x r q L ta u) (s : St w x r L ta u W) : Env W x r q L ta u :=
  ⟨h.R.turn s.T s.K, s.T.box0 h.B1, s.T.box0 h.B2, s.T.box0 h.B3, s.T.box0 h.B4, s.T.box0 h.B5, s.M, h.ne⟩
theorem Env.st (h : Env w x r q L ta u) : St w x r L ta u w := ⟨Turn.refl _ _ _, h.R.kn, h.M⟩
theorem St.later (s : St w x r L ta u W) (hb : Below W.heap.size W W') : St w x r L ta u W' := ⟨s.T.next hb, s.K.later hb, s.M.later hb⟩
theorem St.trans (s : St w x r L ta u W) (k : St W x r L ta u W') : St w x r L ta u W' := ⟨s.T.trans k.T, k.K, k.M⟩
theorem St.turned (s : St w x r L ta u W) (hT : Turn r.ex none W W') (hK : KnAt W' r L) (hn : x.bp ∉ r.kn) : St w x r L ta u W' :=
  ⟨s.T.trans (hT.mono fun _ h => .inl h), hK, s.M.turned hT hn⟩
/-- The cells of a path's own block. -/
abbrev pathC (a : Option Addr) (n c : Nat) (b : Bool) : Array Value := #[.slice a n c, .bool b]
theorem HopsAt.but {a : Option Addr} {l : List Hp} {g : Nat} {a1 : Option Addr} {n1 c1 : Nat} {k1 : Bool} {T : TypeId} (h : HopsAt W a l) (hB : Box W g (pathC a1 n1 c1 k1) T) (hb : But g W W') : HopsAt W' a l := by
  rcases h with h | ⟨b, o, h1, h2⟩
  · exact .inl h
  · refine .inr ⟨b, o, h1, fun i y hy j v hv => ?_⟩
    have h3 := h2 i y hy j v hv
    have hint : ∃ z : Int, v = .int .i64 z := by
      obtain ⟨p, _, rfl⟩ := List.mem_map.1 (List.mem_of_getElem? hy)
      have := List.mem_of_getElem? hv
      simp only [Hp.vs, List.mem_cons, List.not_mem_nil, or_false] at this
      rcases this with rfl | rfl | rfl <;> exact ⟨_, rfl⟩
    obtain ⟨z, rfl⟩ := hint
    by_cases hbg : b = g
    · subst hbg
      rw [hB.cell] at h3
      rcases hoff : o + i * 3 + j with _ | _ | m
      · rw [hoff] at h3; cases h3
      · rw [hoff] at h3; cases h3
      · rw [hoff] at h3; cases h3
    · rw [World.cell?] at h3 ⊢
      rw [show W'.heap[b]? = W.heap[b]? from hb.block b hbg]; exact h3
theorem PathAt.but {v : Value} {o : Option (List Hp)} {g : Nat} {a1 : Option Addr} {n1 c1 : Nat} {k1 : Bool} {T : TypeId} (h : PathAt W v o) (hB : Box W g (pathC a1 n1 c1 k1) T) (hb : But g W W') : PathAt W' v o := by
  obtain ⟨a, c, h1, h2⟩ := h
  exact ⟨a, c, h1, HopsAt.but h2 hB hb⟩
theorem St.but {g : Nat} {a1 : Option Addr} {n1 c1 : Nat} {k1 : Bool} {T : TypeId} (s : St w x r L ta u W) (hB : Box W g (pathC a1 n1 c1 k1) T) (hb : But g W W') (hn : w.heap.size ≤ g) : St w x r L ta u W' := by
  refine ⟨s.T.but hb (.inl hn), s.K.but hB hb, ?_⟩
  obtain ⟨es, c, h1, h2, h3⟩ := s.M
  exact ⟨es, c, h1.but hB hb, h2, fun e he i t hk => (h3 e he i t hk).but hB hb⟩
/-- A path goes into the map. -/
theorem St.put {es : Array MapEntry} {c i t : Nat} {v : Value} (s : St w x r L ta u W) (hm : MapIs W x.bp es c) (hp : Pairs es) (hes : ∀ e ∈ es.toList, ∀ i t : Nat, e.key = pairV i t → PathAt W e.val (bestF L.alws L.st.length ta u (u - t) i))
    (hv : PathAt W v (bestF L.alws L.st.length ta u (u - t) i)) (hm' : MapIs W' x.bp (es.push ⟨pairV i t, v, c⟩) (c + 1)) (hg : W.grownBy W' (some x.bp)) (hn : x.bp ∉ r.kn) : St w x r L ta u W' ∧ ∀ v o, PathAt W v o → PathAt W' v o := by
  have hT : Turn (fun k => k = x.bp) none W W' := (Turn.refl _ _ W).put hm hg rfl
  refine ⟨⟨s.T.trans (hT.mono fun k h => .inr h), s.K.other hg hn, es.push ⟨pairV i t, v, c⟩, c + 1, hm', hp.push _ _ _ _, fun e he i' t' hk => ?_⟩, fun v o h => h.turned hT⟩
  simp only [Array.toList_push, List.mem_append, List.mem_singleton] at he
  rcases he with he | rfl
  · exact (hes e he i' t' hk).turned hT
  · obtain ⟨rfl, rfl⟩ := pairN hk
    exact hv.turned hT
end
def RetFind (o : Option (List Hp)) (x : FV) (r : RV) (L : Land) (ta u : Nat) (w : World) (e : Ending) (w' : World) : Prop := ∃ v, e = .returned v ∧ PathAt w' v o ∧ St w x r L ta u w'
end Go.Proofs.Ytfihdaoakfdlpaa
end

section
/- Layer 3, the walks: what holds between two rounds of the closure's loop; a row appended within a round. -/
open Go.RowKit Go.Shelf
namespace Go.Proofs.Ytfihdaoakfdlpaa
open Go.Hill

theorem wpListIn_append_row {F : Fence} {m : Nat} {P : Program} {ops : Array Oper} {rest : List Oper} {o : Oper} {a : Act} {W : World} {Q : Exit → Act → World → Prop} (hgd : o.guard = none) (s x : Operand) (t : TypeId)
    (ho : o.op = .call { callee := .builtin .append, args := #[s, x], argTypes := #[t, t] }) {E : TypeId} {size bytes : Nat} (he : Elem P t E size bytes) (h0 : 0 < size) {base : Nat} (hbase : base ≤ W.heap.size) {v : Value} {xs : List (List Value)} (hs : a.eval s = v) (hown : Own W base E size v xs)
    (ys : List (List Value)) (hl : ∀ x ∈ ys, x.length = size) (h1 : ∀ x ∈ ys, ∀ u ∈ x, u.oneCell' = true) {ad : Option Addr} {n c : Nat} (hx : a.eval x = .slice ad n c) (hnn : n = ys.length) (hr : RowAt W ad size ys) (hn : xs.length + ys.length ≤ 1000) (hby : bytes ≤ 1000)
    (h : ∀ v' W', Below base W W' → W.grownBy W' v.ownBlock → Own W' base E size v' (xs ++ ys) → wpListIn F m P ops Q rest (a.put o.dst v') W') : wpListIn F m P ops Q (o :: rest) a W := by
  subst hnn
  obtain ⟨v', w', hrun, h2, h3, h4⟩ := run_append_row (ty := o.type) he h0 W base hbase v xs hown ys hl h1 ad c hr hn hby
  refine wpListIn_plain hgd fun _ hK => ?_
  unfold Oper.wpIn
  refine ⟨?_, ?_⟩
  · simp [Oper.about, ho, resolve, Target.leads, Sem.run_pure]
  · rw [Oper.semAt_plain F _ _ (by rw [ho]; intro c hc'; cases hc')]
    simp [execOp, ho, resolve, invoke, builtin, hs, hx, hrun, Result.andThen]
    exact hK _ _ (h v' w' h2 h3 h4)
theorem own_one3 {W : World} {g base : Nat} {E : TypeId} {cs : Array Value} (hB : Box W g cs E) (hsz : cs.size = 3) (hb : base ≤ g) : Own W base E 3 (.slice (some ⟨g, 0, none⟩) 1 1) [cs.toList] :=
  ⟨⟨by simp [hsz], .inr ⟨g, 1, cs, rfl, hb, hB, Nat.le_refl _, by unfold maxLen; omega, by simp [hsz], by
    simp only [List.flatten_cons, List.flatten_nil, List.append_nil, List.length_cons, List.length_nil, Nat.zero_add, Nat.one_mul]
    exact List.take_of_length_le (by simp [hsz])⟩⟩, by simp [hsz]⟩
theorem elem_hop : Elem Try.prog 56 63 3 24 := ⟨by kernel_rfl, by kernel_rfl⟩
theorem hops_three (l : List Hp) : ∀ x ∈ l.map Hp.vs, x.length = 3 := fun x hx => by
  obtain ⟨p, _, rfl⟩ := List.mem_map.1 hx; rfl
theorem hops_cell (l : List Hp) : ∀ x ∈ l.map Hp.vs, ∀ u ∈ x, u.oneCell' = true := fun x hx u hu => by
  obtain ⟨p, _, rfl⟩ := List.mem_map.1 hx
  simp only [Hp.vs, List.mem_cons, List.not_mem_nil, or_false] at hu
  rcases hu with rfl | rfl | rfl <;> rfl
theorem row_grown {W W' : World} {row : Option Nat} {a : Option Addr} {size : Nat} {xs : List (List Value)} (h : RowAt W a size xs) (hg : W.grownBy W' row) (hr : ∀ k, row = some k → ∃ o : Obj, W.heap[k]? = some o ∧ o.isCells = false) : RowAt W' a size xs := by
  rcases h with h | ⟨b, o, h1, h2⟩
  · exact .inl h
  · refine .inr ⟨b, o, h1, fun i x hx j v hv => ?_⟩
    have h3 := h2 i x hx j v hv
    have hlt := block_lt_of_cell h3
    have hb : W'.heap[b]? = W.heap[b]? := hg.block b hlt fun e => by
      obtain ⟨ob, h4, h5⟩ := hr b e.symm
      rw [World.cell?] at h3
      simp only [h4] at h3
      cases ob <;> first | (cases h5; done) | cases h3
    rw [World.cell?] at h3 ⊢
    simp only [hb]; exact h3
theorem PathAt.grown {W W' : World} {row : Option Nat} {v : Value} {o : Option (List Hp)} (h : PathAt W v o) (hg : W.grownBy W' row) (hr : ∀ k, row = some k → ∃ o : Obj, W.heap[k]? = some o ∧ o.isCells = false) : PathAt W' v o := by
  obtain ⟨a, c, h1, h2⟩ := h
  exact ⟨a, c, h1, row_grown h2 hg hr⟩
/-! ### An entry goes into a map of spots, new or in place of an elder one -/
theorem spot_findAt (i j : Int) : ∀ (es : List MapEntry) (k : Nat), (∀ e ∈ es, ∃ a b, e.key = pairV a b) →
    (∀ w, (Instr.findAsking 93 (pairV i j) es k).run Try.prog w = .ok none w) ∨
    ∃ m e, (∀ w, (Instr.findAsking 93 (pairV i j) es k).run Try.prog w = .ok (some (k + m, e.val)) w) ∧ es[m]? = some e ∧ e.key = pairV i j := by
  intro es
  induction es with
  | nil => intro k _; exact .inl fun w => by simp [Instr.findAsking]
  | cons e es ih =>
    intro k h
    obtain ⟨a, b, he⟩ := h e (by simp)
    have hq : ∀ w, (Op.equal 93 (pairV i j) e.key).run Try.prog w = .ok (i == a && j == b) w := fun w => by rw [he]; exact spot_equal w 9998 i j a b
    by_cases hk : i = a ∧ j = b
    · obtain ⟨rfl, rfl⟩ := hk
      exact .inr ⟨0, e, fun w => by simp [Instr.findAsking, hq], by simp, he⟩
    · have hkf : (i == a && j == b) = false := by rw [Bool.eq_false_iff]; simpa using hk
      rcases ih (k + 1) (fun e he => h e (by simp [he])) with h1 | ⟨m, e', h1, h2, h3⟩
      · exact .inl fun w => by simp only [Instr.findAsking, Sem.run_bind, hq, hkf, Result.andThen_ok]; simpa using h1 w
      · refine .inr ⟨m + 1, e', fun w => ?_, by simpa using h2, h3⟩
        simp only [Instr.findAsking, Sem.run_bind, hq, hkf, Result.andThen_ok]
        have := h1 w
        rw [show k + 1 + m = k + (m + 1) by omega] at this
        simpa using this
theorem spot_keyAt (i j : Int) (es : List MapEntry) (h : ∀ e ∈ es, ∃ a b, e.key = pairV a b) :
    (∀ w, (Instr.findKey 93 (pairV i j) es).run Try.prog w = .ok none w) ∨
    ∃ m e, (∀ w, (Instr.findKey 93 (pairV i j) es).run Try.prog w = .ok (some (m, e.val)) w) ∧ es[m]? = some e ∧ e.key = pairV i j := by
  have hu := Try.underlying93
  cases es with
  | nil => exact .inl fun w => by unfold Instr.findKey; simp only [Sem.run_bind, run_underlying hu, Result.andThen_ok]; simp [Instr.findNow]
  | cons e es =>
    obtain ⟨a, b, he⟩ := h e (by simp)
    have : ∀ w, (Instr.findKey 93 (pairV i j) (e :: es)).run Try.prog w = (Instr.findAsking 93 (pairV i j) (e :: es) 0).run Try.prog w := fun w => by
      unfold Instr.findKey; simp only [Sem.run_bind, run_underlying hu, Result.andThen_ok]; simp [Instr.findNow, Instr.sameNow]
    simp only [this]
    rcases spot_findAt i j (e :: es) 0 h with h1 | ⟨m, e', h1, h2, h3⟩
    · exact .inl h1
    · exact .inr ⟨m, e', fun w => by rw [h1, Nat.zero_add], h2, h3⟩
theorem put_any {M V : TypeId} (hu : Try.prog.underlying M = some (.map 93 V)) {es : Array MapEntry} (hp : Pairs es) (i j : Int) (v : Value) {W : World} {bm clock : Nat} (hm : MapIs W bm es clock) :
    ∃ W' es' clock', (Instr.mapUpdate M (.map (some bm)) (pairV i j) v).run Try.prog W = .ok () W' ∧ MapIs W' bm es' clock' ∧ W.grownBy W' (some bm) ∧ Pairs es' ∧ ∀ e ∈ es'.toList, e ∈ es.toList ∨ (e.key = pairV i j ∧ e.val = v) := by
  have hlt : bm < W.heap.size := (Array.getElem?_eq_some_iff.1 hm).1
  have hW : ∀ o, W.grownBy { W with heap := W.heap.setIfInBounds bm o } (some bm) := fun o => ⟨rfl, rfl, rfl, by simp, fun k _ hk => by
    simp only [ne_eq, Option.some.injEq] at hk
    simp [Array.getElem?_setIfInBounds_ne (Ne.symm hk)]⟩
  rcases spot_keyAt i j es.toList hp with h1 | ⟨m, e, h1, h2, h3⟩
  · refine ⟨{ W with heap := W.heap.setIfInBounds bm (.map (es.push ⟨pairV i j, v, clock⟩) (clock + 1)) }, es.push ⟨pairV i j, v, clock⟩, clock + 1, ?_, ?_, hW _, hp.push i j v clock, fun e he => ?_⟩
    · unfold Instr.mapUpdate
      simp only [Sem.run_bind, run_underlying hu, Result.andThen_ok, MapKept.run_getObj_map (show W.heap[bm]? = _ from hm), spot_check, h1, MapKept.run_setObj_map _ (show W.heap[bm]? = _ from hm)]
    · simp [MapIs, hlt]
    · simp only [Array.toList_push, List.mem_append, List.mem_singleton] at he
      rcases he with he | rfl
      · exact .inl he
      · exact .inr ⟨rfl, rfl⟩
  · have h4 : es[m]? = some e := by simpa using h2
    have hkey : (Instr.keyThatStays (((es[m]?).map (·.key)).getD (pairV i j)) (pairV i j)).run Try.prog = fun w => .ok (pairV i j) w := by
      funext w
      rw [h4, Option.map_some, Option.getD_some, h3]
      unfold Instr.keyThatStays
      simp [Instr.sameBits]
    have hmem : ∀ x ∈ (es.modify m fun e => { e with key := pairV i j, val := v }).toList, x ∈ es.toList ∨ (x.key = pairV i j ∧ x.val = v) := fun x hx => by
      obtain ⟨n, hn⟩ := List.getElem?_of_mem hx
      rw [Array.getElem?_toList, Array.getElem?_modify] at hn
      split at hn
      · rename_i hmn
        cases he : es[n]? with
        | none => rw [he] at hn; cases hn
        | some y => rw [he] at hn; cases hn; exact .inr ⟨rfl, rfl⟩
      · exact .inl (List.mem_of_getElem? (by simpa using hn))
    refine ⟨{ W with heap := W.heap.setIfInBounds bm (.map (es.modify m fun e => { e with key := pairV i j, val := v }) clock) }, es.modify m fun e => { e with key := pairV i j, val := v }, clock, ?_, ?_, hW _, fun x hx => ?_, hmem⟩
    · unfold Instr.mapUpdate
      simp only [Sem.run_bind, run_underlying hu, Result.andThen_ok, MapKept.run_getObj_map (show W.heap[bm]? = _ from hm), spot_check, h1, hkey, MapKept.run_setObj_map _ (show W.heap[bm]? = _ from hm)]
    · simp [MapIs, hlt]
    · rcases hmem x hx with hx | ⟨hx, _⟩
      · exact hp x hx
      · exact ⟨i, j, hx⟩

section
variable {W W' w w6 : World} {x : FV} {r : RV} {q : LV} {L : Land} {ta u : Nat}
theorem Env.low (h : Env w x r q L ta u) : ∀ k, x.ex r k → k < w.heap.size := by
  rintro k (hk | rfl)
  · exact h.R.kn.lt hk
  · obtain ⟨es, c, h1, _⟩ := h.M
    exact (Array.getElem?_eq_some_iff.1 h1).1
theorem St.grown {n0 : Nat} {row : Option Nat} (s : St w x r L ta u W) (hex : ∀ k, x.ex r k → k < w.heap.size) (hn : w.heap.size ≤ n0) (hg : W.grownBy W' row) (hr : ∀ k, row = some k → n0 ≤ k ∧ ∃ o : Obj, W.heap[k]? = some o ∧ o.isCells = false) : St w x r L ta u W' := by
  have hne : ∀ k, x.ex r k → some k ≠ row := fun k hk e => by
    have := (hr k e.symm).1
    have := hex k hk
    omega
  refine ⟨s.T.grown hg fun k e => Nat.le_trans hn (hr k e).1, s.K.same fun k es c hk hm => (hg.block k (Array.getElem?_eq_some_iff.1 hm).1 (hne k (.inl hk))).trans hm, ?_⟩
  obtain ⟨es, c, h1, h2, h3⟩ := s.M
  exact ⟨es, c, (hg.block x.bp (Array.getElem?_eq_some_iff.1 h1).1 (hne _ (.inr rfl))).trans h1, h2, fun e he i t hk => (h3 e he i t hk).grown hg fun k e => (hr k e).2⟩
/-- A path goes into the map. -/
theorem St.put' {es es' : Array MapEntry} {c c' i t : Nat} {v : Value} (s : St w x r L ta u W) (hm : MapIs W x.bp es c) (hes : ∀ e ∈ es.toList, ∀ i t : Nat, e.key = pairV i t → PathAt W e.val (bestF L.alws L.st.length ta u (u - t) i))
    (hv : PathAt W v (bestF L.alws L.st.length ta u (u - t) i)) (hm' : MapIs W' x.bp es' c') (hp' : Pairs es') (hmem : ∀ e ∈ es'.toList, e ∈ es.toList ∨ (e.key = pairV i t ∧ e.val = v)) (hg : W.grownBy W' (some x.bp)) (hn : x.bp ∉ r.kn) : St w x r L ta u W' ∧ Turn (x.ex r) none W W' := by
  have hT : Turn (fun k => k = x.bp) none W W' := (Turn.refl _ _ W).put hm hg rfl
  refine ⟨⟨s.T.trans (hT.mono fun k h => .inr h), s.K.other hg hn, es', c', hm', hp', fun e he i' t' hk => ?_⟩, hT.mono fun k h => .inr h⟩
  rcases hmem e he with he | ⟨h1, h2⟩
  · exact (hes e he i' t' hk).turned hT
  · rw [h1] at hk
    obtain ⟨rfl, rfl⟩ := pairN hk
    rw [h2]
    exact hv.turned hT
theorem row_leave {a : Option Addr} {size : Nat} {xs : List (List Value)} (h : RowAt W a size xs) (hk : ∀ k : Nat, W.heap[k]? ≠ some (Obj.deferred (some [])) → W'.heap[k]? = W.heap[k]?) : RowAt W' a size xs := by
  rcases h with h | ⟨b, o, h1, h2⟩
  · exact .inl h
  · refine .inr ⟨b, o, h1, fun i x hx j v hv => ?_⟩
    have h3 := h2 i x hx j v hv
    have hb : W'.heap[b]? = W.heap[b]? := hk b fun e => by
      rw [World.cell?] at h3
      simp only [e] at h3
      cases h3
    rw [World.cell?] at h3 ⊢
    simp only [hb]; exact h3
theorem St.leave (s : St w x r L ta u W) (hb : Below w.heap.size W W') (hk : ∀ k : Nat, W.heap[k]? ≠ some (Obj.deferred (some [])) → W'.heap[k]? = W.heap[k]?) : St w x r L ta u W' := by
  refine ⟨s.T.out hb, s.K.same fun k es c _ hm => (hk k (by rw [hm]; exact fun e => by injection e with e; cases e)).trans hm, ?_⟩
  obtain ⟨es, c, h1, h2, h3⟩ := s.M
  refine ⟨es, c, (hk x.bp (by rw [show W.heap[x.bp]? = _ from h1]; exact fun e => by injection e with e; cases e)).trans h1, h2, fun e he i t hkey => ?_⟩
  obtain ⟨a, c, h4, h5⟩ := h3 e he i t hkey
  exact ⟨a, c, h4, row_leave h5 hk⟩
/-- How the closure returns. -/
theorem find_end {m : Nat} {b7 n c : Nat} {a : Option Addr} {k : Bool} {o : Option (List Hp)} {ds : List Deferred} {tmps : Array Value} (hB : Box W b7 (pathC a n c k) 90) (hm : Marks w.heap.size ds W) (hs : St w x r L ta u W) (hn : n = (ol o).length) (hk : k = o.isSome) (hr : HopsAt W a (ol o)) (ht : tmps.getD 7 undef = .pointer (some ⟨b7, 0, none⟩)) :
    LeavesInM Fence.wide m Try.prog Try.f48 tmps (RetFind o x r L ta u w) ds .returning W := by
  refine marks_leave hm (fun W' hb hk' => ?_) hs.T.size
  have hB' : Box W' b7 (pathC a n c k) 90 := marks_turn hk' hB
  refine ⟨_, results_cell_row rfl _ _ b7 90 (pathC a n c k) (0, 0) _ ht hB' Try.underlying90 rfl (by kernel_rfl), _, rfl, ⟨a, c, by rw [hn, hk], row_leave hr hk'⟩, hs.leave hb hk'⟩
/-- Between two rounds: the best path so far lies in block b8. -/
structure Next (w : World) (x : FV) (r : RV) (L : Land) (ta u : Nat) (w6 : World) (b8 : Nat) (o : Option (List Hp)) (W : World) : Prop where
  S : St w x r L ta u W
  T : Turn (x.ex r) (some b8) w6 W
  B : ∃ a c, Box W b8 (pathC a (ol o).length c o.isSome) 90 ∧ HopsAt W a (ol o)
theorem next_own {α : Type} {b8 : Nat} {f : List α → Option (List Hp)} (hex : ∀ k, x.ex r k → k < w.heap.size) (hn : w.heap.size ≤ w6.heap.size) : OwnFrom w6.heap.size (fun pre W => Next w x r L ta u w6 b8 (f pre) W) := fun p W W' row h hg hr =>
  ⟨h.S.grown hex hn hg hr, h.T.grown hg fun k e => (hr k e).1, by
    obtain ⟨a, c, h1, h2⟩ := h.B
    refine ⟨a, c, (hg.block b8 h1.lt fun e => ?_).trans h1, row_grown h2 hg fun k e => (hr k e).2⟩
    obtain ⟨_, o, h3, h4⟩ := hr b8 e.symm
    rw [show W.heap[b8]? = _ from h1] at h3
    cases h3; cases h4⟩
theorem body_keeps {W1 : World} {n0 b1 b8 : Nat} (hT : Turn (x.ex r) (some b8) W1 W') (hex : ∀ k, x.ex r k → k < w.heap.size) (hn : w.heap.size ≤ n0) (h8 : b8 < n0) (hb1 : b1 < W1.heap.size) (hne : b1 ≠ b8) (hlow : w.heap.size ≤ b1) : KeepsFrom n0 W1 W' ∧ W'.heap[b1]? = W1.heap[b1]? :=
  ⟨hT.from' (fun k hk => Nat.lt_of_lt_of_le (hex k hk) hn) (fun k e => by cases e; exact h8), hT.block b1 hb1 (fun e => hne (by injection e)) fun he => by have := hex b1 he; omega⟩
end
end Go.Proofs.Ytfihdaoakfdlpaa
end
