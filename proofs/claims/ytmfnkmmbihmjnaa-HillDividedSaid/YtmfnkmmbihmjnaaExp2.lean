/- The exported functions of the program, the walks: the hours; whom it reaches. -/
import Derived.Test.YtmfnkmmbihmjnaaExp1
open Go.RowKit
namespace Go.Proofs.Ytmfnkmmbihmjnaa
open Go.Hill

def Land.hrsE (L : Land) (fr to k : Int) : List Int × Int :=
  if L.chk = 0 then (if Land.ask2 L fr to k 0 = 0 then (L.hrs fr.toNat to.toNat k.toNat, 0) else ([], Land.ask2 L fr to k 0)) else ([], L.chk)
def Land.alwE (L : Land) (fr to : Int) : List Int × Int :=
  if L.chk = 0 then (if Land.ask2 L fr to 0 0 = 0 then (L.alw fr.toNat to.toNat, 0) else ([], Land.ask2 L fr to 0 0)) else ([], L.chk)
def Land.rchE (L : Land) (fr k t : Int) : List Int × Int :=
  if L.chk = 0 then (if Land.ask2 L fr fr k t = 2 then ([], 2) else (L.rch fr.toNat k.toNat t.toNat, 0)) else ([], L.chk)
/-- It returns a list, and an error. -/
def RetL (r : List Int × Int) (w : World) (e : Ending) (w' : World) : Prop :=
  ∃ a c, e = .returned (.tuple #[.slice a r.1.length c, .int .i64 r.2]) ∧ Below w.heap.size w w' ∧ IntsAt w' a r.1

set_option maxRecDepth 100000 in
set_option maxHeartbeats 1000000 in
theorem Hours_any (q : LV) (L : Land) (fr to k : Int) (w : World) (hL : LandAt w q L) (hs : Small L) :
    Calls Try.prog 33 #[landV q L, .int .i64 fr, .int .i64 to, .int .i64 k] w (RetL (Land.hrsE L fr to k) w) := by
  have HL := Lib.hid hL
  clear hL
  by_cases hc : L.chk = 0
  case neg =>
    rw [show Land.hrsE L fr to k = ([], L.chk) by unfold Land.hrsE; rw [if_neg hc]]
    go_enter Try.func33, Try.ntmps33
    go_wp2_with fail
    refine named2 (p := fun W => Calls _ _ _ W _) ?_
    intro W hW B1 B7
    have HNo := Lib.hid (work_no q L W (HL.out.later hW) hs hc)
    have hcb : (L.chk != 0) = true := by simpa using hc
    generalize L.chk = c at *
    clear hc
    refine HNo.out.mono ?_
    rintro e w1 ⟨rfl, hb1⟩
    replace hW := over hW hb1
    clear hb1 HNo B1 B7
    go_wp2_with fail
    go_ret2
    exact ⟨none, 0, rfl, al hW _, .inl rfl⟩
  obtain ⟨r, hr⟩ : ∃ r, r = Land.hrsE L fr to k := ⟨_, rfl⟩
  rw [← hr]
  rw [Land.hrsE, if_pos hc] at hr
  have HR := Lib.hid hr
  have HC := Lib.hid hc
  clear hr
  go_enter Try.func33, Try.ntmps33
  go_wp2_with fail
  refine named2 (p := fun W => Calls _ _ _ W _) ?_
  intro W hW B1 B7
  refine (work_yes q L (fun _ => False) W (HL.out.later hW) hs hc).mono ?_
  rintro e w1 ⟨bw, bm, rfl, hb1, hw1, hbw, hbm⟩
  have HBw := Lib.hid (show w.heap.size ≤ bm from Nat.le_trans hW.size hbm)
  replace hW := over hW hb1
  (try clear c1 t1 c7 t7); replace B1 := B1.later hb1; replace B7 := B7.later hb1; have c1 := B1.cell; have t1 := B1.lt; have c7 := B7.cell; have t7 := B7.lt
  have HW1 := Lib.hid hw1
  clear hw1 hb1 hbw hbm
  go_wp2_with fail
  refine named2 (p := fun W => Calls _ _ _ W _) ?_
  intro w2 hb2 B10 B12
  replace hW := over hW hb2
  (try clear c1 t1 c7 t7); replace B1 := B1.later hb2; replace B7 := B7.later hb2; have c1 := B1.cell; have t1 := B1.lt; have c7 := B7.cell; have t7 := B7.lt
  have c10 := B10.cell; have t10 := B10.lt; have c12 := B12.cell; have t12 := B12.lt
  have HW2 := Lib.hid (HW1.out.later hb2)
  clear hb2 HW1
  obtain ⟨ak, hak⟩ : ∃ ak, ak = Land.ask2 L fr to k 0 := ⟨_, rfl⟩
  have HAsk : Hid (∀ w', Calls Try.prog 46 #[landV q L, .agg #[.int .i64 fr, .int .i64 to], .int .i64 k, .int .i64 0] w' (Ret (.int .i64 ak) w')) := fun w' => by rw [hak]; exact asked_any q _ _ _ _ fr to k 0 w' hs.l1 hs.l3 hs.l4
  have HAk := Lib.hid hak
  clear hak
  refine (HAsk.out _).mono ?_
  rintro e w3 ⟨rfl, hb3⟩
  replace hW := over hW hb3
  (try clear c1 t1 c7 t7 c10 t10 c12 t12); replace B1 := B1.later hb3; replace B7 := B7.later hb3; replace B10 := B10.later hb3; replace B12 := B12.later hb3; have c1 := B1.cell; have t1 := B1.lt; have c7 := B7.cell; have t7 := B7.lt; have c10 := B10.cell; have t10 := B10.lt; have c12 := B12.cell; have t12 := B12.lt
  have HW3 := Lib.hid (HW2.out.later hb3)
  clear hb3 HW2 HAsk
  by_cases h0 : ak = 0
  · subst h0
    have h1 : askd L.st.length L.cs.length L.sn.length fr to k 0 = 0 := HAk.out.symm
    obtain ⟨i, j, c, d, rfl, rfl, rfl, hd0, hi, hj, hk, ht, _⟩ := askd_zero h1
    have HR2 := Lib.hid (HR.out.trans (if_pos HAk.out.symm))
    simp only [Int.toNat_natCast] at HR2
    clear h1 HR hd0
    have HHrs : Hid (Calls Try.prog 59 #[landV q L, .func (.func 60) #[] #[.pointer (some ⟨w1.heap.size, 0, none⟩), .pointer (some ⟨w1.heap.size + 1, 0, none⟩), .pointer (some ⟨w.heap.size + 1, 0, none⟩)]] w3 (RetList (L.hrs i j c) bm w3)) :=
      hours_any bw bm q L (fun _ => False) (fun t => L.can i j c t) 60 _ w3 HW3.out (fun _ h => h.elim) hs.l4 (fun _ _ => by kernel_rfl)
        (fun t ht av' W hg hw hav => hours1_any bw bm _ _ _ q L av' i j c t W hw hav HC.out hi hj hk ht (HW3.out.keep B10 hg) (HW3.out.keep B12 hg) (HW3.out.keep B7 hg))
    go_wp2_with fail
    refine HHrs.out.mono ?_
    rintro e w4 ⟨ra, rc, rfl, hg, hr4⟩
    have HB : Hid (Below w.heap.size w w4) := hW.trans (below_grown hg hW.size (fun k hk => by cases hk; exact HBw.out))
    have HR4 := Lib.hid hr4
    clear hg hr4 c1 t1 c7 t7 c10 t10 c12 t12 B1 B7 B10 B12 hW HHrs
    go_wp2_with fail
    go_ret2
    obtain rfl := HR2.out
    exact ⟨ra, rc, rfl, HB.out, HR4.out⟩
  · have hcb : (ak != 0) = true := by simpa using h0
    have HR2 := Lib.hid (HR.out.trans (if_neg (by rw [← HAk.out]; exact h0)))
    rw [← HAk.out] at HR2
    clear h0
    go_wp2_with fail
    go_ret2
    obtain rfl := HR2.out
    exact ⟨none, 0, rfl, hW, .inl rfl⟩
set_option maxRecDepth 100000 in
set_option maxHeartbeats 1000000 in
theorem Always_any (q : LV) (L : Land) (fr to : Int) (w : World) (hL : LandAt w q L) (hs : Small L) :
    Calls Try.prog 36 #[landV q L, .int .i64 fr, .int .i64 to] w (RetL (Land.alwE L fr to) w) := by
  have HL := Lib.hid hL
  clear hL
  by_cases hc : L.chk = 0
  case neg =>
    rw [show Land.alwE L fr to = ([], L.chk) by unfold Land.alwE; rw [if_neg hc]]
    go_enter Try.func36, Try.ntmps36
    go_wp2_with fail
    refine named1 (p := fun W => Calls _ _ _ W _) ?_
    intro W hW B1
    have HNo := Lib.hid (work_no q L W (HL.out.later hW) hs hc)
    have hcb : (L.chk != 0) = true := by simpa using hc
    generalize L.chk = c at *
    clear hc
    refine HNo.out.mono ?_
    rintro e w1 ⟨rfl, hb1⟩
    replace hW := over hW hb1
    clear hb1 HNo B1
    go_wp2_with fail
    go_ret2
    exact ⟨none, 0, rfl, al hW _, .inl rfl⟩
  obtain ⟨r, hr⟩ : ∃ r, r = Land.alwE L fr to := ⟨_, rfl⟩
  rw [← hr]
  rw [Land.alwE, if_pos hc] at hr
  have HR := Lib.hid hr
  have HC := Lib.hid hc
  clear hr
  go_enter Try.func36, Try.ntmps36
  go_wp2_with fail
  refine named1 (p := fun W => Calls _ _ _ W _) ?_
  intro W hW B1
  refine (work_yes q L (fun _ => False) W (HL.out.later hW) hs hc).mono ?_
  rintro e w1 ⟨bw, bm, rfl, hb1, hw1, hbw, hbm⟩
  have HBw := Lib.hid (show w.heap.size ≤ bm from Nat.le_trans hW.size hbm)
  replace hW := over hW hb1
  (try clear c1 t1); replace B1 := B1.later hb1; have c1 := B1.cell; have t1 := B1.lt
  have HW1 := Lib.hid hw1
  clear hw1 hb1 hbw hbm
  go_wp2_with fail
  refine named2 (p := fun W => Calls _ _ _ W _) ?_
  intro w2 hb2 B10 B12
  replace hW := over hW hb2
  (try clear c1 t1); replace B1 := B1.later hb2; have c1 := B1.cell; have t1 := B1.lt
  have c10 := B10.cell; have t10 := B10.lt; have c12 := B12.cell; have t12 := B12.lt
  have HW2 := Lib.hid (HW1.out.later hb2)
  clear hb2 HW1
  obtain ⟨ak, hak⟩ : ∃ ak, ak = Land.ask2 L fr to 0 0 := ⟨_, rfl⟩
  have HAsk : Hid (∀ w', Calls Try.prog 46 #[landV q L, .agg #[.int .i64 fr, .int .i64 to], .int .i64 0, .int .i64 0] w' (Ret (.int .i64 ak) w')) := fun w' => by rw [hak]; exact asked_any q _ _ _ _ fr to 0 0 w' hs.l1 hs.l3 hs.l4
  have HAk := Lib.hid hak
  clear hak
  refine (HAsk.out _).mono ?_
  rintro e w3 ⟨rfl, hb3⟩
  replace hW := over hW hb3
  (try clear c1 t1 c10 t10 c12 t12); replace B1 := B1.later hb3; replace B10 := B10.later hb3; replace B12 := B12.later hb3; have c1 := B1.cell; have t1 := B1.lt; have c10 := B10.cell; have t10 := B10.lt; have c12 := B12.cell; have t12 := B12.lt
  have HW3 := Lib.hid (HW2.out.later hb3)
  clear hb3 HW2 HAsk
  by_cases h0 : ak = 0
  · subst h0
    have h1 : askd L.st.length L.cs.length L.sn.length fr to 0 0 = 0 := HAk.out.symm
    obtain ⟨i, j, c, d, rfl, rfl, hc0, hd0, hi, hj, hk, ht, _⟩ := askd_zero h1
    have HR2 := Lib.hid (HR.out.trans (if_pos HAk.out.symm))
    simp only [Int.toNat_natCast] at HR2
    clear h1 HR hd0 hc0
    have HHrs : Hid (Calls Try.prog 59 #[landV q L, .func (.func 62) #[] #[.pointer (some ⟨w1.heap.size, 0, none⟩), .pointer (some ⟨w1.heap.size + 1, 0, none⟩), .pointer (some ⟨w.heap.size, 0, none⟩)]] w3 (RetList (L.alw i j) bm w3)) :=
      hours_any bw bm q L (fun _ => False) (fun t => L.stick i j t == L.cs.length) 62 _ w3 HW3.out (fun _ h => h.elim) hs.l4 (fun _ _ => by kernel_rfl)
        (fun t ht av' W hg hw hav => always1_any bw bm _ _ _ q L av' i j t W hw hav HC.out hi hj ht (HW3.out.keep B10 hg) (HW3.out.keep B12 hg) (HW3.out.keep B1 hg))
    go_wp2_with fail
    refine HHrs.out.mono ?_
    rintro e w4 ⟨ra, rc, rfl, hg, hr4⟩
    have HB : Hid (Below w.heap.size w w4) := hW.trans (below_grown hg hW.size (fun k hk => by cases hk; exact HBw.out))
    have HR4 := Lib.hid hr4
    clear hg hr4 c1 t1 c10 t10 c12 t12 B1 B10 B12 hW HHrs
    go_wp2_with fail
    go_ret2
    obtain rfl := HR2.out
    exact ⟨ra, rc, rfl, HB.out, HR4.out⟩
  · have hcb : (ak != 0) = true := by simpa using h0
    have HR2 := Lib.hid (HR.out.trans (if_neg (by rw [← HAk.out]; exact h0)))
    rw [← HAk.out] at HR2
    clear h0
    go_wp2_with fail
    go_ret2
    obtain rfl := HR2.out
    exact ⟨none, 0, rfl, hW, .inl rfl⟩

theorem askd_same {n m h : Nat} {fr k t : Int} (e : askd n m h fr fr k t ≠ 2) : ∃ i c d : Nat, fr = i ∧ k = c ∧ t = d ∧ i < n ∧ c < m ∧ d < h := by
  unfold askd at e
  split at e
  · rename_i hh
    simp [inB] at hh
    exact ⟨fr.toNat, k.toNat, t.toNat, by omega, by omega, by omega, by omega, by omega, by omega⟩
  · exact absurd rfl e

set_option maxRecDepth 100000 in
set_option maxHeartbeats 2000000 in
theorem Reach_any (q : LV) (L : Land) (fr k t : Int) (w : World) (hL : LandAt w q L) (hs : Small L) :
    Calls Try.prog 19 #[landV q L, .int .i64 fr, .int .i64 k, .int .i64 t] w (RetL (Land.rchE L fr k t) w) := by
  have HL := Lib.hid hL
  clear hL
  by_cases hc : L.chk = 0
  case neg =>
    rw [show Land.rchE L fr k t = ([], L.chk) by unfold Land.rchE; rw [if_neg hc]]
    go_enter Try.func19, Try.ntmps19
    go_wp2_with fail
    refine named1 (p := fun W => Calls _ _ _ W _) ?_
    intro W hW B1
    have HNo := Lib.hid (work_no q L W (HL.out.later hW) hs hc)
    have hcb : (L.chk != 0) = true := by simpa using hc
    generalize L.chk = c at *
    clear hc
    refine HNo.out.mono ?_
    rintro e w1 ⟨rfl, hb1⟩
    replace hW := over hW hb1
    clear hb1 HNo B1
    go_wp2_with fail
    go_ret2
    exact ⟨none, 0, rfl, hW, .inl rfl⟩
  obtain ⟨r, hr⟩ : ∃ r, r = Land.rchE L fr k t := ⟨_, rfl⟩
  rw [← hr]
  rw [Land.rchE, if_pos hc] at hr
  have HR := Lib.hid hr
  have HC := Lib.hid hc
  clear hr
  have l1 := hs.l1
  go_enter Try.func19, Try.ntmps19
  go_wp2_with fail
  refine named1 (p := fun W => Calls _ _ _ W _) ?_
  intro W hW B1
  refine (work_yes q L (fun _ => False) W (HL.out.later hW) hs hc).mono ?_
  rintro e w1 ⟨bw, bm, rfl, hb1, hw1, hbw, hbm⟩
  have HBw := Lib.hid (show w.heap.size ≤ bm from Nat.le_trans hW.size hbm)
  replace hW := over hW hb1
  (try clear c1 t1); replace B1 := B1.later hb1; have c1 := B1.cell; have t1 := B1.lt
  have HW1 := Lib.hid hw1
  clear hw1 hb1 hbw hbm
  go_wp2_with fail
  obtain ⟨ak, hak⟩ : ∃ ak, ak = Land.ask2 L fr fr k t := ⟨_, rfl⟩
  have HAsk : Hid (∀ w', Calls Try.prog 46 #[landV q L, .agg #[.int .i64 fr, .int .i64 fr], .int .i64 k, .int .i64 t] w' (Ret (.int .i64 ak) w')) := fun w' => by rw [hak]; exact asked_any q _ _ _ _ fr fr k t w' hs.l1 hs.l3 hs.l4
  have HAk := Lib.hid hak
  clear hak
  refine (HAsk.out _).mono ?_
  rintro e w3 ⟨rfl, hb3⟩
  replace hW := over hW hb3
  (try clear c1 t1); replace B1 := B1.later hb3; have c1 := B1.cell; have t1 := B1.lt
  have HW3 := Lib.hid (HW1.out.later hb3)
  clear hb3 HW1 HAsk
  by_cases h0 : ak = 2
  · subst h0
    have HR2 := Lib.hid (HR.out.trans (if_pos HAk.out.symm))
    go_wp2_with fail
    go_ret2
    obtain rfl := HR2.out
    exact ⟨none, 0, rfl, hW, .inl rfl⟩
  · have h1 : askd L.st.length L.cs.length L.sn.length fr fr k t ≠ 2 := fun e => h0 (HAk.out.trans e)
    obtain ⟨i, c, d, rfl, rfl, rfl, hi, hk, ht⟩ := askd_same h1
    have HR2 := Lib.hid (HR.out.trans (if_neg (by rw [← HAk.out]; exact h0)))
    simp only [Int.toNat_natCast] at HR2
    have h0b : (ak == 2) = false := by simpa using h0
    clear h1 HR h0
    obtain ⟨W, rfl⟩ : ∃ W : World, W = w3 := ⟨_, rfl⟩
    go_wp2_with fail
    go_loopw [13, 36] (fun v i' wr => ∃ n : Nat, n ≤ L.st.length ∧ i' = .int .i64 n ∧ W.grownBy wr (some bm) ∧ WorkAt wr bw bm q L (fun b => False ∨ v.ownBlock = some b) ∧ Own wr W.heap.size 3 1 v (ivs (sel (fun j => L.can i j c d) n))) (fun _ i' _ => L.st.length - (intOf i').toNat)
    case atStart => exact ⟨0, Nat.zero_le _, rfl, Below.grown (Below.refl _ _) _, HW3.out.more _ (fun b hb => by rcases hb with hb | hb; exact hb.elim; cases hb), Own.nil _ _ _ _⟩
    case round =>
      obtain ⟨n, hn, rfl, hg, hwr, ho⟩ := hrel
      have HWr := Lib.hid hwr
      have HG := Lib.hid hg
      have HO := Lib.hid ho
      have hsz := hg.size
      by_cases hlt : n < L.st.length
      · obtain ⟨pv, hpv⟩ : ∃ pv, pv = L.can i n c d := ⟨_, rfl⟩
        have HPv := Lib.hid hpv
        have hcall := can_any bw bm q L _ i n c d wr hwr (fun b hb => by
          rcases hb with hb | hb
          · exact hb.elim
          · exact (ho.1.lt b hb).2) HC.out hi hlt hk ht
        rw [← hpv] at hcall
        have HCall := Lib.hid hcall
        clear hcall hpv hg hwr ho
        go_wp2_with fail
        refine HCall.out.mono ?_
        rintro e w2 ⟨rfl, hg2, hw2⟩
        have HG2 := Lib.hid (grown_trans HG.out hg2)
        have HW2 := Lib.hid hw2
        have HO2 := Lib.hid (HWr.out.own HO.out hg2)
        have hb2 := HG2.out.size
        clear hg2 hw2 HCall
        cases pv with
        | false =>
          go_wp2_with fail
          go_roundw
          case rel => exact ⟨n + 1, by omega, by go_num, HG2.out, HW2.out, by rw [sel_no (p := fun j => L.can i j c d) (n := n) HPv.out.symm]; exact HO2.out⟩
          case measure => simp [intOf]; omega
        | true =>
          have hnl := sel_len (fun j => L.can i j c d) n
          go_wp2_with (at_builtin; refine named1 (p := wpList _ _ _ _ _) ?_; intro w6 hb6 B53; have hO := HO2.out.later hb6; refine wpList_grow2 rfl (.tmp 46) (.tmp 48) 30 rfl elem_int rfl hO rfl B53 rfl (by omega) rfl (n := (sel (fun j => L.can i j c d) n).length) (by simp) (by omega) (by omega) (Nat.le_trans hb2 hb6.size) ?_; intro a' c' W' hO' hb' hg' hnew; have hfin := work_grow HW3.out (grown_trans HG2.out (Below.grown hb6 _)) (HW2.out.later hb6) hO hg' hnew; have HFin := Lib.hid hfin; clear hfin hg' hnew hO B53 hb' hb6)
          have HN : Hid (Own W' W.heap.size 3 1 (.slice a' ((sel (fun j => L.can i j c d) n).length + 1) c') (ivs (sel (fun j => L.can i j c d) (n + 1)))) := by
            rw [Hid, sel_yes (p := fun j => L.can i j c d) (n := n) HPv.out.symm, ivs, List.map_append]; exact hO'
          clear hO'
          go_roundw
          case rel => exact ⟨n + 1, by omega, by go_num, HFin.out.1, HFin.out.2, HN.out⟩
          case measure => simp [intOf]; omega
      · obtain rfl : n = L.st.length := by omega
        obtain ⟨ra, rc, rfl, _, hr⟩ := ho.row
        rw [List.length_map]
        have HRr := Lib.hid hr
        clear hr ho HO hwr HWr hg
        go_wp2_with fail
        go_ret2
        obtain rfl := HR2.out
        exact ⟨ra, rc, rfl, hW.trans (below_grown HG.out hW.size (fun k hk => by cases hk; exact HBw.out)), HRr.out⟩
end Go.Proofs.Ytmfnkmmbihmjnaa
