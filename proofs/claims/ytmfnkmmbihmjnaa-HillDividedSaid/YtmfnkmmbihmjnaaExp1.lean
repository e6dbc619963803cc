/- The exported functions of the program, the walks: why; where it sticks; how many mirrors. -/
import Derived.Test.YtmfnkmmbihmjnaaWork5
open Go.RowKit
namespace Go.Proofs.Ytmfnkmmbihmjnaa
open Go.Hill

/-- The answers, or the error. -/
def Land.ask2 (L : Land) (fr to k t : Int) : Int := askd L.st.length L.cs.length L.sn.length fr to k t
def Land.whyE (L : Land) (fr to k t : Int) : Int × Int × Int := if L.chk = 0 then (if Land.ask2 L fr to k t = 0 then ((L.why fr.toNat to.toNat k.toNat t.toNat).1, (L.why fr.toNat to.toNat k.toNat t.toNat).2, 0) else (0, 0, Land.ask2 L fr to k t)) else (0, 0, L.chk)
def Land.stickE (L : Land) (fr to t : Int) : Int × Int :=
  if L.chk = 0 then (if Land.ask2 L fr to 0 t = 0 then (if L.stick fr.toNat to.toNat t.toNat = L.cs.length then (0, 7) else ((L.stick fr.toNat to.toNat t.toNat : Nat), 0)) else (0, Land.ask2 L fr to 0 t)) else (0, L.chk)
def Land.mirE (L : Land) (fr to t : Int) : Int × Int :=
  if L.chk = 0 then (if Land.ask2 L fr to 0 t = 0 then (if L.up t.toNat = false then (0, 7) else (L.need fr.toNat to.toNat t.toNat, 0)) else (0, Land.ask2 L fr to 0 t)) else (0, L.chk)


set_option maxRecDepth 100000 in
set_option maxHeartbeats 1000000 in
theorem Why_any (q : LV) (L : Land) (fr to k t : Int) (w : World) (hL : LandAt w q L) (hs : Small L) :
    Calls Try.prog 35 #[landV q L, .int .i64 fr, .int .i64 to, .int .i64 k, .int .i64 t] w (Ret (.tuple #[.int .u8 (Land.whyE L fr to k t).1, .int .i64 (Land.whyE L fr to k t).2.1, .int .i64 (Land.whyE L fr to k t).2.2]) w) := by
  have HL := Lib.hid hL
  clear hL
  by_cases hc : L.chk = 0
  case neg =>
    rw [show Land.whyE L fr to k t = (0, 0, L.chk) by unfold Land.whyE; rw [if_neg hc]]
    go_enter Try.func35, Try.ntmps35
    go_wp2_with fail
    refine named1 (p := fun W => Calls _ _ _ W _) ?_
    intro W hW B1
    have HNo := Lib.hid (work_no q L W (HL.out.later hW) hs hc)
    have hcb : (L.chk != 0) = true := by simpa using hc
    generalize L.chk = c at *
    clear hc
    refine HNo.out.mono ?_
    rintro e w1 ⟨rfl, hb1⟩
    replace hW := over hW hb1
    clear hb1 HNo B1
    go_wp2_with fail
    go_ret3
    exact ⟨rfl, hW⟩
  obtain ⟨r, hr⟩ : ∃ r, r = Land.whyE L fr to k t := ⟨_, rfl⟩
  rw [← hr]
  rw [Land.whyE, if_pos hc] at hr
  have HR := Lib.hid hr
  have HC := Lib.hid hc
  clear hr
  go_enter Try.func35, Try.ntmps35
  go_wp2_with fail
  refine named1 (p := fun W => Calls _ _ _ W _) ?_
  intro W hW B1
  refine (work_yes q L (fun _ => False) W (HL.out.later hW) hs hc).mono ?_
  rintro e w1 ⟨bw, bm, rfl, hb1, hw1, hbw, hbm⟩
  have HBw := Lib.hid (show w.heap.size ≤ bm from Nat.le_trans hW.size hbm)
  replace hW := over hW hb1
  (try clear c1 t1); replace B1 := B1.later hb1; have c1 := B1.cell; have t1 := B1.lt
  have HW1 := Lib.hid hw1
  clear hw1 hb1 hbw hbm
  go_wp2_with fail
  refine named1 (p := fun W => Calls _ _ _ W _) ?_
  intro w2 hb2 B2
  replace hW := over hW hb2
  (try clear c1 t1); replace B1 := B1.later hb2; have c1 := B1.cell; have t1 := B1.lt
  have c2 := B2.cell; have t2 := B2.lt
  have HW2 := Lib.hid (HW1.out.later hb2)
  clear hb2 HW1
  obtain ⟨ak, hak⟩ : ∃ ak, ak = Land.ask2 L fr to k t := ⟨_, rfl⟩
  have HAsk : Hid (∀ w', Calls Try.prog 46 #[landV q L, .agg #[.int .i64 fr, .int .i64 to], .int .i64 k, .int .i64 t] w' (Ret (.int .i64 ak) w')) := fun w' => by rw [hak]; exact asked_any q _ _ _ _ fr to k t w' hs.l1 hs.l3 hs.l4
  have HAk := Lib.hid hak
  clear hak
  refine (HAsk.out _).mono ?_
  rintro e w3 ⟨rfl, hb3⟩
  replace hW := over hW hb3
  (try clear c1 t1 c2 t2); replace B1 := B1.later hb3; replace B2 := B2.later hb3; have c1 := B1.cell; have t1 := B1.lt; have c2 := B2.cell; have t2 := B2.lt
  have HW3 := Lib.hid (HW2.out.later hb3)
  clear hb3 HW2 HAsk
  by_cases h0 : ak = 0
  · subst h0
    have h1 : askd L.st.length L.cs.length L.sn.length fr to k t = 0 := HAk.out.symm
    obtain ⟨i, j, c, d, rfl, rfl, rfl, rfl, hi, hj, hk, ht, _⟩ := askd_zero h1
    have HR2 : Hid (r = ((L.why i j c d).1, (L.why i j c d).2, 0)) := by have := HR.out; rw [if_pos HAk.out.symm] at this; exact this
    clear h1 HR
    obtain ⟨rr, hrr⟩ : ∃ rr, L.why i j c d = rr := ⟨_, rfl⟩
    have HRR := Lib.hid hrr
    rw [hrr] at HR2
    clear hrr
    go_wp2_with fail
    refine (why_w bw bm q L (fun _ => False) i j c d w3 HW3.out (fun _ h => h.elim) HC.out hi hj hk ht rr HRR.out).mono ?_
    rintro e w4 ⟨rfl, hg, hw4⟩
    have HB : Hid (Below w.heap.size w w4) := hW.trans (below_grown hg hW.size (fun k hk => by cases hk; exact HBw.out))
    clear hg hw4 c1 t1 c2 t2 B1 B2 hW
    go_wp2_with fail
    go_ret3
    obtain rfl := HR2.out
    exact ⟨rfl, HB.out⟩
  · have hcb : (ak != 0) = true := by simpa using h0
    have HR2 : Hid (r = (0, 0, ak)) := by have := HR.out; rw [if_neg (by rw [← HAk.out]; exact h0), ← HAk.out] at this; exact this
    clear h0
    go_wp2_with fail
    go_ret3
    obtain rfl := HR2.out
    exact ⟨rfl, hW⟩


set_option maxRecDepth 100000 in
set_option maxHeartbeats 1000000 in
theorem Stick_any (q : LV) (L : Land) (fr to t : Int) (w : World) (hL : LandAt w q L) (hs : Small L) :
    Calls Try.prog 37 #[landV q L, .int .i64 fr, .int .i64 to, .int .i64 t] w (Ret (.tuple #[.int .i64 (Land.stickE L fr to t).1, .int .i64 (Land.stickE L fr to t).2]) w) := by
  have HL := Lib.hid hL
  clear hL
  by_cases hc : L.chk = 0
  case neg =>
    rw [show Land.stickE L fr to t = (0, L.chk) by unfold Land.stickE; rw [if_neg hc]]
    go_enter Try.func37, Try.ntmps37
    go_wp2_with fail
    refine named1 (p := fun W => Calls _ _ _ W _) ?_
    intro W hW B1
    have HNo := Lib.hid (work_no q L W (HL.out.later hW) hs hc)
    have hcb : (L.chk != 0) = true := by simpa using hc
    generalize L.chk = c at *
    clear hc
    refine HNo.out.mono ?_
    rintro e w1 ⟨rfl, hb1⟩
    replace hW := over hW hb1
    clear hb1 HNo B1
    go_wp2_with fail
    go_ret2
    exact ⟨rfl, hW⟩
  obtain ⟨r, hr⟩ : ∃ r, r = Land.stickE L fr to t := ⟨_, rfl⟩
  rw [← hr]
  rw [Land.stickE, if_pos hc] at hr
  have HR := Lib.hid hr
  have HC := Lib.hid hc
  clear hr
  go_enter Try.func37, Try.ntmps37
  go_wp2_with fail
  refine named1 (p := fun W => Calls _ _ _ W _) ?_
  intro W hW B1
  refine (work_yes q L (fun _ => False) W (HL.out.later hW) hs hc).mono ?_
  rintro e w1 ⟨bw, bm, rfl, hb1, hw1, hbw, hbm⟩
  have HBw := Lib.hid (show w.heap.size ≤ bm from Nat.le_trans hW.size hbm)
  replace hW := over hW hb1
  (try clear c1 t1); replace B1 := B1.later hb1; have c1 := B1.cell; have t1 := B1.lt
  have HW1 := Lib.hid hw1
  clear hw1 hb1 hbw hbm
  go_wp2_with fail
  refine named1 (p := fun W => Calls _ _ _ W _) ?_
  intro w2 hb2 B2
  replace hW := over hW hb2
  (try clear c1 t1); replace B1 := B1.later hb2; have c1 := B1.cell; have t1 := B1.lt
  have c2 := B2.cell; have t2 := B2.lt
  have HW2 := Lib.hid (HW1.out.later hb2)
  clear hb2 HW1
  obtain ⟨ak, hak⟩ : ∃ ak, ak = Land.ask2 L fr to 0 t := ⟨_, rfl⟩
  have HAsk : Hid (∀ w', Calls Try.prog 46 #[landV q L, .agg #[.int .i64 fr, .int .i64 to], .int .i64 0, .int .i64 t] w' (Ret (.int .i64 ak) w')) := fun w' => by rw [hak]; exact asked_any q _ _ _ _ fr to 0 t w' hs.l1 hs.l3 hs.l4
  have HAk := Lib.hid hak
  clear hak
  refine (HAsk.out _).mono ?_
  rintro e w3 ⟨rfl, hb3⟩
  replace hW := over hW hb3
  (try clear c1 t1 c2 t2); replace B1 := B1.later hb3; replace B2 := B2.later hb3; have c1 := B1.cell; have t1 := B1.lt; have c2 := B2.cell; have t2 := B2.lt
  have HW3 := Lib.hid (HW2.out.later hb3)
  clear hb3 HW2 HAsk
  by_cases h0 : ak = 0
  · subst h0
    have h1 : askd L.st.length L.cs.length L.sn.length fr to 0 t = 0 := HAk.out.symm
    obtain ⟨i, j, c, d, rfl, rfl, hk0, rfl, hi, hj, hk, ht, _⟩ := askd_zero h1
    have HR2 := Lib.hid (HR.out.trans (if_pos HAk.out.symm))
    simp only [Int.toNat_natCast] at HR2
    clear h1 HR
    obtain ⟨sv, hsv⟩ : ∃ sv, L.stick i j d = sv := ⟨_, rfl⟩
    rw [hsv] at HR2
    have HStk : Hid (Calls Try.prog 63 #[.pointer (some ⟨bw, 0, none⟩), pairV i j, .int .i64 d] w3 (RetW (.int .i64 sv) bw bm q L (fun _ => False) w3)) := by
      rw [← hsv]; exact stick_any bw bm q L (fun _ => False) i j d w3 HW3.out (fun _ h => h.elim) HC.out hi hj ht
    have l3 := hs.l3
    clear hsv hk0
    go_wp2_with fail
    refine HStk.out.mono ?_
    rintro e w4 ⟨rfl, hg, hw4⟩
    have HB : Hid (Below w.heap.size w w4) := hW.trans (below_grown hg hW.size (fun k hk => by cases hk; exact HBw.out))
    replace B1 := HW3.out.keep B1 hg
    clear hg hw4 c1 t1 c2 t2 B2 hW HStk
    have c1 := B1.cell; have t1 := B1.lt
    by_cases hcl : sv = L.cs.length
    · have hb : ((sv : Int) == (L.cs.length : Int)) = true := by rw [hcl]; simp
      have HR3 := Lib.hid (HR2.out.trans (if_pos hcl))
      clear hcl HR2
      go_wp2_with fail
      go_ret2
      obtain rfl := HR3.out
      exact ⟨rfl, HB.out⟩
    · have hb : ((sv : Int) == (L.cs.length : Int)) = false := by simp; omega
      have HR3 := Lib.hid (HR2.out.trans (if_neg hcl))
      clear hcl HR2
      go_wp2_with fail
      go_ret2
      obtain rfl := HR3.out
      exact ⟨rfl, HB.out⟩
  · have hcb : (ak != 0) = true := by simpa using h0
    have HR2 := Lib.hid (HR.out.trans (if_neg (by rw [← HAk.out]; exact h0)))
    rw [← HAk.out] at HR2
    clear h0
    go_wp2_with fail
    go_ret2
    obtain rfl := HR2.out
    exact ⟨rfl, hW⟩

set_option maxRecDepth 100000 in
set_option maxHeartbeats 1000000 in
theorem Mirrors_any (q : LV) (L : Land) (fr to t : Int) (w : World) (hL : LandAt w q L) (hs : Small L) :
    Calls Try.prog 21 #[landV q L, .int .i64 fr, .int .i64 to, .int .i64 t] w (Ret (.tuple #[.int .i64 (Land.mirE L fr to t).1, .int .i64 (Land.mirE L fr to t).2]) w) := by
  have HL := Lib.hid hL
  clear hL
  by_cases hc : L.chk = 0
  case neg =>
    rw [show Land.mirE L fr to t = (0, L.chk) by unfold Land.mirE; rw [if_neg hc]]
    go_enter Try.func21, Try.ntmps21
    go_wp2_with fail
    refine named1 (p := fun W => Calls _ _ _ W _) ?_
    intro W hW B1
    have HNo := Lib.hid (work_no q L W (HL.out.later hW) hs hc)
    have hcb : (L.chk != 0) = true := by simpa using hc
    generalize L.chk = c at *
    clear hc
    refine HNo.out.mono ?_
    rintro e w1 ⟨rfl, hb1⟩
    replace hW := over hW hb1
    clear hb1 HNo B1
    go_wp2_with fail
    go_ret2
    exact ⟨rfl, hW⟩
  obtain ⟨r, hr⟩ : ∃ r, r = Land.mirE L fr to t := ⟨_, rfl⟩
  rw [← hr]
  rw [Land.mirE, if_pos hc] at hr
  have HR := Lib.hid hr
  have HC := Lib.hid hc
  clear hr
  go_enter Try.func21, Try.ntmps21
  go_wp2_with fail
  refine named1 (p := fun W => Calls _ _ _ W _) ?_
  intro W hW B1
  refine (work_yes q L (fun _ => False) W (HL.out.later hW) hs hc).mono ?_
  rintro e w1 ⟨bw, bm, rfl, hb1, hw1, hbw, hbm⟩
  have HBw := Lib.hid (show w.heap.size ≤ bm from Nat.le_trans hW.size hbm)
  replace hW := over hW hb1
  (try clear c1 t1); replace B1 := B1.later hb1; have c1 := B1.cell; have t1 := B1.lt
  have HW1 := Lib.hid hw1
  clear hw1 hb1 hbw hbm
  go_wp2_with fail
  refine named1 (p := fun W => Calls _ _ _ W _) ?_
  intro w2 hb2 B2
  replace hW := over hW hb2
  (try clear c1 t1); replace B1 := B1.later hb2; have c1 := B1.cell; have t1 := B1.lt
  have c2 := B2.cell; have t2 := B2.lt
  have HW2 := Lib.hid (HW1.out.later hb2)
  clear hb2 HW1
  obtain ⟨ak, hak⟩ : ∃ ak, ak = Land.ask2 L fr to 0 t := ⟨_, rfl⟩
  have HAsk : Hid (∀ w', Calls Try.prog 46 #[landV q L, .agg #[.int .i64 fr, .int .i64 to], .int .i64 0, .int .i64 t] w' (Ret (.int .i64 ak) w')) := fun w' => by rw [hak]; exact asked_any q _ _ _ _ fr to 0 t w' hs.l1 hs.l3 hs.l4
  have HAk := Lib.hid hak
  clear hak
  refine (HAsk.out _).mono ?_
  rintro e w3 ⟨rfl, hb3⟩
  replace hW := over hW hb3
  (try clear c1 t1 c2 t2); replace B1 := B1.later hb3; replace B2 := B2.later hb3; have c1 := B1.cell; have t1 := B1.lt; have c2 := B2.cell; have t2 := B2.lt
  have HW3 := Lib.hid (HW2.out.later hb3)
  clear hb3 HW2 HAsk
  by_cases h0 : ak = 0
  · subst h0
    have h1 : askd L.st.length L.cs.length L.sn.length fr to 0 t = 0 := HAk.out.symm
    obtain ⟨i, j, c, d, rfl, rfl, hk0, rfl, hi, hj, hk, ht, _⟩ := askd_zero h1
    have HR2 := Lib.hid (HR.out.trans (if_pos HAk.out.symm))
    simp only [Int.toNat_natCast] at HR2
    obtain ⟨a, ha⟩ := some_of hi
    obtain ⟨b, hb⟩ := some_of hj
    obtain ⟨s, hs'⟩ := some_of ht
    have hup : L.up d = decide (0 < s.U) := by unfold Land.up; rw [hs']
    have hneed : L.need i j d = needM s a b := by unfold Land.need; rw [hs', ha, hb]
    rw [hup, hneed] at HR2
    have hF := fits HC.out
    have HMir : Hid (∀ W, Below w3.heap.size w3 W → Calls Try.prog 50 #[.pointer (some ⟨bw, 0, none⟩), .agg #[.int .i64 i, .int .i64 j], .int .i64 d] W (Ret (.int .i64 (needM s a b)) W)) := fun W hW =>
      mirrors_any q _ _ bw _ L.st L.sn i j d a b s W (HW3.out.land.later hW).st (HW3.out.land.later hW).sn ha hb hs' (hF.st a (List.mem_of_getElem? ha)) (hF.st b (List.mem_of_getElem? hb)) (hF.sn s (List.mem_of_getElem? hs')) (HW3.out.later hW).box
    obtain ⟨p4, o4, ea4, hC4⟩ := HW3.out.land.sn.at ht
    obtain ⟨g0, g1, g2⟩ := cells_sn hC4 hs'
    rw [ea4] at c1
    have r5 : (0 : Int) ≤ (d : Int) := by omega
    have r6 : (d : Int) < (L.sn.length : Int) := by omega
    generalize needM s a b = nm at *
    clear h1 HR hk0 hF ea4 hC4 g0 g1 hup hneed ha hb hs'
    by_cases hU : s.U ≤ 0
    · have HR3 := Lib.hid (HR2.out.trans (if_pos (by simpa using hU)))
      clear HR2
      go_wp2_with fail
      go_ret2
      obtain rfl := HR3.out
      exact ⟨rfl, hW⟩
    · have HR3 := Lib.hid (HR2.out.trans (if_neg (by simpa using hU)))
      clear HR2
      go_wp2_with fail
      refine (HMir.out _ (Below.refl _ _)).mono ?_
      rintro e w4 ⟨rfl, hb4⟩
      replace hW := over hW hb4
      clear hb4 HMir c1 t1 c2 t2 B1 B2 g2
      go_wp2_with fail
      go_ret2
      obtain rfl := HR3.out
      exact ⟨rfl, hW⟩
  · have hcb : (ak != 0) = true := by simpa using h0
    have HR2 := Lib.hid (HR.out.trans (if_neg (by rw [← HAk.out]; exact h0)))
    rw [← HAk.out] at HR2
    clear h0
    go_wp2_with fail
    go_ret2
    obtain rfl := HR2.out
    exact ⟨rfl, hW⟩
end Go.Proofs.Ytmfnkmmbihmjnaa
