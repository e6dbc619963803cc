/- The program's walls that block. -/
import Derived.Test.YtmfnkmmbihmjnaaWalls1
import Derived.Test.YtmfnkmmbihmjnaaExp1
open Go.RowKit Go.Shelf
namespace Go.Proofs.Ytmfnkmmbihmjnaa
open Go.Hill

def Land.wallsE (L : Land) (fr to k t : Int) : List Int × List Int × Int :=
  if L.chk = 0 then (if Land.ask2 L fr to k t = 0 then (L.rbs fr.toNat to.toNat, L.cbs fr.toNat to.toNat k.toNat t.toNat, 0) else ([], [], Land.ask2 L fr to k t)) else ([], [], L.chk)
def RetWalls (r : List Int × List Int × Int) (w : World) (e : Ending) (w' : World) : Prop :=
  ∃ a1 c1 a2 c2, e = .returned (.tuple #[.slice a1 r.1.length c1, .slice a2 r.2.1.length c2, .int .i64 r.2.2]) ∧ Below w.heap.size w w' ∧ IntsAt w' a1 r.1 ∧ IntsAt w' a2 r.2.1


set_option maxRecDepth 100000 in
set_option maxHeartbeats 4000000 in
theorem Walls_any (q : LV) (L : Land) (fr to k t : Int) (w : World) (hL : LandAt w q L) (hs : Small L) :
    Calls Try.prog 39 #[landV q L, .int .i64 fr, .int .i64 to, .int .i64 k, .int .i64 t] w (RetWalls (Land.wallsE L fr to k t) w) := by
  have HL := Lib.hid hL
  clear hL
  by_cases hc : L.chk = 0
  case neg =>
    rw [show Land.wallsE L fr to k t = ([], [], L.chk) by unfold Land.wallsE; rw [if_neg hc]]
    go_enter Try.func39, Try.ntmps39
    go_wp2_with fail
    refine named1 (p := fun W => Calls _ _ _ W _) ?_
    intro W hW B1
    have HNo := Lib.hid (work_no q L W (HL.out.later hW) hs hc)
    have hcb : (L.chk != 0) = true := by simpa using hc
    generalize L.chk = c at *
    clear hc
    refine HNo.out.mono ?_
    rintro e w1 ⟨rfl, hb1⟩
    replace hW := over hW hb1
    clear hb1 HNo B1
    go_wp2_with fail
    go_ret3
    exact ⟨none, 0, none, 0, rfl, hW, .inl rfl, .inl rfl⟩
  obtain ⟨r, hr⟩ : ∃ r, r = Land.wallsE L fr to k t := ⟨_, rfl⟩
  rw [← hr]
  rw [Land.wallsE, if_pos hc] at hr
  have HR := Lib.hid hr
  have HC := Lib.hid hc
  clear hr
  go_enter Try.func39, Try.ntmps39
  go_wp2_with fail
  refine named1 (p := fun W => Calls _ _ _ W _) ?_
  intro W hW B1
  refine (work_yes q L (fun _ => False) W (HL.out.later hW) hs hc).mono ?_
  rintro e w1 ⟨bw, bm, rfl, hb1, hw1, hbw, hbm⟩
  have HBw := Lib.hid (show w.heap.size ≤ bm from Nat.le_trans hW.size hbm)
  replace hW := over hW hb1
  (try clear c1 t1); replace B1 := B1.later hb1; have c1 := B1.cell; have t1 := B1.lt
  have HW1 := Lib.hid hw1
  clear hw1 hb1 hbw hbm
  go_wp2_with fail
  refine named1 (p := fun W => Calls _ _ _ W _) ?_
  intro w2 hb2 B2
  replace hW := over hW hb2
  (try clear c1 t1); replace B1 := B1.later hb2; have c1 := B1.cell; have t1 := B1.lt
  have c2 := B2.cell; have t2 := B2.lt
  have HW2 := Lib.hid (HW1.out.later hb2)
  clear hb2 HW1
  obtain ⟨ak, hak⟩ : ∃ ak, ak = Land.ask2 L fr to k t := ⟨_, rfl⟩
  have HAsk : Hid (∀ w', Calls Try.prog 46 #[landV q L, .agg #[.int .i64 fr, .int .i64 to], .int .i64 k, .int .i64 t] w' (Ret (.int .i64 ak) w')) := fun w' => by rw [hak]; exact asked_any q _ _ _ _ fr to k t w' hs.l1 hs.l3 hs.l4
  have HAk := Lib.hid hak
  clear hak
  refine (HAsk.out _).mono ?_
  rintro e w3 ⟨rfl, hb3⟩
  replace hW := over hW hb3
  (try clear c1 t1 c2 t2); replace B1 := B1.later hb3; replace B2 := B2.later hb3; have c1 := B1.cell; have t1 := B1.lt; have c2 := B2.cell; have t2 := B2.lt
  have HW3 := Lib.hid (HW2.out.later hb3)
  clear hb3 HW2 HAsk
  by_cases h0 : ak = 0
  · subst h0
    have h1 : askd L.st.length L.cs.length L.sn.length fr to k t = 0 := HAk.out.symm
    obtain ⟨i, j, c, d, rfl, rfl, rfl, rfl, hi, hj, hk, ht, _⟩ := askd_zero h1
    have HR2 : Hid (r = (L.rbs i j, L.cbs i j c d, 0)) := by have := HR.out; rw [if_pos HAk.out.symm] at this; exact this
    clear h1 HR
    obtain ⟨a, ha⟩ := some_of hi
    obtain ⟨b, hb⟩ := some_of hj
    obtain ⟨cs, hcs⟩ := some_of hk
    have hm := small_of hc
    have hF := fits hc
    have HRid : Hid (∀ W : World, WorkAt W bw bm q L (fun _ => False) → Calls Try.prog 76 #[.pointer (some ⟨bw, 0, none⟩), .agg #[.int .i64 i, .int .i64 j]] W (RetInts (L.rbs i j) bw bm q L (fun _ => False) W)) := fun W hw => ridges_any bw bm q L (fun _ => False) i j a b W hw (fun _ h => h.elim) hF hm.l2 hm.l1 ha hb
    have HMk : Hid (∀ W : World, Calls Try.prog 78 #[.pointer (some ⟨bw, 0, none⟩), .agg #[.int .i64 i, .int .i64 j], .int .i64 c, .int .i64 d] W (RetSeq bw i j c d W)) := fun W => clouds_mk bw i j c d W
    have HCol : Hid (∀ (W : World) (b4 b5 b6 b7 : Nat), WorkAt W bw bm q L (fun _ => False) → Box W b4 #[.pointer (some ⟨bw, 0, none⟩)] 90 → Box W b5 #[.int .i64 i, .int .i64 j] 95 → Box W b6 #[.int .i64 c] 3 → Box W b7 #[.int .i64 d] 3 →
        Calls Try.prog 77 #[.func (.func 106) #[] #[.pointer (some ⟨b4, 0, none⟩), .pointer (some ⟨b6, 0, none⟩), .pointer (some ⟨b7, 0, none⟩), .pointer (some ⟨b5, 0, none⟩)]] W (RetInt1 (L.cbs i j c d) W)) := fun W b4 b5 b6 b7 hw B4 B5 B6 B7 =>
      collect_any b4 b5 b6 b7 bw bm q L (fun _ => False) i j c d a b cs W hw hF hcs (hm.l5 cs (List.mem_of_getElem? hcs)) hm.l1 hm.l3 ha hb B4 B5 B6 B7
    have hrl : (L.rbs i j).length ≤ 1000 := Nat.le_trans (sel_len _ _) hm.l2
    generalize w1.heap.size = b2 at *
    have e14a : w3.cell? ⟨b2, 0, none⟩ = some (.int .i64 i) := B2.cell 0
    have e14b : w3.cell? ⟨b2, 1, none⟩ = some (.int .i64 j) := B2.cell 1
    have HKeep : Hid (∀ w' : World, w3.grownBy w' (some bm) → w'.cell? ⟨b2, 0, none⟩ = some (.int .i64 i) ∧ w'.cell? ⟨b2, 1, none⟩ = some (.int .i64 j)) := fun w' hg => ⟨(HW3.out.keep B2 hg).cell 0, (HW3.out.keep B2 hg).cell 1⟩
    clear ha hb hcs hm hF c1 t1 c2 t2
    generalize hrv : L.rbs i j = rv at *
    go_wp2_with fail
    go_region_held3 (fun w' => w'.cell? ⟨b2, 0, none⟩ = some (.int .i64 i) ∧ w'.cell? ⟨b2, 1, none⟩ = some (.int .i64 j))
      (first | go_keep | exact HKeep.out _ HG.out | exact HKeep.out _ (grown_drew HG.out))
      ((first
        | (go_at_call 76; refine (HRid.out _ (HW3.out.later (by repeat (first | exact Below.refl _ _ | refine al ?_ _ | refine Below.drew ?_ | refine sc ?_ (by simp) _)))).mono ?_; rintro e w4 ⟨ra, rc, rfl, hg, hw4, hr4⟩; have HG := Lib.hid (grown_trans (Below.grown (show Below w3.heap.size w3 _ from (by repeat (first | exact Below.refl _ _ | refine al ?_ _ | refine Below.drew ?_ | refine sc ?_ (by simp) _))) (some bm)) hg); have HW4 := Lib.hid hw4; have HR4 := Lib.hid hr4.1; clear hg hw4 hr4)
        | (go_at_call 75; refine (clone_any rv ra rc _ (HR4.out.later (by repeat (first | exact Below.refl _ _ | refine al ?_ _ | refine Below.drew ?_ | refine sc ?_ (by simp) _))) hrl).mono ?_; rintro e w5 ⟨ra2, rc2, rfl, hb5, hr5⟩; replace hb5 := over (show Below w4.heap.size w4 _ from (by repeat (first | exact Below.refl _ _ | refine al ?_ _ | refine Below.drew ?_ | refine sc ?_ (by simp) _))) hb5; replace HG := Lib.hid (grown_trans HG.out (Below.grown hb5 (some bm))); have HW5 := Lib.hid (HW4.out.later hb5); have HR5 := Lib.hid hr5; clear hb5 hr5 HW4 HR4)
        | (go_at_call 78; refine (HMk.out _).mono ?_; rintro e w6 ⟨b4, b5, b6, b7, rfl, hb6, C4, C5, C6, C7⟩; replace hb6 := over (show Below w5.heap.size w5 _ from (by repeat (first | exact Below.refl _ _ | refine al ?_ _ | refine Below.drew ?_ | refine sc ?_ (by simp) _))) hb6; replace HG := Lib.hid (grown_trans HG.out (Below.grown hb6 (some bm))); have HW6 := Lib.hid (HW5.out.later hb6); have HR6 := Lib.hid (HR5.out.later hb6); have HC4 := Lib.hid C4; have HC5 := Lib.hid C5; have HC6 := Lib.hid C6; have HC7 := Lib.hid C7; clear hb6 HR5 HW5 C4 C5 C6 C7)
        | (go_at_call 77; refine (HCol.out _ b4 b5 b6 b7 (HW6.out.later (by repeat (first | exact Below.refl _ _ | refine al ?_ _ | refine Below.drew ?_ | refine sc ?_ (by simp) _))) (HC4.out.later (by repeat (first | exact Below.refl _ _ | refine al ?_ _ | refine Below.drew ?_ | refine sc ?_ (by simp) _))) (HC5.out.later (by repeat (first | exact Below.refl _ _ | refine al ?_ _ | refine Below.drew ?_ | refine sc ?_ (by simp) _))) (HC6.out.later (by repeat (first | exact Below.refl _ _ | refine al ?_ _ | refine Below.drew ?_ | refine sc ?_ (by simp) _))) (HC7.out.later (by repeat (first | exact Below.refl _ _ | refine al ?_ _ | refine Below.drew ?_ | refine sc ?_ (by simp) _)))).mono ?_; rintro e w7 ⟨ra3, rc3, rfl, hb7, hr7⟩; replace hb7 := over (show Below w6.heap.size w6 _ from (by repeat (first | exact Below.refl _ _ | refine al ?_ _ | refine Below.drew ?_ | refine sc ?_ (by simp) _))) hb7; replace HG := Lib.hid (grown_trans HG.out (Below.grown hb7 (some bm))); have HR7 := Lib.hid (HR6.out.later hb7); have HR8 := Lib.hid hr7; clear hb7 hr7 HR6 HW6 HC4 HC5 HC6 HC7)))
    have HB : Hid (Below w.heap.size w w7) := hW.trans (below_grown HG.out hW.size (fun k hk => by cases hk; exact HBw.out))
    go_wp2_with fail
    go_ret3
    obtain rfl := HR2.out
    exact ⟨ra2, rc2, ra3, rc3, rfl, HB.out, HR7.out, HR8.out⟩
  · have hcb : (ak != 0) = true := by simpa using h0
    have HR2 : Hid (r = ([], [], ak)) := by have := HR.out; rw [if_neg (by rw [← HAk.out]; exact h0), ← HAk.out] at this; exact this
    clear h0
    go_wp2_with fail
    go_ret3
    obtain rfl := HR2.out
    exact ⟨none, 0, none, 0, rfl, hW, .inl rfl, .inl rfl⟩
end Go.Proofs.Ytmfnkmmbihmjnaa
