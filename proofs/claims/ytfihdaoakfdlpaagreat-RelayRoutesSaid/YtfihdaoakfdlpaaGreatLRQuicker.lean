/- The statement on the best route, outright: its walk. -/
import Derived.Test.YtfihdaoakfdlpaaGreatLR7
import Derived.Test.YtfihdaoakfdlpaaGreatRD
open Go.RowKit
namespace Go.Proofs.YtfihdaoakfdlpaaGreat
open Go.Hill

theorem routeE_ok {L : Land} {f t s : Nat} (hc : L.chk = 0) (hf : f < L.st.length) (ht : t < L.st.length) (hs : s ≤ L.sn.length) : Land.routeE L f t s = (match L.route f t s with | some (l, u) => (l, (u : Int), 0) | none => ([], 0, 10)) := by
  unfold Land.routeE
  rw [if_pos (show L.askr f t s 0 = 0 from askr_ok (k := 0) hc hf ht hs (st_six hc).2.2.2.2.2)]; rfl
set_option maxRecDepth 100000 in
set_option maxHeartbeats 8000000 in
theorem RelayQuicker_any (q : LV) (L : Land) (a b c : Nat) (wl : List Nat) (wa : Option Addr) (wc' : Nat) (w : World) (hL : LandAt w q L) (hs : Sane L) (ga : a < 256) (gb : b < 256) (gc : c < 256) (hw : WordsAt w wa wl) (hwl : wl.length ≤ 9223372036854775807) (hwb : ∀ n ∈ wl, n < 65536) :
    Calls Tryz.prog 10 #[landV q L, .int .u8 a, .int .u8 b, .int .u8 c, .slice wa wl.length wc'] w (Ret (.bool true) w) := by
  obtain ⟨tv, htv⟩ : ∃ tv, tv = ready3B L := ⟨_, rfl⟩
  have HReady : Hid (∀ W, Below w.heap.size w W → Calls Tryz.prog 27 #[landV q L] W (Ret (.bool tv) W)) := fun W hW => by rw [htv]; exact ready3_any q L W (hL.later hW) hs
  have HL := Lib.hid hL
  have HTv := Lib.hid htv
  have HLedA : Hid (∀ f s k W, Below w.heap.size w W → L.chk = 0 → f < L.st.length → s ≤ L.sn.length → k < L.cs.length → Calls Tryz.prog 29 #[landV q L, .int .i64 (f : Nat), .int .i64 (s : Nat), .int .i64 (k : Nat), .slice wa wl.length wc'] W (RetLed L f s k W)) := fun f s k W hW hc hf hs hk => Led_any q L f s k wl wa wc' W (hL.later hW) hc hf hs hk (RowAt.later hw hW) hwl hwb
  clear hL hs htv hw hwl hwb
  generalize wl.length = wn at *
  go_enter Tryz.func10, Tryz.ntmps10
  go_wp2_with fail
  refine named1 (p := fun W => Calls _ _ _ W _) ?_
  intro W hW B5
  refine (HReady.out W hW).mono ?_
  rintro e w1 ⟨rfl, hb1⟩
  replace hW := over hW hb1
  (try clear c5 t5); replace B5 := B5.later hb1; have c5 := B5.cell; have t5 := B5.lt
  clear hb1 HReady
  cases tv with
  | false =>
    go_wp2_with fail
    refine (awake_any _).mono ?_
    rintro e w2 ⟨rfl, hb2⟩
    replace hW := over hW hb2
    clear hb2
    go_wp2_with fail
    go_ret
    exact ⟨rfl, hW⟩
  | true =>
    have htv := HTv.out.symm
    unfold ready3B at htv
    simp only [Bool.and_eq_true, beq_iff_eq] at htv
    have HS := Lib.hid (thin_small htv.1)
    have hc := htv.2
    obtain ⟨n6, n0, e12, e0, m4, m0⟩ := st_six hc
    have HN1 := Lib.hid (fun W => numbers_any q L a b c W hc ga gb gc)
    have hf : a % L.st.length < L.st.length := Nat.mod_lt _ n0
    have hs : b % (L.sn.length + 1) ≤ L.sn.length := Nat.le_of_lt_succ (Nat.mod_lt _ (by omega))
    have hk : c % L.cs.length < L.cs.length := Nat.mod_lt _ m0
    generalize a % L.st.length = f at *
    generalize b % (L.sn.length + 1) = s at *
    generalize c % L.cs.length = k at *
    have HC := Lib.hid hc
    have HLd := Lib.hid (fun W hW => HLedA.out f s k W hW hc hf hs hk)
    clear htv HTv hc HLedA
    go_wp2_with fail
    refine (HN1.out _).mono ?_
    rintro e w2 ⟨rfl, hb2⟩
    replace hW := over hW hb2
    (try clear c5 t5); replace B5 := B5.later hb2; have c5 := B5.cell; have t5 := B5.lt
    clear hb2 HN1
    go_wp2_with fail
    refine (HLd.out _ hW).mono ?_
    rintro e w3 ⟨hl, ra, rc0, rfl, hb3, hr3, hled⟩
    replace hW := over hW hb3
    (try clear c5 t5); replace B5 := B5.later hb3; have c5 := B5.cell; have t5 := B5.lt
    have HH := Lib.hid hr3
    obtain ⟨hch, _, _, hlen⟩ := hled
    obtain ⟨n, hn⟩ : ∃ n, n = hl.length := ⟨_, rfl⟩
    have HLn := Lib.hid hn
    have HCh := Lib.hid hch
    have hta := chain_end hf hch
    have HLe := Lib.hid (route_le (L := L) (f := f) (s := s) (l := hl) (by omega) hs hch)
    have HSk := Lib.hid (stkF_iff (L := L) (l := hl) (i := 0))
    have HIs := Lib.hid (rIs_hp (q := q) (c := rc0) HC.out hr3 hch hlen)
    have HSt := Lib.hid (fun W (hb : Below w3.heap.size w3 W) => rStick_any q L hl ra rc0 W (HL.out.later (over hW hb)) HC.out (RowAt.later hr3 hb) (by omega) (chain_mem hf hch))
    have HAr := Lib.hid (fun W (hb : Below w3.heap.size w3 W) => rArr_hp (c := rc0) (s := s) (RowAt.later hr3 hb) hf hch hlen e12)
    rw [← hn] at HIs HSt HAr ⊢ hlen
    generalize arrA s hl = av at *
    generalize endR f hl = ta at *
    clear hn hch hr3 hb3 HLd
    go_wp2_with fail
    refine HIs.out.mono ?_
    rintro e w4 ⟨rfl, hb4⟩
    replace hW := over hW hb4
    replace HSt := Lib.hid (fun W (hb : Below w4.heap.size w4 W) => HSt.out W (over hb4 hb))
    replace HAr := Lib.hid (fun W (hb : Below w4.heap.size w4 W) => HAr.out W (over hb4 hb))
    (try clear c5 t5); replace B5 := B5.later hb4; have c5 := B5.cell; have t5 := B5.lt
    clear hb4 HIs
    have HSt2 := Lib.hid (HSt.out w4 (Below.refl _ _))
    clear HSt
    obtain ⟨hop, hk2, HStv, HHop⟩ : ∃ (hop kk : Int), rstV (stkF L hl 0) = .tuple #[.int .i64 hop, .int .i64 kk] ∧ Hid ((hop = -1 ∧ stkF L hl 0 = none) ∨ (0 ≤ hop ∧ stkF L hl 0 ≠ none)) := by
      cases stkF L hl 0 with
      | none => exact ⟨-1, 0, rfl, .inl ⟨rfl, rfl⟩⟩
      | some ik => exact ⟨ik.1, ik.2, rfl, .inr ⟨by omega, by simp⟩⟩
    rw [HStv] at HSt2
    clear HStv
    go_wp2_with fail
    refine HSt2.out.mono ?_
    rintro e w5 ⟨rfl, hb5⟩
    replace hW := over hW hb5
    replace HAr := Lib.hid (fun W (hb : Below w5.heap.size w5 W) => HAr.out W (over hb5 hb))
    (try clear c5 t5); replace B5 := B5.later hb5; have c5 := B5.cell; have t5 := B5.lt
    clear hb5 HSt2
    go_wp2_with fail
    refine (land_any q L w5 (HL.out.later hW) HS.out).mono ?_
    rintro e w6 ⟨q1, rfl, hbx, hlx⟩
    replace hW := over hW hbx
    (try clear c5 t5); replace B5 := B5.later hbx; have c5 := B5.cell; have t5 := B5.lt
    have HL6 := Lib.hid hlx
    clear hlx
    replace HAr := Lib.hid (fun W (hb : Below w6.heap.size w6 W) => HAr.out W (over hbx hb))
    clear hbx
    have HRo := Lib.hid (Route_any q1 L f ta s w6 HL6.out HS.out)
    rw [routeE_ok HC.out hf hta hs] at HRo
    cases hro : L.route f ta s with
    | none =>
      rw [hro] at HRo
      have hsk : stkF L hl 0 ≠ none := fun h => by
        obtain ⟨l', u', h1, _⟩ := HLe.out (HSk.out.1 h)
        rw [hro] at h1; cases h1
      have hhop : 0 ≤ hop := by
        rcases HHop.out with ⟨_, h⟩ | ⟨h, _⟩
        · exact absurd h hsk
        · exact h
      clear hro hsk HHop HLe HSk HL6
      go_wp2_with fail
      refine HRo.out.mono ?_
      rintro e w7 ⟨xa, xc, rfl, hb7, hr7⟩
      replace hW := over hW hb7
      (try clear c5 t5); replace B5 := B5.later hb7; have c5 := B5.cell; have t5 := B5.lt
      clear hb7 hr7 HRo
      simp only
      go_wp2_with fail
      refine (land_any q L w7 (HL.out.later hW) HS.out).mono ?_
      rintro e w8 ⟨q2, rfl, hbx, hlx⟩
      replace hW := over hW hbx
      (try clear c5 t5); replace B5 := B5.later hbx; have c5 := B5.cell; have t5 := B5.lt
      have HL8 := Lib.hid hlx
      clear hbx hlx
      go_wp2_with fail
      obtain ⟨⟨sv, sk, se⟩, hsu⟩ : ∃ r, Land.sureE L f ta s = r := ⟨_, rfl⟩
      have HSu2 := Lib.hid hsu
      refine (Sure_any q2 L f ta s w8 HL8.out HS.out).mono ?_
      rw [HSu2.out]
      rintro e w9 ⟨rfl, hb9⟩
      replace hW := over hW hb9
      (try clear c5 t5); replace B5 := B5.later hb9; have c5 := B5.cell; have t5 := B5.lt
      clear hb9 HL8 HSu2 hsu
      go_wp2_with fail
      refine (awake_any _).mono ?_
      rintro e w10 ⟨rfl, hb10⟩
      replace hW := over hW hb10
      clear hb10
      go_wp2_with fail
      go_ret
      exact ⟨rfl, hW⟩
    | some lu =>
      obtain ⟨l, u⟩ := lu
      rw [hro] at HRo
      obtain ⟨g1, g2, g3, g4, g5, g6, g7⟩ := route_good (by omega) hs hro
      have hsur := sur_arr hs hf g4 g6
      rw [g5, g3] at hsur
      have HSu := Lib.hid (sureE_ok HC.out hf hta hs)
      have hP1 := prvR_at (u := u) HC.out hf hs g2 g4 (by omega) g5
      rw [stkF_iff.2 g6, g3, decide_eq_true (Nat.le_refl u)] at hP1
      have HP1 : Hid (Land.prvR L f ta s (l.map Hp.hi) (u : Int) = true) := hP1
      have HP2 : Hid (0 < u → Land.prvR L f ta s (l.map Hp.hi) ((u : Int) - 1) = false) := fun h0 => by
        have h := prvR_at (u := u - 1) HC.out hf hs (by omega) g4 (by omega) g5
        rw [g3, decide_eq_false (by omega), Bool.and_false] at h
        rw [show ((u : Int) - 1) = ((u - 1 : Nat) : Int) by omega]
        exact h
      have HBest : Hid (stkF L hl 0 = none → (u < av ∨ (u = av ∧ l.length ≤ n))) := fun h => by
        obtain ⟨l', u', h1, h2⟩ := HLe.out (HSk.out.1 h)
        rw [hro] at h1
        injection h1 with h1
        injection h1 with h3 h4
        subst h3 h4
        rw [HLn.out]; exact h2
      obtain ⟨rn, hrn⟩ : ∃ rn, rn = l.length := ⟨_, rfl⟩
      have HRn := Lib.hid hrn
      have hr12 : rn ≤ 12 := by omega
      have HRl : Hid (l.length ≤ 12) := by show _ ≤ _; omega
      have HGch := Lib.hid g4
      have HGe := Lib.hid g5
      have HGa := Lib.hid g3
      rw [← hrn] at HBest
      clear hro HLe HSk HL6 g3 g4 g5 g6 hP1 hrn g7 HLn HH HCh
      go_wp2_with fail
      refine HRo.out.mono ?_
      rintro e w7 ⟨xa, rc, rfl, hb7, hr7⟩
      replace hW := over hW hb7
      replace HAr := Lib.hid (fun W (hb : Below w7.heap.size w7 W) => HAr.out W (over hb7 hb))
      (try clear c5 t5); replace B5 := B5.later hb7; have c5 := B5.cell; have t5 := B5.lt
      have HR7 : Hid (HopsAt w7 xa l) := hr7
      simp only
      rw [← HRn.out]
      clear hb7 hr7 HRo
      go_wp2_with fail
      refine (land_any q L w7 (HL.out.later hW) HS.out).mono ?_
      rintro e w8 ⟨q2, rfl, hbx, hlx⟩
      replace hW := over hW hbx
      (try clear c5 t5); replace B5 := B5.later hbx; have c5 := B5.cell; have t5 := B5.lt
      have HL8 := Lib.hid hlx
      clear hlx
      replace HAr := Lib.hid (fun W (hb : Below w8.heap.size w8 W) => HAr.out W (over hbx hb))
      replace HR7 := Lib.hid (HR7.out.later hbx)
      clear hbx
      go_wp2_with fail
      refine (Sure_any q2 L f ta s w8 HL8.out HS.out).mono ?_
      rw [HSu.out, if_neg (by omega)]
      rintro e w9 ⟨rfl, hb9⟩
      replace hW := over hW hb9
      replace HAr := Lib.hid (fun W (hb : Below w9.heap.size w9 W) => HAr.out W (over hb9 hb))
      replace HR7 := Lib.hid (HR7.out.later hb9)
      (try clear c5 t5); replace B5 := B5.later hb9; have c5 := B5.cell; have t5 := B5.lt
      generalize (L.sur f ta s (-1)).1 = sv at *
      generalize (L.sur f ta s (-1)).2 = skk at *
      simp only
      clear hb9 HL8 HSu
      have HS5 : Hid (∀ W, Below w9.heap.size w9 W → ∀ o, W.cell? ⟨w.heap.size, o, none⟩ = (landC q L)[o]?) := fun W hb => (B5.later hb).cell
      have HBk : Hid (∀ W, Below w9.heap.size w9 W → Calls Tryz.prog 45 #[.slice xa rn rc] W (fun e w' => ∃ a' c', e = .returned (.slice a' rn c') ∧ Below W.heap.size W w' ∧ HopsAt w' a' l)) := fun W hb => by rw [HRn.out]; exact convB_hp (HR7.out.later hb) HRl.out
      have HIr : Hid (∀ W a' c', HopsAt W a' l → Calls Tryz.prog 30 #[landV q L, .int .i64 f, .int .i64 s, .slice a' rn c'] W (Ret (.tuple #[.int .i64 ta, .bool true]) W)) := fun W a' c' h => by
        have := rIs_hp (q := q) (c := c') HC.out h HGch.out HRl.out
        rw [HGe.out, ← HRn.out] at this
        exact this
      go_upto_region 11 with fail
      refine wp_region_noPanic ?_
      refine wp_region_held_drew (S := (fun w' => ∀ o, w'.cell? ⟨w.heap.size, o, none⟩ = (landC q L)[o]?)) (by kernel_rfl) (by (try dsimp only); exact HS5.out _ (by repeat (first | exact Below.refl _ _ | refine al ?_ _ | refine Below.drew ?_ | refine sc ?_ (by simp) _))) (fun hHeld => ?_)
      refine wpAnyH_take (i := 0) (oi := _) (v := ?_) rfl (by kernel_rfl) (by kernel_rfl) (by kernel_rfl) (fun _ _ _ h => h) (Or.inl ⟨by rfl, ?_⟩) (by assumption) ?_
      rotate_left
      · (intro w hSw; (try dsimp only at hSw); go_simp; try with_reducible rfl)
      (try dsimp only); (try simp only [Act.put]); (try simp only [List.setIfInBounds_toArray]); (try simp only [List.set_cons_succ]); (try simp only [List.set_cons_zero])
      refine wpAnyH_take (i := 1) (oi := _) (v := ?_) rfl (by kernel_rfl) (by kernel_rfl) (by kernel_rfl) (fun _ _ _ h => h) (Or.inl ⟨by rfl, ?_⟩) (by assumption) ?_
      rotate_left
      · (intro w hSw; (try dsimp only at hSw); go_simp; try with_reducible rfl)
      (try dsimp only); (try simp only [Act.put]); (try simp only [List.setIfInBounds_toArray]); (try simp only [List.set_cons_succ]); (try simp only [List.set_cons_zero])
      refine wpAnyH_take (i := 2) (oi := _) (v := ?_) rfl (by kernel_rfl) (by kernel_rfl) (by kernel_rfl) (fun _ _ _ h => h) (Or.inl ⟨by rfl, ?_⟩) (by assumption) ?_
      rotate_left
      · (intro w hSw; (try dsimp only at hSw); go_simp; try with_reducible rfl)
      (try dsimp only); (try simp only [Act.put]); (try simp only [List.setIfInBounds_toArray]); (try simp only [List.set_cons_succ]); (try simp only [List.set_cons_zero])
      refine wpAnyH_take (i := 3) (oi := _) (v := ?_) rfl (by kernel_rfl) (by kernel_rfl) (by kernel_rfl) (fun _ _ _ h => h) (Or.inl ⟨by rfl, ?_⟩) (by assumption) ?_
      rotate_left
      · (intro w hSw; (try dsimp only at hSw); go_simp; try with_reducible rfl)
      (try dsimp only); (try simp only [Act.put]); (try simp only [List.setIfInBounds_toArray]); (try simp only [List.set_cons_succ]); (try simp only [List.set_cons_zero])
      refine wpAnyH_ready (rs := [4]) (by kernel_rfl) (by simp) ?_
      refine AllReadyH.cons (o := _) rfl (fun K hK => ?_) AllReadyH.nil
      go_simp
      refine (HBk.out _ (by repeat (first | exact Below.refl _ _ | refine al ?_ _ | refine Below.drew ?_ | refine sc ?_ (by simp) _))).mono ?_
      rintro e wA ⟨ba, bc, rfl, hbA, hrA⟩
      have hb9A : Below w9.heap.size w9 wA := over (show Below w9.heap.size w9 w9.drew from (by repeat (first | exact Below.refl _ _ | refine al ?_ _ | refine Below.drew ?_ | refine sc ?_ (by simp) _))) hbA
      have HB9A := Lib.hid hb9A
      clear hb9A hbA
      refine hK.out _ _ (by (try dsimp only); exact HS5.out _ HB9A.out) (fun hHeld => ?_)
      clear hK K
      (try dsimp only); (try simp only [Act.put]); (try simp only [List.setIfInBounds_toArray]); (try simp only [List.set_cons_succ]); (try simp only [List.set_cons_zero])
      refine wpAnyH_ready (rs := [5]) (by kernel_rfl) (by simp) ?_
      refine AllReadyH.cons (o := _) rfl (fun K hK => ?_) AllReadyH.nil
      go_simp
      refine (HIr.out _ _ _ hrA).mono ?_
      rintro e wB ⟨rfl, hbB⟩
      have HB9B := Lib.hid (over HB9A.out hbB)
      clear hbB hrA
      refine hK.out _ _ (by (try dsimp only); exact HS5.out _ HB9B.out) (fun hHeld => ?_)
      clear hK K
      (try dsimp only); (try simp only [Act.put]); (try simp only [List.setIfInBounds_toArray]); (try simp only [List.set_cons_succ]); (try simp only [List.set_cons_zero])
      refine wpAnyH_take (i := 6) (oi := _) (v := ?_) rfl (by kernel_rfl) (by kernel_rfl) (by kernel_rfl) (fun _ _ _ h => h) (Or.inl ⟨by rfl, ?_⟩) (by assumption) ?_
      rotate_left
      · (intro w hSw; (try dsimp only at hSw); go_simp; try with_reducible rfl)
      (try dsimp only); (try simp only [Act.put]); (try simp only [List.setIfInBounds_toArray]); (try simp only [List.set_cons_succ]); (try simp only [List.set_cons_zero])
      refine wpAnyH_take (i := 7) (oi := _) (v := ?_) rfl (by kernel_rfl) (by kernel_rfl) (by kernel_rfl) (fun _ _ _ h => h) (Or.inl ⟨by rfl, ?_⟩) (by assumption) ?_
      rotate_left
      · (intro w hSw; (try dsimp only at hSw); go_simp; try with_reducible rfl)
      (try dsimp only); (try simp only [Act.put]); (try simp only [List.setIfInBounds_toArray]); (try simp only [List.set_cons_succ]); (try simp only [List.set_cons_zero])
      refine wpAnyH_take (i := 8) (oi := _) (v := ?_) rfl (by kernel_rfl) (by kernel_rfl) (by kernel_rfl) (fun _ _ _ h => h) (Or.inl ⟨by rfl, ?_⟩) (by assumption) ?_
      rotate_left
      · (intro w hSw; (try dsimp only at hSw); go_simp; try with_reducible rfl)
      (try dsimp only); (try simp only [Act.put]); (try simp only [List.setIfInBounds_toArray]); (try simp only [List.set_cons_succ]); (try simp only [List.set_cons_zero])
      refine wpAnyH_take (i := 9) (oi := _) (v := ?_) rfl (by kernel_rfl) (by kernel_rfl) (by kernel_rfl) (fun _ _ _ h => h) (Or.inl ⟨by rfl, ?_⟩) (by assumption) ?_
      rotate_left
      · (intro w hSw; (try dsimp only at hSw); go_simp; try with_reducible rfl)
      (try dsimp only); (try simp only [Act.put]); (try simp only [List.setIfInBounds_toArray]); (try simp only [List.set_cons_succ]); (try simp only [List.set_cons_zero])
      refine wpAnyH_take (i := 10) (oi := _) (v := ?_) rfl (by kernel_rfl) (by kernel_rfl) (by kernel_rfl) (fun _ _ _ h => h) (Or.inl ⟨by rfl, ?_⟩) (by assumption) ?_
      rotate_left
      · (intro w hSw; (try dsimp only at hSw); go_simp; try with_reducible rfl)
      (try dsimp only); (try simp only [Act.put]); (try simp only [List.setIfInBounds_toArray]); (try simp only [List.set_cons_succ]); (try simp only [List.set_cons_zero])
      refine wpAnyH_done (by kernel_rfl) ?_ _
      refine NoPanic.normal ?_
      repeat (clear hHeld)
      replace hW := over hW HB9B.out
      replace HAr := Lib.hid (fun W (hb : Below wB.heap.size wB W) => HAr.out W (over HB9B.out hb))
      replace HR7 := Lib.hid (HR7.out.later HB9B.out)
      replace HBk := Lib.hid (HBk.out wB HB9B.out)
      have hb9B := HB9B.out
      (try clear c5 t5); replace B5 := B5.later hb9B; have c5 := B5.cell; have t5 := B5.lt
      clear HS5 HIr HB9A HB9B hb9B
      go_wp2_with fail
      refine HBk.out.mono ?_
      rintro e wC ⟨ba2, bc2, rfl, hbC, hrC⟩
      have HArB := Lib.hid (rArr_hp (c := bc2) (s := s) hrC hf HGch.out HRl.out e12)
      rw [HGa.out, ← HRn.out] at HArB
      replace hW := over hW hbC
      replace HAr := Lib.hid (fun W (hb : Below wC.heap.size wC W) => HAr.out W (over hbC hb))
      replace HR7 := Lib.hid (HR7.out.later hbC)
      (try clear c5 t5); replace B5 := B5.later hbC; have c5 := B5.cell; have t5 := B5.lt
      clear hbC hrC HBk
      go_wp2_with fail
      refine HArB.out.mono ?_
      rintro e wD ⟨rfl, hbD⟩
      replace hW := over hW hbD
      replace HAr := Lib.hid (fun W (hb : Below wD.heap.size wD W) => HAr.out W (over hbD hb))
      replace HR7 := Lib.hid (HR7.out.later hbD)
      (try clear c5 t5); replace B5 := B5.later hbD; have c5 := B5.cell; have t5 := B5.lt
      have d1 : decide ((u : Int) < sv) = false := by simp; omega
      clear hbD HArB hsur
      go_wp2_with fail
      refine (land_any q L wD (HL.out.later hW) HS.out).mono ?_
      rintro e wE ⟨q3, rfl, hbx, hlx⟩
      replace hW := over hW hbx
      (try clear c5 t5); replace B5 := B5.later hbx; have c5 := B5.cell; have t5 := B5.lt
      have HLx := Lib.hid hlx
      clear hlx
      replace HR7 := Lib.hid (HR7.out.later hbx)
      replace HAr := Lib.hid (fun W (hb : Below wE.heap.size wE W) => HAr.out W (over hbx hb))
      clear hbx
      have HPv := Lib.hid (prove_hp (u := (u : Int)) (c := rc) HLx.out HS.out HR7.out (by have := HRl.out; omega) HP1.out)
      rw [← HRn.out] at HPv
      go_wp2_with fail
      refine HPv.out.mono ?_
      rintro e wF ⟨rfl, hby⟩
      replace hW := over hW hby
      replace HR7 := Lib.hid (HR7.out.later hby)
      replace HAr := Lib.hid (fun W (hb : Below wF.heap.size wF W) => HAr.out W (over hby hb))
      (try clear c5 t5); replace B5 := B5.later hby; have c5 := B5.cell; have t5 := B5.lt
      clear hby HPv HLx
      by_cases hu0 : 0 < u
      · have HP3 := Lib.hid (HP2.out hu0)
        have r7 : (0 : Int) < (u : Int) := by omega
        clear HP1 HP2 d1
        go_wp2_with fail
        refine (land_any q L wF (HL.out.later hW) HS.out).mono ?_
        rintro e wG ⟨q4, rfl, hbx, hlx⟩
        replace hW := over hW hbx
        (try clear c5 t5); replace B5 := B5.later hbx; have c5 := B5.cell; have t5 := B5.lt
        have HLx := Lib.hid hlx
        clear hlx
        replace HR7 := Lib.hid (HR7.out.later hbx)
        replace HAr := Lib.hid (fun W (hb : Below wG.heap.size wG W) => HAr.out W (over hbx hb))
        clear hbx
        have HPv := Lib.hid (prove_hp (u := ((u : Int) - 1)) (c := rc) HLx.out HS.out HR7.out (by have := HRl.out; omega) HP3.out)
        rw [← HRn.out] at HPv
        go_wp2_with fail
        refine HPv.out.mono ?_
        rintro e wH ⟨rfl, hby⟩
        replace hW := over hW hby
        replace HR7 := Lib.hid (HR7.out.later hby)
        replace HAr := Lib.hid (fun W (hb : Below wH.heap.size wH W) => HAr.out W (over hby hb))
        (try clear c5 t5); replace B5 := B5.later hby; have c5 := B5.cell; have t5 := B5.lt
        clear hby HPv HLx
        clear r7 hu0
        rcases HHop.out with ⟨h1, h2⟩ | ⟨h1, _⟩
        · have hbest := HBest.out h2
          have HA2 := Lib.hid (HAr.out wH (Below.refl _ _))
          subst h1
          clear HHop HBest h2 HAr
          go_wp2_with fail
          refine HA2.out.mono ?_
          rintro e wz ⟨rfl, hbz⟩
          replace hW := over hW hbz
          clear hbz HA2 B5 c5 t5
          rcases hbest with h | ⟨h, h3⟩
          · have r8 := decide_eq_true h
            clear h
            go_wp2_with fail
            refine (awake_any _).mono ?_
            rintro e wy ⟨rfl, hby⟩
            replace hW := over hW hby
            clear hby
            go_wp2_with fail
            go_ret
            exact ⟨rfl, hW⟩
          · subst h
            have r9 := decide_eq_true h3
            clear h3
            go_wp2_with fail
            refine (awake_any _).mono ?_
            rintro e wy ⟨rfl, hby⟩
            replace hW := over hW hby
            clear hby
            go_wp2_with fail
            go_ret
            exact ⟨rfl, hW⟩
        · clear HHop HBest HAr B5 c5 t5
          go_wp2_with fail
          refine (awake_any _).mono ?_
          rintro e wy ⟨rfl, hby⟩
          replace hW := over hW hby
          clear hby
          go_wp2_with fail
          go_ret
          exact ⟨rfl, hW⟩
      · obtain rfl : u = 0 := by omega
        clear HP1 HP2 d1
        rcases HHop.out with ⟨h1, h2⟩ | ⟨h1, _⟩
        · have hbest := HBest.out h2
          have HA2 := Lib.hid (HAr.out wF (Below.refl _ _))
          subst h1
          clear HHop HBest h2 HAr
          go_wp2_with fail
          refine HA2.out.mono ?_
          rintro e wz ⟨rfl, hbz⟩
          replace hW := over hW hbz
          clear hbz HA2 B5 c5 t5
          rcases hbest with h | ⟨h, h3⟩
          · have r8 := decide_eq_true h
            clear h
            go_wp2_with fail
            refine (awake_any _).mono ?_
            rintro e wy ⟨rfl, hby⟩
            replace hW := over hW hby
            clear hby
            go_wp2_with fail
            go_ret
            exact ⟨rfl, hW⟩
          · subst h
            have r9 := decide_eq_true h3
            clear h3
            go_wp2_with fail
            refine (awake_any _).mono ?_
            rintro e wy ⟨rfl, hby⟩
            replace hW := over hW hby
            clear hby
            go_wp2_with fail
            go_ret
            exact ⟨rfl, hW⟩
        · clear HHop HBest HAr B5 c5 t5
          go_wp2_with fail
          refine (awake_any _).mono ?_
          rintro e wy ⟨rfl, hby⟩
          replace hW := over hW hby
          clear hby
          go_wp2_with fail
          go_ret
          exact ⟨rfl, hW⟩
end Go.Proofs.YtfihdaoakfdlpaaGreat
