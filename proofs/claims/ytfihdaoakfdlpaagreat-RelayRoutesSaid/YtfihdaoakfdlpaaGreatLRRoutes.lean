/- The statement on the best route, and on any list of hops: its walk. -/
import Derived.Test.YtfihdaoakfdlpaaGreatRE5
import Derived.Test.YtfihdaoakfdlpaaGreatLRQuicker
import Derived.Test.YtfihdaoakfdlpaaGreatLR7
import Derived.Test.YtfihdaoakfdlpaaGreatLRSticks
import Derived.Deep.CutBlock
open Go.RowKit
namespace Go.Proofs.YtfihdaoakfdlpaaGreat
open Go.Hill

theorem prvR_no {L : Land} {fr ta st u : Int} {l : List Hi} (h : L.askr fr ta st 0 ≠ 0) : Land.prvR L fr ta st l u = false := by
  unfold Land.prvR
  by_cases hc : L.chk = 0
  · rw [askr_two hc] at h
    have h1 : okr L [fr, ta] [st, u] 0 = false := by
      cases ho : okr L [fr, ta] [st] 0 with
      | true => rw [ho] at h; simp at h
      | false =>
        unfold okr at ho ⊢
        simp only [List.all_cons, List.all_nil, Bool.and_true] at ho ⊢
        cases h1 : inB fr 0 ((L.st.length : Int) - 1) <;> cases h2 : inB ta 0 ((L.st.length : Int) - 1) <;> cases h3 : inB st 0 (L.sn.length : Int) <;> cases h4 : inB 0 0 ((L.cs.length : Int) - 1) <;> simp_all
    rw [h1]; simp
  · rw [decide_eq_false hc]; rfl
theorem prvR_yes {L : Land} {f t s : Nat} {u : Int} {l : List Hi} (hc : L.chk = 0) (hf : f < L.st.length) (ht : t < L.st.length) (hs : s ≤ L.sn.length) :
    Land.prvR L f t s l u = (inB u 0 (L.sn.length : Int) && (decide (l.length ≤ 12) && (decide (leadF L.st.length L.sn.length f s l = some (t : Int)) && ((stkF L (l.map Hi.hp) 0).isNone && decide (arrF s l ≤ u))))) := by
  have h3 := (st_six hc).2.2.2.2.2
  have h1 : okr L [(f : Int), (t : Int)] [(s : Int), u] 0 = inB u 0 (L.sn.length : Int) := by
    unfold okr
    simp only [List.all_cons, List.all_nil, Bool.and_true]
    rw [show inB (f : Int) 0 ((L.st.length : Int) - 1) = true by rw [inB_iff]; omega, show inB (t : Int) 0 ((L.st.length : Int) - 1) = true by rw [inB_iff]; omega, show inB (s : Int) 0 (L.sn.length : Int) = true by rw [inB_iff]; omega, show inB 0 0 ((L.cs.length : Int) - 1) = true by rw [inB_iff]; omega]
    simp
  unfold Land.prvR
  rw [decide_eq_true hc, h1, Bool.true_and]
set_option maxRecDepth 100000 in
set_option maxHeartbeats 8000000 in
theorem RelayRoutes_any (q : LV) (L : Land) (fr ta st : Int) (l : List Hi) (a : Option Addr) (c : Nat) (u : Int) (w : World) (hL : LandAt w q L) (hs : Sane L) (hl : HisAt w a l) (_ : l.length ≤ 9223372036854775807) :
    Calls Tryz.prog 8 #[landV q L, .int .i64 fr, .int .i64 ta, .int .i64 st, .slice a l.length c, .int .i64 u] w (Ret (.bool true) w) := by
  obtain ⟨tv, htv⟩ : ∃ tv, tv = thinB L := ⟨_, rfl⟩
  have HThin : Hid (∀ W, Below w.heap.size w W → Calls Tryz.prog 13 #[landV q L] W (Ret (.bool tv) W)) := fun W hW => by rw [htv]; exact thin_any q L W (hL.later hW) hs
  have HL := Lib.hid hL
  have HI := Lib.hid hl
  have HTv := Lib.hid htv
  obtain ⟨n, hn⟩ : ∃ n, n = l.length := ⟨_, rfl⟩
  have HN := Lib.hid hn
  rw [← hn]
  clear hL hs htv hl hn
  go_enter Tryz.func8, Tryz.ntmps8
  go_wp2_with fail
  refine named1 (p := fun W => Calls _ _ _ W _) ?_
  intro W hW B5
  refine (HThin.out W hW).mono ?_
  rintro e w1 ⟨rfl, hb1⟩
  replace hW := over hW hb1
  (try clear c5 t5); replace B5 := B5.later hb1; have c5 := B5.cell; have t5 := B5.lt
  clear hb1 HThin
  cases tv with
  | false =>
    go_wp2_with fail
    refine (awake_any _).mono ?_
    rintro e w2 ⟨rfl, hb2⟩
    replace hW := over hW hb2
    clear hb2
    go_wp2_with fail
    go_ret
    exact ⟨rfl, hW⟩
  | true =>
    have HS := Lib.hid (thin_small HTv.out.symm)
    by_cases h15 : 15 < n
    · have d1 : decide ((15 : Int) < (n : Int)) = true := by simp; omega
      clear h15 HTv
      go_wp2_with fail
      refine (awake_any _).mono ?_
      rintro e w2 ⟨rfl, hb2⟩
      replace hW := over hW hb2
      clear hb2
      go_wp2_with fail
      go_ret
      exact ⟨rfl, hW⟩
    have d1 : decide ((15 : Int) < (n : Int)) = false := by simp; omega
    have hll : n ≤ 15 := by omega
    clear h15 HTv
    go_wp2_with fail
    clear d1
    refine (land_any q L w1 (HL.out.later hW) HS.out).mono ?_
    rintro e w2 ⟨q1, rfl, hbx, hlx⟩
    replace hW := over hW hbx
    (try clear c5 t5); replace B5 := B5.later hbx; have c5 := B5.cell; have t5 := B5.lt
    have HL2 := Lib.hid hlx
    clear hbx hlx
    go_wp2_with fail
    obtain ⟨⟨xl, xv, xe⟩, hx⟩ : ∃ r, Land.routeE L fr ta st = r := ⟨_, rfl⟩
    have HX := Lib.hid hx
    refine (Route_any q1 L fr ta st w2 HL2.out HS.out).mono ?_
    rw [hx]
    rintro e w3 ⟨xa, xc, rfl, hb3, hr3⟩
    replace hW := over hW hb3
    (try clear c5 t5); replace B5 := B5.later hb3; have c5 := B5.cell; have t5 := B5.lt
    have HR3 := Lib.hid (show HopsAt w3 xa xl from hr3)
    obtain ⟨rn, hrn⟩ : ∃ rn, rn = xl.length := ⟨_, rfl⟩
    simp only
    rw [← hrn]
    have HRn := Lib.hid hrn
    clear hb3 HL2 hr3 hx hrn
    go_wp2_with fail
    refine (land_any q L w3 (HL.out.later hW) HS.out).mono ?_
    rintro e w4 ⟨q2, rfl, hbx, hlx⟩
    replace hW := over hW hbx
    (try clear c5 t5); replace B5 := B5.later hbx; have c5 := B5.cell; have t5 := B5.lt
    have HL4 := Lib.hid hlx
    clear hlx
    replace HR3 := Lib.hid (HR3.out.later hbx)
    clear hbx
    go_wp2_with fail
    have HCv := Lib.hid (convR_any l a c w4 (HI.out.later hW) (by have := HN.out; omega))
    rw [← HN.out] at HCv
    refine HCv.out.mono ?_
    clear HCv
    rintro e w5 ⟨v5, rfl, hb5, hO5⟩
    obtain ⟨a5, c5', rfl, hi5⟩ := his_of hO5
    obtain ⟨pv, hpv⟩ : ∃ r, Land.prvR L fr ta st l u = r := ⟨_, rfl⟩
    have HPv := Lib.hid (ProveRoute_any q2 L fr ta st l a5 c5' u w5 (HL4.out.later hb5) HS.out hi5 (by have := HN.out; omega))
    have HPx := Lib.hid hpv
    rw [hpv, ← HN.out] at HPv
    rw [← HN.out]
    replace hW := over hW hb5
    replace HR3 := Lib.hid (HR3.out.later hb5)
    (try clear c5 t5); replace B5 := B5.later hb5; have c5 := B5.cell; have t5 := B5.lt
    clear hpv hO5 hi5 HL4 hb5
    go_wp2_with fail
    refine HPv.out.mono ?_
    rintro e w6 ⟨rfl, hb6⟩
    replace hW := over hW hb6
    replace HR3 := Lib.hid (HR3.out.later hb6)
    (try clear c5 t5); replace B5 := B5.later hb6; have c5 := B5.cell; have t5 := B5.lt
    clear hb6 HPv
    go_wp2_with fail
    obtain ⟨a1, ha1⟩ : ∃ a, a = L.askr fr ta st 0 := ⟨_, rfl⟩
    refine (asked3_any q L fr ta st 0 w6 (HL.out.later hW) HS.out).mono ?_
    rw [← ha1]
    have HA1 := Lib.hid ha1
    rintro e w7 ⟨rfl, hb7⟩
    replace hW := over hW hb7
    replace HR3 := Lib.hid (HR3.out.later hb7)
    (try clear c5 t5); replace B5 := B5.later hb7; have c5 := B5.cell; have t5 := B5.lt
    clear hb7 ha1
    by_cases h0 : a1 = 0
    case neg =>
      have h0b : (a1 == 0) = false := by simpa using h0
      have h0c : (a1 != 0) = true := by simpa using h0
      have hpf := prvR_no (u := u) (l := l) (by rw [← HA1.out]; exact h0)
      rw [HPx.out] at hpf
      subst hpf
      have hx := HX.out
      unfold Land.routeE at hx
      rw [← HA1.out, if_neg h0] at hx
      simp only [Prod.mk.injEq] at hx
      obtain ⟨rfl, rfl, rfl⟩ := hx
      obtain rfl : rn = 0 := HRn.out
      clear h0 HX HA1 HRn HR3 HPx
      go_wp2_with fail
      refine (awake_any _).mono ?_
      rintro e w8 ⟨rfl, hb8⟩
      replace hW := over hW hb8
      clear hb8
      go_wp2_with fail
      go_ret
      exact ⟨rfl, hW⟩
    subst h0
    obtain ⟨hc, f, t, s, rfl, rfl, rfl, hf, ht, hs'⟩ := askr_at HA1.out.symm
    obtain ⟨n6, n0, e12, e0, m4, m0⟩ := st_six hc
    have HC := Lib.hid hc
    have hpx := HPx.out
    rw [prvR_yes hc hf ht hs'] at hpx
    have HXx := Lib.hid (routeE_ok hc hf ht hs')
    rw [HX.out] at HXx
    obtain ⟨ib, hib⟩ : ∃ ib, ib = inB u 0 (L.sn.length : Int) := ⟨_, rfl⟩
    have HIn : Hid (∀ W, Calls Tryz.prog 40 #[.int .i64 u, .int .i64 0, .int .i64 (L.sn.length : Int)] W (Ret (.bool ib) W)) := fun W => by rw [hib]; exact in_any _ _ _ _
    rw [← hib] at hpx
    have HPx2 := Lib.hid hpx
    have HIb := Lib.hid hib
    clear hc hpx HPx HX HA1 hib
    go_wp2_with fail
    refine (rend_any q L _).mono ?_
    rintro e w8 ⟨rfl, hb8⟩
    replace hW := over hW hb8
    replace HR3 := Lib.hid (HR3.out.later hb8)
    (try clear c5 t5); replace B5 := B5.later hb8; have c5 := B5.cell; have t5 := B5.lt
    clear hb8
    go_wp2_with fail
    refine (HIn.out _).mono ?_
    rintro e w9 ⟨rfl, hb9⟩
    replace hW := over hW hb9
    replace HR3 := Lib.hid (HR3.out.later hb9)
    (try clear c5 t5); replace B5 := B5.later hb9; have c5 := B5.cell; have t5 := B5.lt
    clear hb9 HIn
    cases ib with
    | false =>
      have hpf := HPx2.out
      rw [Bool.false_and] at hpf
      subst hpf
      have HFin : Hid (∀ W', Below w9.heap.size w9 W' → Below w9.heap.size w9 W') := fun _ h => h
      clear HPx2 HIb
      go_wp2_with fail
      refine (rRoute_any q L f t s _ (HL.out.later hW) HC.out hf hs').mono ?_
      intro e wt hret
      cases hro : L.route f t s with
      | none =>
        rw [hro] at hret
        obtain ⟨rfl, hbt⟩ := hret
        replace hW := over hW hbt
        have hx := HXx.out
        rw [hro] at hx
        simp only [Prod.mk.injEq] at hx
        obtain ⟨rfl, rfl, rfl⟩ := hx
        obtain rfl : rn = 0 := HRn.out
        clear hbt HXx hro HRn HR3 HFin
        go_wp2_with fail
        refine (awake_any _).mono ?_
        rintro e wz ⟨rfl, hbz⟩
        replace hW := over hW hbz
        clear hbz
        go_wp2_with fail
        go_ret
        exact ⟨rfl, hW⟩
      | some lu =>
        obtain ⟨bl, bu⟩ := lu
        rw [hro] at hret
        obtain ⟨ba, bc, rfl, hbt, hbl⟩ := hret
        replace hW := over hW hbt
        replace HR3 := Lib.hid (HR3.out.later (HFin.out _ hbt))
        have hx := HXx.out
        rw [hro] at hx
        simp only [Prod.mk.injEq] at hx
        obtain ⟨rfl, rfl, rfl⟩ := hx
        obtain ⟨k1, k2, k3, k4, k5, k6, k7⟩ := route_good (by omega) hs' hro
        have HBl := Lib.hid hbl
        have HHp := Lib.hid (hops3_yes xl xa ba xc bc wt HR3.out hbl (by omega))
        have HAr := Lib.hid (fun W (h : HopsAt W ba xl) => rArr_hp (c := bc) (s := s) h hf k4 (by omega) (by omega))
        rw [k3] at HAr
        rw [← HRn.out] at HHp HAr ⊢
        clear hbt HXx hro HR3 HFin hbl k1 k3 k4 k5 k6
        simp only
        go_wp2_with fail
        refine HHp.out.mono ?_
        rintro e wt2 ⟨rfl, hbt2⟩
        replace hW := over hW hbt2
        replace HBl := Lib.hid (HBl.out.later hbt2)
        clear hbt2 HHp
        go_wp2_with fail
        refine (HAr.out _ HBl.out).mono ?_
        rintro e wt3 ⟨rfl, hbt3⟩
        replace hW := over hW hbt3
        clear hbt3 HAr HBl k2 k7
        go_wp2_with fail
        refine (awake_any _).mono ?_
        rintro e wz ⟨rfl, hbz⟩
        replace hW := over hW hbz
        clear hbz
        go_wp2_with fail
        go_ret
        exact ⟨rfl, hW⟩
    | true =>
      go_upto_if 65 with fail
      go_cut [18] (fun s18 wx => s18 = .bool pv ∧ Below w9.heap.size w9 wx)
      case first =>
        have HIs := Lib.hid (rIsRoute_any q L f s l a c w9 HC.out (HI.out.later hW) (by have := HN.out; omega))
        rw [← HN.out] at HIs
        have hpx := HPx2.out
        rw [Bool.true_and, ← HN.out] at hpx
        obtain ⟨o, ho⟩ : ∃ o, o = leadF L.st.length L.sn.length f s l := ⟨_, rfl⟩
        rw [← ho] at HIs hpx
        have HO := Lib.hid ho
        unfold isrV at HIs
        clear ho HPx2 HR3 HXx HIb
        by_cases h12 : 12 < n
        · have d2 : decide (n ≤ 12) = false := by simp; omega
          rw [d2, Bool.false_and] at hpx
          rw [d2, Bool.and_false] at HIs
          subst hpx
          clear d2 h12
          go_wp2_with fail
          refine HIs.out.mono ?_
          rintro e w10 ⟨rfl, hb10⟩
          clear HIs B5 c5 t5
          go_wp2_with fail
          go_meet
          exact ⟨rfl, hb10⟩
        · have d2 : decide (n ≤ 12) = true := by simp; omega
          rw [d2, Bool.true_and] at hpx
          rw [d2, Bool.and_true] at HIs
          clear d2 h12
          cases o with
          | none =>
            have hpf : false = pv := hpx
            subst hpf
            rw [show (none : Option Int).isSome = false from rfl] at HIs
            clear hpx
            go_wp2_with fail
            refine HIs.out.mono ?_
            rintro e w10 ⟨rfl, hb10⟩
            clear HIs B5 c5 t5
            go_wp2_with fail
            go_meet
            exact ⟨rfl, hb10⟩
          | some g =>
            rw [show (some g).isSome = true from rfl, show (some g).getD 0 = g from rfl] at HIs
            by_cases hgt : g = (t : Int)
            case neg =>
              have d3 : (g == (t : Int)) = false := by simpa using hgt
              rw [decide_eq_false (by simpa using hgt), Bool.false_and] at hpx
              subst hpx
              clear hgt
              go_wp2_with fail
              refine HIs.out.mono ?_
              rintro e w10 ⟨rfl, hb10⟩
              clear HIs B5 c5 t5
              go_wp2_with fail
              go_meet
              exact ⟨rfl, hb10⟩
            subst hgt
            rw [decide_eq_true rfl, Bool.true_and] at hpx
            obtain ⟨hl, rfl, hch, hg⟩ := lead_chain HO.out.symm
            rw [hp_hi] at hpx
            have HSk := Lib.hid (fun W (hb : Below w9.heap.size w9 W) => rStick_any q L hl a c W (HL.out.later (over hW hb)) HC.out (his_hops (HI.out.later (over hW hb))) (by have := HN.out; rw [List.length_map] at this; omega) (chain_mem hf hch))
            have HAr := Lib.hid (fun W (hb : Below w9.heap.size w9 W) => rArrives_any s (hl.map Hp.hi) a c W (HI.out.later (over hW hb)) (by have := HN.out; omega) fun p hp => by
              obtain ⟨y, hy, rfl⟩ := List.mem_map.1 hp
              have := (chain_mem hf hch y hy).2.2
              show (0 : Int) ≤ (y.hr : Int) ∧ (y.hr : Int) ≤ 1000
              omega)
            rw [← HN.out] at HAr
            rw [show hl.length = n by have := HN.out; rw [List.length_map] at this; omega] at HSk
            obtain ⟨av, hav⟩ : ∃ av, av = arrF (s : Int) (hl.map Hp.hi) := ⟨_, rfl⟩
            rw [← hav] at HAr hpx
            clear hg hch hav HO
            go_wp2_with fail
            refine HIs.out.mono ?_
            rintro e w10 ⟨rfl, hb10⟩
            have HSk2 := Lib.hid (HSk.out w10 hb10)
            have HAr2 := Lib.hid (fun W (hb : Below w10.heap.size w10 W) => HAr.out W (over hb10 hb))
            (try clear c5 t5); replace B5 := B5.later hb10; have c5 := B5.cell; have t5 := B5.lt
            have HB10 := Lib.hid hb10
            clear HIs HSk HAr hb10
            cases hsk : stkF L hl 0 with
            | none =>
              rw [hsk] at hpx HSk2
              have hpd : decide (av ≤ u) = pv := hpx
              have HPd := Lib.hid hpd
              rw [show rstV none = .tuple #[.int .i64 (-1), .int .i64 0] from rfl] at HSk2
              clear hsk hpx hpd
              go_wp2_with fail
              refine HSk2.out.mono ?_
              rintro e w11 ⟨rfl, hb11⟩
              have HAr3 := Lib.hid (HAr2.out w11 hb11)
              have HB11 := Lib.hid (over HB10.out hb11)
              clear HSk2 HAr2 hb11 B5 c5 t5
              go_wp2_with fail
              refine HAr3.out.mono ?_
              rintro e w12 ⟨rfl, hb12⟩
              have HB12 := Lib.hid (over HB11.out hb12)
              clear HAr3 hb12
              go_wp2_with fail
              go_meet
              exact ⟨by rw [← HPd.out], HB12.out⟩
            | some ik =>
              obtain ⟨i, k⟩ := ik
              rw [hsk] at hpx HSk2
              have hpd : false = pv := hpx
              subst hpd
              rw [show rstV (some (i, k)) = .tuple #[.int .i64 i, .int .i64 k] from rfl] at HSk2
              clear hsk hpx HAr2
              go_wp2_with fail
              refine HSk2.out.mono ?_
              rintro e w11 ⟨rfl, hb11⟩
              have HB11 := Lib.hid (over HB10.out hb11)
              have d5 : decide ((i : Int) < 0) = false := by simp
              clear HSk2 hb11 B5 c5 t5
              go_wp2_with fail
              go_meet
              exact ⟨rfl, HB11.out⟩
      case rest =>
        obtain ⟨rfl, hbc⟩ := hcut
        replace hW := over hW hbc
        replace HR3 := Lib.hid (HR3.out.later hbc)
        (try clear c5 t5); replace B5 := B5.later hbc; have c5 := B5.cell; have t5 := B5.lt
        have HFin : Hid (∀ W', Below wc.heap.size wc W' → Below wc.heap.size wc W') := fun _ h => h
        clear hbc HPx2 HIb
        go_wp2_with fail
        refine (rRoute_any q L f t s _ (HL.out.later hW) HC.out hf hs').mono ?_
        intro e wt hret
        cases hro : L.route f t s with
        | none =>
          rw [hro] at hret
          obtain ⟨rfl, hbt⟩ := hret
          replace hW := over hW hbt
          have hx := HXx.out
          rw [hro] at hx
          simp only [Prod.mk.injEq] at hx
          obtain ⟨rfl, rfl, rfl⟩ := hx
          obtain rfl : rn = 0 := HRn.out
          clear hbt HXx hro HRn HR3 HFin
          go_wp2_with fail
          refine (awake_any _).mono ?_
          rintro e wz ⟨rfl, hbz⟩
          replace hW := over hW hbz
          clear hbz
          go_wp2_with fail
          go_ret
          exact ⟨rfl, hW⟩
        | some lu =>
          obtain ⟨bl, bu⟩ := lu
          rw [hro] at hret
          obtain ⟨ba, bc, rfl, hbt, hbl⟩ := hret
          replace hW := over hW hbt
          replace HR3 := Lib.hid (HR3.out.later (HFin.out _ hbt))
          have hx := HXx.out
          rw [hro] at hx
          simp only [Prod.mk.injEq] at hx
          obtain ⟨rfl, rfl, rfl⟩ := hx
          obtain ⟨k1, k2, k3, k4, k5, k6, k7⟩ := route_good (by omega) hs' hro
          have HBl := Lib.hid hbl
          have HHp := Lib.hid (hops3_yes xl xa ba xc bc wt HR3.out hbl (by omega))
          have HAr := Lib.hid (fun W (h : HopsAt W ba xl) => rArr_hp (c := bc) (s := s) h hf k4 (by omega) (by omega))
          rw [k3] at HAr
          rw [← HRn.out] at HHp HAr ⊢
          clear hbt HXx hro HR3 HFin hbl k1 k3 k4 k5 k6
          simp only
          go_wp2_with fail
          refine HHp.out.mono ?_
          rintro e wt2 ⟨rfl, hbt2⟩
          replace hW := over hW hbt2
          replace HBl := Lib.hid (HBl.out.later hbt2)
          clear hbt2 HHp
          go_wp2_with fail
          refine (HAr.out _ HBl.out).mono ?_
          rintro e wt3 ⟨rfl, hbt3⟩
          replace hW := over hW hbt3
          clear hbt3 HAr HBl k2 k7
          go_wp2_with fail
          refine (awake_any _).mono ?_
          rintro e wz ⟨rfl, hbz⟩
          replace hW := over hW hbz
          clear hbz
          go_wp2_with fail
          go_ret
          exact ⟨rfl, hW⟩
end Go.Proofs.YtfihdaoakfdlpaaGreat
