/- The rise, the walks: the program's. -/
import Derived.Test.YtmfnkmmbihmjnaaRef1
import Derived.Test.YtmfnkmmbihmjnaaExp1
import Derived.Test.YtmfnkmmbihmjnaaFacts1
open Go.RowKit
namespace Go.Proofs.Ytmfnkmmbihmjnaa
open Go.Hill

theorem smallest_any (x y : Int) (W : World) (b c : Nat) (hB : Box W b #[.int .i64 x, .int .i64 y] 3) :
    Calls Try.prog 57 #[.slice (some ⟨b, 0, none⟩) 2 c] W (Ret (.int .i64 (min x y)) W) := by
  have hmin : Calls Try.prog 90 #[.slice (some ⟨b, 0, none⟩) 2 c] W (Ret (.int .i64 (min x y)) W) := by
    have c1 := hB.cell
    go_enter Try.func90, Try.ntmps90
    go_wp2_with fail
    go_loopw [3, 4] (fun m i wr => wr = W ∧ ((m = .int .i64 x ∧ i = .int .i64 1) ∨ (m = .int .i64 (min x y) ∧ i = .int .i64 2))) (fun _ i _ => 2 - (intOf i).toNat)
    case atStart => exact ⟨rfl, .inl ⟨rfl, rfl⟩⟩
    case round =>
      obtain ⟨rfl, ⟨rfl, rfl⟩ | ⟨rfl, rfl⟩⟩ := hrel
      · by_cases hxy : x ≤ y
        all_goals
          go_wp2_with fail
          all_goals
            go_roundw
            case rel => exact ⟨by first | rfl | trivial, .inr ⟨by congr 1; omega, rfl⟩⟩
            case measure => simp [intOf]
      · go_wp2_with fail
        go_ret
        exact ⟨rfl, Below.refl _ _⟩
  have HC := Lib.hid hmin
  clear hmin
  go_enter Try.func57, Try.ntmps57
  go_wp2_with fail
  refine HC.out.mono ?_
  rintro e w1 ⟨rfl, hb⟩
  go_wp2_with fail
  go_ret
  exact ⟨rfl, hb⟩

/-- The test of one wall. -/
theorem rise2_any (x : Wl) (a b : Stn) (b6 b3 : Nat) (w : World) (hx : x.In) (ha : a.In) (hb : b.In) (B6 : Box w b6 #[.int .i64 a.X, .int .i64 a.Y, .int .i64 a.Z, .int .i64 a.M] 81) (B3 : Box w b3 #[.int .i64 b.X, .int .i64 b.Y, .int .i64 b.Z, .int .i64 b.M] 81) :
    Calls Try.prog 55 #[.agg #[.int .i64 x.X1, .int .i64 x.Y1, .int .i64 x.X2, .int .i64 x.Y2, .int .i64 x.B, .int .i64 x.T], .pointer (some ⟨b6, 0, none⟩), .pointer (some ⟨b3, 0, none⟩)] w (Ret (.bool (!blk x a b)) w) := by
  obtain ⟨v, hv⟩ : ∃ v, v = blk x a b := ⟨_, rfl⟩
  have HC : Hid (∀ W, Calls Try.prog 56 #[.agg #[.int .i64 x.X1, .int .i64 x.Y1, .int .i64 x.X2, .int .i64 x.Y2, .int .i64 x.B, .int .i64 x.T], .agg #[.int .i64 a.X, .int .i64 a.Y, .int .i64 a.Z, .int .i64 a.M], .agg #[.int .i64 b.X, .int .i64 b.Y, .int .i64 b.Z, .int .i64 b.M]] W (Ret (.bool v) W)) := fun W => by rw [hv]; exact blocks_any x a b W ha hb hx
  rw [← hv]
  clear hv
  have hW0 : Below w.heap.size w (w.alloc (.cells #[.int .i64 x.X1, .int .i64 x.Y1, .int .i64 x.X2, .int .i64 x.Y2, .int .i64 x.B, .int .i64 x.T] 82)) := (by repeat (first | exact Below.refl _ _ | refine al ?_ _ | refine Below.drew ?_ | refine sc ?_ (by simp) _))
  have c6 := (B6.later hW0).cell
  have c3 := (B3.later hW0).cell
  clear hW0
  go_enter Try.func55, Try.ntmps55
  go_wp2_with fail
  refine named1 (p := fun W => Calls _ _ _ W _) ?_
  intro W hW _
  clear c6 c3
  refine (HC.out W).mono ?_
  rintro e w1 ⟨rfl, hb1⟩
  replace hW := over hW hb1
  clear hb1
  go_wp2_with fail
  go_ret
  exact ⟨rfl, hW⟩

set_option maxRecDepth 100000 in
/-- No ridge blocks, with so much more height. -/
theorem rise1_any (q : LV) (L : Land) (a b : Stn) (n : Int) (b10 b3 b11 : Nat) (w : World) (hL : LandAt w q L) (hF : Fits L) (l2 : L.rd.length ≤ 1000) (ha : a.In) (hb : b.In) (hn0 : 0 ≤ n) (hn : a.Z + n ≤ 1000)
    (B10 : Box w b10 #[.int .i64 a.X, .int .i64 a.Y, .int .i64 a.Z, .int .i64 a.M] 81) (B3 : Box w b3 #[.slice q.a1 L.st.length q.c1, .slice q.a2 L.rd.length q.c2, .slice q.a3 L.cs.length q.c3, .slice q.a4 L.sn.length q.c4] 39) (B11 : Box w b11 #[.int .i64 b.X, .int .i64 b.Y, .int .i64 b.Z, .int .i64 b.M] 81) :
    Calls Try.prog 53 #[.int .i64 n, .pointer (some ⟨b10, 0, none⟩), .pointer (some ⟨b3, 0, none⟩), .pointer (some ⟨b11, 0, none⟩)] w (Ret (.bool (freeAt L.rd a b n)) w) := by
  have hup : (a.upBy n).In := by unfold Stn.In Stn.upBy at *; simp only; omega
  have HL := Lib.hid hL
  have HRd : Hid (∀ s ∈ L.rd, s.In) := fun s hs => (hF.rd s hs).1
  have HCall : Hid (∀ W b6, Below w.heap.size w W → Box W b6 #[.int .i64 a.X, .int .i64 a.Y, .int .i64 (a.Z + n), .int .i64 a.M] 81 → Calls Try.prog 54 #[.slice q.a2 L.rd.length q.c2, .func (.func 55) #[] #[.pointer (some ⟨b6, 0, none⟩), .pointer (some ⟨b11, 0, none⟩)]] W (Ret (.bool (freeAt L.rd a b n)) W)) := fun W b6 hW B6 =>
    all_wl L.rd q.a2 q.c2 W (hL.later hW).rd 55 #[] #[.pointer (some ⟨b6, 0, none⟩), .pointer (some ⟨b11, 0, none⟩)] (fun x => !blk x (a.upBy n) b) (fun _ _ => by kernel_rfl) l2
      (fun x hx W' hb' => rise2_any x (a.upBy n) b b6 b11 W' (HRd.out x hx) hup hb (B6.later hb') ((B11.later hW).later hb'))
  obtain ⟨v, hv⟩ : ∃ v, v = freeAt L.rd a b n := ⟨_, rfl⟩
  rw [← hv] at HCall ⊢
  clear hv hL hF hup hb
  unfold Stn.In at ha
  have c10 := B10.cell
  have t10 := B10.lt
  have hW0 : Below w.heap.size w (w.alloc (.cells #[.int .i64 a.X, .int .i64 a.Y, .int .i64 (a.Z + n), .int .i64 a.M] 81)) := (by repeat (first | exact Below.refl _ _ | refine al ?_ _ | refine Below.drew ?_ | refine sc ?_ (by simp) _))
  have c3 := (B3.later hW0).cell
  clear hW0
  go_enter Try.func53, Try.ntmps53
  go_wp2_with fail
  refine named1 (p := fun W => Calls _ _ _ W _) ?_
  intro W hW B6
  refine (HCall.out W _ hW B6).mono ?_
  rintro e w1 ⟨rfl, hb1⟩
  replace hW := over hW hb1
  clear c10 t10 c3 hb1 B6
  go_wp2_with fail
  go_ret
  exact ⟨rfl, hW⟩

def Land.riseE (L : Land) (fr to : Int) : Int × Int :=
  if L.chk = 0 then (if Land.ask2 L fr to 0 0 = 0 then (if L.rise fr.toNat to.toNat < 0 then (0, 9) else (L.rise fr.toNat to.toNat, 0)) else (0, Land.ask2 L fr to 0 0)) else (0, L.chk)

/-- What halving finds. -/
theorem rise_found {rd : List Wl} {a b : Stn} {n : Int} (hr : ∀ w ∈ rd, w.B = 0) (ha : 0 ≤ a.Z) (hb : 0 ≤ b.Z) (h0 : 0 ≤ n) (h1 : a.Z + n ≤ 1000) (hf : freeAt rd a b n = true) (hno : n = 0 ∨ freeAt rd a b (n - 1) = false) : riseOf rd a b = n := by
  obtain ⟨k, rfl⟩ : ∃ k : Nat, n = k := ⟨n.toNat, by omega⟩
  refine riseOf_some h1 hf fun m hm => ?_
  rcases hno with h | h
  · omega
  · cases hfm : freeAt rd a b m with
    | false => rfl
    | true =>
      have := freeAt_mono hr ha hb (show (0 : Int) ≤ m by omega) (show (m : Int) ≤ (k : Int) - 1 by omega) hfm
      rw [this] at h; cases h
theorem rise_never {rd : List Wl} {a b : Stn} (hr : ∀ w ∈ rd, w.B = 0) (ha : 0 ≤ a.Z) (hb : 0 ≤ b.Z) (hf : freeAt rd a b (1000 - a.Z) = false) : riseOf rd a b = -1 := by
  refine riseOf_none fun m hm => ?_
  cases hfm : freeAt rd a b m with
  | false => rfl
  | true =>
    have := freeAt_mono hr ha hb (show (0 : Int) ≤ m by omega) (show (m : Int) ≤ 1000 - a.Z by omega) hfm
    rw [this] at hf; cases hf

set_option maxRecDepth 100000 in
set_option maxHeartbeats 4000000 in
theorem Rise_any (q : LV) (L : Land) (fr to : Int) (w : World) (hL : LandAt w q L) (hs : Small L) :
    Calls Try.prog 28 #[landV q L, .int .i64 fr, .int .i64 to] w (Ret (.tuple #[.int .i64 (Land.riseE L fr to).1, .int .i64 (Land.riseE L fr to).2]) w) := by
  obtain ⟨cc, hcc⟩ : ∃ cc, cc = L.chk := ⟨_, rfl⟩
  have HChk : Hid (∀ W, Below w.heap.size w W → Calls Try.prog 38 #[landV q L] W (Ret (.int .i64 cc) W)) := fun W hW => by rw [hcc]; exact check_any q L W (hL.later hW) hs.l1 hs.l2 hs.l3 hs.l4 hs.l5
  obtain ⟨ak, hak⟩ : ∃ ak, ak = Land.ask2 L fr to 0 0 := ⟨_, rfl⟩
  have HAsk : Hid (∀ w', Calls Try.prog 46 #[landV q L, .agg #[.int .i64 fr, .int .i64 to], .int .i64 0, .int .i64 0] w' (Ret (.int .i64 ak) w')) := fun w' => by rw [hak]; exact asked_any q _ _ _ _ fr to 0 0 w' hs.l1 hs.l3 hs.l4
  obtain ⟨r, hr⟩ : ∃ r, r = Land.riseE L fr to := ⟨_, rfl⟩
  rw [← hr]
  rw [Land.riseE, ← hcc, ← hak] at hr
  have HR := Lib.hid hr
  have HCC := Lib.hid hcc
  have HAK := Lib.hid hak
  have HL := Lib.hid hL
  have l1 := hs.l1
  have l2 := hs.l2
  clear hr hcc hak hL hs
  go_enter Try.func28, Try.ntmps28
  go_wp2_with fail
  refine named1 (p := fun W => Calls _ _ _ W _) ?_
  intro W hW B3
  refine (HChk.out W hW).mono ?_
  rintro e w1 ⟨rfl, hb1⟩
  replace hW := over hW hb1
  (try clear c3 t3); replace B3 := B3.later hb1; have c3 := B3.cell; have t3 := B3.lt
  clear hb1 HChk
  by_cases hc : cc = 0
  case neg =>
    have hcb : (cc != 0) = true := by simpa using hc
    have HR2 := Lib.hid (HR.out.trans (if_neg hc))
    clear hc
    go_wp2_with fail
    go_ret2
    obtain rfl := HR2.out
    exact ⟨rfl, hW⟩
  have HC : Hid (L.chk = 0) := by rw [Hid, ← HCC.out]; exact hc
  have HR1 := Lib.hid (HR.out.trans (if_pos hc))
  subst hc
  clear HR
  go_wp2_with fail
  refine (HAsk.out _).mono ?_
  rintro e w3 ⟨rfl, hb3⟩
  replace hW := over hW hb3
  (try clear c3 t3); replace B3 := B3.later hb3; have c3 := B3.cell; have t3 := B3.lt
  clear hb3 HAsk
  by_cases h0 : ak = 0
  case neg =>
    have hcb : (ak != 0) = true := by simpa using h0
    have HR2 := Lib.hid (HR1.out.trans (if_neg h0))
    clear h0
    go_wp2_with fail
    go_ret2
    obtain rfl := HR2.out
    exact ⟨rfl, hW⟩
  have HR2 := Lib.hid (HR1.out.trans (if_pos h0))
  subst h0
  have h1 : askd L.st.length L.cs.length L.sn.length fr to 0 0 = 0 := HAK.out.symm
  obtain ⟨i, j, c, d, rfl, rfl, hk0, hd0, hi, hj, hkk, hdd, _⟩ := askd_zero h1
  clear hk0 hd0 hkk hdd
  have HR3 := HR2.out
  simp only [Int.toNat_natCast] at HR3
  obtain ⟨a, ha⟩ := some_of hi
  obtain ⟨b, hb⟩ := some_of hj
  have hrise : L.rise i j = riseOf L.rd a b := by unfold Land.rise; rw [ha, hb]
  rw [hrise] at HR3
  have HR4 := Lib.hid HR3
  have hF := fits HC.out
  have HF := Lib.hid hF
  have hia := hF.st a (List.mem_of_getElem? ha)
  have hib := hF.st b (List.mem_of_getElem? hb)
  have HB0 : Hid (∀ x ∈ L.rd, x.B = 0) := fun x hx => (hF.rd x hx).2
  have HI := Lib.hid ha
  have HJ := Lib.hid hb
  have HW3 := Lib.hid (HL.out.later hW)
  obtain ⟨p1, o1, ea1, hC1⟩ := HW3.out.st.at hi
  obtain ⟨e0, e1, e2, e3⟩ := cells_st hC1 ha
  obtain ⟨f0, f1, f2, f3⟩ := cells_st hC1 hb
  have z1 := block_lt_of_cell e0
  have r1 : (0 : Int) ≤ (i : Int) := by omega
  have r2 : (i : Int) < (L.st.length : Int) := by omega
  have r3 : (0 : Int) ≤ (j : Int) := by omega
  have r4 : (j : Int) < (L.st.length : Int) := by omega
  have HB3 := Lib.hid B3
  rw [ea1] at c3
  clear h1 HR1 HR2 HR3 hrise hF ha hb ea1 hC1 hi hj B3
  go_wp2_with fail
  refine Fat.wp_region 14 [10, 11, 12, 13] [(12, 10), (13, 11)] (twoSt 81 a b) twoSt_lasting twoSt_local (by kernel_rfl) (by kernel_rfl) ?_
  simp only [List.take_succ_cons, List.take_nil, Fat.pick, List.contains_cons, List.contains_nil, Nat.reduceAdd, Nat.reduceBEq]
  repeat (first | simp only [Bool.or_false] | simp only [Bool.or_true] | simp only [Bool.true_or] | simp only [Bool.false_eq_true] | simp only [if_true] | simp only [if_false])
  repeat (go_big_quiet_step (fail))
  refine wpQuiet_nil ?_
  refine ⟨?_, ?_, ?_⟩
  · intro i o hi hown ho vals lo hi' W hW hdep
    simp only [List.contains_cons, List.contains_nil, Bool.or_false] at hi
    (try simp only [Bool.or_eq_true] at hi)
    simp only [beq_iff_eq] at hi
    rcases hi with rfl | rfl | rfl | rfl
    all_goals first
      | exact absurd hown (by decide)
      | (simp only [List.getElem?_cons_succ, List.getElem?_cons_zero, Option.some.injEq] at ho; subst ho; refine .inl ⟨rfl, ?_⟩; simp only [Fat.putN, Fat.dstOf, Act.put, List.getElem?_toArray, List.getElem?_cons_succ, List.getElem?_cons_zero, Option.bind_some, List.setIfInBounds_toArray, List.set_cons_succ, List.set_cons_zero])
    · go_simp
      exact newSpec_new _ _ _
    · go_simp
      exact newSpec_new _ _ _
  · intro i o hi hown ho vals lo hi' W hW hdep
    simp only [List.contains_cons, List.contains_nil, Bool.or_false] at hi
    (try simp only [Bool.or_eq_true] at hi)
    simp only [beq_iff_eq] at hi
    rcases hi with rfl | rfl | rfl | rfl
    all_goals first
      | exact absurd (by decide) hown
      | (simp only [List.getElem?_cons_succ, List.getElem?_cons_zero, Option.some.injEq] at ho; subst ho; refine ⟨rfl, ?_⟩; simp only [Fat.putN, Fat.dstOf, Act.put, List.getElem?_toArray, List.getElem?_cons_succ, List.getElem?_cons_zero, Option.bind_some, List.setIfInBounds_toArray, List.set_cons_succ, List.set_cons_zero]; (try simp only [Option.bind_none]))
    · obtain ⟨_, _, _, hn⟩ := hdep 10 rfl (by kernel_rfl)
      exact gives_fill (x := .tmp 10) (y := .tmp 33) rfl hn #[.int .i64 a.X, .int .i64 a.Y, .int .i64 a.Z, .int .i64 a.M] rfl rfl rfl (by kernel_rfl) rfl
    · obtain ⟨_, _, _, hn⟩ := hdep 11 rfl (by kernel_rfl)
      exact gives_fill (x := .tmp 11) (y := .tmp 38) rfl hn #[.int .i64 b.X, .int .i64 b.Y, .int .i64 b.Z, .int .i64 b.M] rfl rfl rfl (by kernel_rfl) rfl
  · intro vals lo hi' w5 hb5 hphi hdis htied
    obtain ⟨ua, ub, uc, (q10 : vals 10 = _), ud⟩ := hphi 10 rfl; clear ua ub uc ud
    obtain ⟨ua, ub, uc, (q11 : vals 11 = _), ud⟩ := hphi 11 rfl; clear ua ub uc ud
    obtain ⟨ua, ub, uc, ud, (BA : Box w5 (lo 12) _ _)⟩ := hphi 12 rfl; clear ua ub uc ud
    obtain ⟨ua, ub, uc, ud, (BB : Box w5 (lo 13) _ _)⟩ := hphi 13 rfl; clear ua ub uc ud
    rw [(htied 12 rfl (by decide)).1] at BA
    rw [(htied 13 rfl (by decide)).1] at BB
    simp only [Fat.putN, Fat.dstOf, Act.put, List.getElem?_toArray, List.getElem?_cons_succ, List.getElem?_cons_zero, Option.bind_some, List.setIfInBounds_toArray, List.set_cons_succ, List.set_cons_zero, List.drop_succ_cons, List.drop_nil]
    (try simp only [Option.bind_none])
    rw [q10, q11]
    clear q10 q11 hphi hdis htied vals
    replace BA : Box w5 (lo 10) _ _ := BA
    replace BB : Box w5 (lo 11) _ _ := BB
    generalize lo 10 = ba at *
    generalize lo 11 = bb at *
    replace hW := over hW hb5
    have B3 := HB3.out.later hb5
    have HL5 := Lib.hid (HW3.out.later hb5)
    clear e0 e1 e2 e3 f0 f1 f2 f3 z1 c3 t3 hb5 HB3 HW3
    have cA := BA.cell
    have tA := BA.lt
    have HBA := Lib.hid BA
    have HBB := Lib.hid BB
    have HB3 := Lib.hid B3
    have hA := hia
    have hB := hib
    unfold Stn.In at hA hB
    have HFree : Hid (∀ W n, Below w5.heap.size w5 W → 0 ≤ n → a.Z + n ≤ 1000 → Calls Try.prog 53 #[.int .i64 n, .pointer (some ⟨ba, 0, none⟩), .pointer (some ⟨w.heap.size, 0, none⟩), .pointer (some ⟨bb, 0, none⟩)] W (Ret (.bool (freeAt L.rd a b n)) W)) := fun W n hW' h0 h1 =>
      rise1_any q L a b n ba w.heap.size bb W (HL5.out.later hW') HF.out l2 hia hib h0 h1 (HBA.out.later hW') (HB3.out.later hW') (HBB.out.later hW')
    clear BA BB B3
    go_wp2_with fail
    refine Fat.wp_region_tail 5 (by kernel_rfl) (by kernel_rfl) ?_
    simp only [List.take_succ_cons, List.drop_succ_cons, List.take_nil, List.drop_nil]
    repeat (go_big_quiet_step (fail))
    refine wpQuiet_nil ?_
    intro w6 hb6
    have HB6 := Lib.hid hb6
    clear cA tA hb6
    have hz : 0 ≤ 1000 - a.Z := by omega
    obtain ⟨v, hv⟩ : ∃ v, v = freeAt L.rd a b (1000 - a.Z) := ⟨_, rfl⟩
    have HFv := HFree.out w6 (1000 - a.Z) HB6.out hz (by omega)
    rw [← hv] at HFv
    have HV := Lib.hid hv
    have HFv' := Lib.hid HFv
    clear HFv hv
    go_wp2_with fail
    refine HFv'.out.mono ?_
    rintro e w7 ⟨rfl, hb7⟩
    have HB7 := Lib.hid (over HB6.out hb7)
    have HW7 := Lib.hid (over hW HB7.out)
    clear hb7 HFv'
    cases v with
    | false =>
      have HN : Hid (riseOf L.rd a b = -1) := rise_never HB0.out (by omega) (by omega) HV.out.symm
      have HR5 : Hid (r = (0, 9)) := by have := HR4.out; rw [HN.out] at this; exact this
      go_wp2_with fail
      go_ret2
      obtain rfl := HR5.out
      exact ⟨rfl, HW7.out⟩
    | true =>
      go_wp2_with fail
      go_loopw [13, 14] (fun lo hi wr => ∃ l h : Int, lo = .int .i64 l ∧ hi = .int .i64 h ∧ 0 ≤ l ∧ l ≤ h ∧ a.Z + h ≤ 1000 ∧ Below w5.heap.size w5 wr ∧ freeAt L.rd a b h = true ∧ (l = 0 ∨ freeAt L.rd a b (l - 1) = false)) (fun lo hi _ => (intOf hi - intOf lo).toNat)
      case atStart => exact ⟨0, 1000 - a.Z, rfl, rfl, by omega, hz, by omega, HB7.out, HV.out.symm, .inl rfl⟩
      case round =>
        obtain ⟨l, h, rfl, rfl, q1, q2, q3, hb, hf, hno⟩ := hrel
        have HFh := Lib.hid hf
        have HNo := Lib.hid hno
        have HBr := Lib.hid hb
        clear hf hno hb
        by_cases hlt : l < h
        · obtain ⟨v, hv⟩ : ∃ v, v = freeAt L.rd a b ((l + h) / 2) := ⟨_, rfl⟩
          have HFv := HFree.out wr ((l + h) / 2) HBr.out (by omega) (by omega)
          rw [← hv] at HFv
          have HV2 := Lib.hid hv
          have HFv' := Lib.hid HFv
          clear HFv hv
          go_wp2_with fail
          refine HFv'.out.mono ?_
          rintro e w8 ⟨rfl, hb8⟩
          have HB8 := Lib.hid (over HBr.out hb8)
          clear hb8 HFv' HBr
          cases v with
          | true =>
            go_wp2_with fail
            go_roundw
            case rel => exact ⟨l, (l + h) / 2, rfl, rfl, q1, by omega, by omega, HB8.out, HV2.out.symm, HNo.out⟩
            case measure => simp [intOf]; omega
          | false =>
            go_wp2_with fail
            go_roundw
            case rel => exact ⟨(l + h) / 2 + 1, h, rfl, rfl, by omega, by omega, q3, HB8.out, HFh.out, .inr (by rw [show (l + h) / 2 + 1 - 1 = (l + h) / 2 by omega]; exact HV2.out.symm)⟩
            case measure => simp [intOf]; omega
        · obtain rfl : l = h := by omega
          have HN : Hid (riseOf L.rd a b = l) := rise_found HB0.out (by omega) (by omega) q1 q3 HFh.out HNo.out
          have HR5 : Hid (r = (l, 0)) := by
            have := HR4.out
            rw [HN.out, if_neg (by omega)] at this; exact this
          clear HFh HNo HN
          go_wp2_with fail
          refine named1 (p := fun W => Calls _ _ _ W _) ?_
          intro w9 hb9 BS
          refine (smallest_any l l w9 _ _ BS).mono ?_
          rintro e w10 ⟨rfl, hb10⟩
          have HF10 := Lib.hid (over (over (over hW HBr.out) hb9) hb10)
          clear hb9 hb10 BS HBr
          go_wp2_with fail
          go_ret2
          obtain rfl := HR5.out
          exact ⟨by first | rfl | (rw [Int.min_self]; rfl), HF10.out⟩
end Go.Proofs.Ytmfnkmmbihmjnaa
