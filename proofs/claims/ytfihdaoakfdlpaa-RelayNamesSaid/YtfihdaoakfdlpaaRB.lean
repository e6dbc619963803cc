import Derived.Test.YtfihdaoakfdlpaaR6
import Derived.WalkMore
import Derived.Deep.LoopGhost
section
/- Layer 3, the walks: the sure hour. -/
open Go.RowKit Go.Shelf
namespace Go.Proofs.Ytfihdaoakfdlpaa
open Go.Hill

theorem index_hours (h : Nat → Int) {x : Nat} (hx : x < 6) (w : World) : (Instr.index 87 (.agg (hrsc h)) (.int .i64 x)).run Try.prog w = .ok (.int .i64 (h x)) w := by
  have hu := Try.underlying87
  have h0 : (Try.prog.info? 3).map (·.size) = some 1 := by kernel_rfl
  have h1 : Try.prog.underlying 3 = some (.int .i64) := by kernel_rfl
  cases hi : Try.prog.info? 3 with
  | none => rw [hi] at h0; cases h0
  | some i =>
    have hs : i.size = 1 := by rw [hi] at h0; simpa using h0
    have hx2 : (x : Int) < 6 := by omega
    have h2 := hrs_at h hx
    unfold Instr.index
    simp [asIntOf, run_underlying hu, sizeOf, typeInfo, hi, hs, part, isAgg, run_underlying h1]
    rcases six_cases hx with rfl | rfl | rfl | rfl | rfl | rfl <;> rfl

set_option maxRecDepth 100000 in
set_option maxHeartbeats 4000000 in
theorem sure_any (r : RV) (q : LV) (L : Land) (f t s : Nat) (out : Int) (w : World) (hr : RelAt w r q L) (hc : L.chk = 0) (hf : f < L.st.length) (ht : t < L.st.length) (hs : s ≤ L.sn.length) (ho : -1 ≤ out ∧ out ≤ 1000) :
    Calls Try.prog 28 #[.pointer (some ⟨r.bw, 0, none⟩), .int .i64 f, .int .i64 t, .int .i64 s, .int .i64 out] w (RetR (.tuple #[.int .i64 (L.sur f t s out).1, .int .i64 (L.sur f t s out).2]) r q L w) := by
  have HR := Lib.hid hr
  have HC := Lib.hid hc
  obtain ⟨n6, n0, e12, e0, m4, m0⟩ := st_six hc
  have B1 := hr.box
  have c1 := B1.cell; have t1 := B1.lt
  clear hr hc
  go_enter Try.func28, Try.ntmps28
  go_wp2_with fail
  go_loopw [10, 11, 20] (fun hv kv i' wr => ∃ k : Nat, k ≤ L.cs.length ∧ i' = .int .i64 k ∧ hv = .int .i64 (surF (fun k => L.hat f s k out t) k).1 ∧ kv = .int .i64 (surF (fun k => L.hat f s k out t) k).2 ∧ Turn r.ex none w wr ∧ KnAt wr r L) (fun _ _ i' _ => L.cs.length - (intOf i').toNat)
  case atStart => exact ⟨0, Nat.zero_le _, rfl, rfl, rfl, Turn.refl _ _ _, HR.out.kn⟩
  case round =>
    obtain ⟨k, hk, rfl, rfl, rfl, hT, hK⟩ := hrel
    clear B1 c1 t1
    by_cases hlt : k < L.cs.length
    · obtain ⟨arr, harr⟩ : ∃ arr, arr = hrsc (L.tab f s k out) := ⟨_, rfl⟩
      have hix : ∀ w, (Instr.index 87 (.agg arr) (.int .i64 t)).run Try.prog w = .ok (.int .i64 (L.hat f s k out t)) w := fun w => by rw [harr, index_hours _ (show t < 6 by omega), Land.tab_at ht]
      have HE := Lib.hid (earliest_any r q L f s k out wr (HR.out.turn hT hK) HC.out hf hs hlt ho)
      rw [← harr] at HE
      have HS : Hid (surF (fun k => L.hat f s k out t) (k + 1) = if (surF (fun k => L.hat f s k out t) k).1 < L.hat f s k out t then (L.hat f s k out t, k) else surF (fun k => L.hat f s k out t) k) := rfl
      generalize surF (fun k => L.hat f s k out t) k = p at *
      obtain ⟨p1, p2⟩ := p
      generalize L.hat f s k out t = hv at *
      simp only at HS ⊢
      clear harr
      go_wp2_with fail
      refine HE.out.mono ?_
      rintro e w1 ⟨rfl, hT1, hR1⟩
      have HT := Lib.hid (hT.trans hT1)
      have HK := Lib.hid hR1.kn
      clear hT hK HE hT1 hR1
      have r1 : (0 : Int) ≤ (t : Int) := by omega
      have r2 : (t : Int) < 6 := by omega
      by_cases hlt2 : p1 < hv
      · go_wp2_with fail
        go_roundw
        case rel =>
          have h := HS.out
          rw [if_pos hlt2] at h
          exact ⟨k + 1, by omega, by go_num, by rw [h], by rw [h], HT.out, HK.out⟩
        case measure => simp [intOf]; omega
      · go_wp2_with fail
        go_roundw
        case rel =>
          have h := HS.out
          rw [if_neg (Int.not_lt.2 hlt2)] at h
          exact ⟨k + 1, by omega, by go_num, by rw [h], by rw [h], HT.out, HK.out⟩
        case measure => simp [intOf]; omega
    · obtain rfl : k = L.cs.length := by omega
      have hV : surF (fun k => L.hat f s k out t) L.cs.length = L.sur f t s out := rfl
      rw [hV]
      have HT := Lib.hid hT
      have HK := Lib.hid hK
      generalize L.sur f t s out = p at *
      obtain ⟨p1, p2⟩ := p
      clear hT hK hV
      go_wp2_with fail
      go_ret2
      exact ⟨rfl, HT.out, HR.out.turn HT.out HK.out⟩
end Go.Proofs.Ytfihdaoakfdlpaa
end

section
/- Layer 3, the walks: the exported functions Sure, Stuck. -/
open Go.RowKit Go.Shelf
namespace Go.Proofs.Ytfihdaoakfdlpaa
open Go.Hill

theorem ints_one_box {W : World} {b : Nat} {x : Int} (h : Box W b #[.int .i64 x] 3) : IntsAt W (some ⟨b, 0, none⟩) [x] := .inr ⟨b, 0, rfl, fun i y hi j v hv => by
  rcases i with _ | i
  · simp at hi; subst hi
    rcases j with _ | j
    · simp at hv; subst hv; exact h.cell 0
    · simp at hv
  · simp at hi⟩
theorem ints_two_box {W : World} {b : Nat} {x y : Int} (h : Box W b #[.int .i64 x, .int .i64 y] 3) : IntsAt W (some ⟨b, 0, none⟩) [x, y] := .inr ⟨b, 0, rfl, fun i z hi j v hv => by
  rcases i with _ | _ | i
  · simp at hi; subst hi
    rcases j with _ | j
    · simp at hv; subst hv; exact h.cell 0
    · simp at hv
  · simp at hi; subst hi
    rcases j with _ | j
    · simp at hv; subst hv; exact h.cell 1
    · simp at hv
  · simp at hi⟩
theorem askr_two {L : Land} (hc : L.chk = 0) (fr ta st k : Int) : L.askr fr ta st k = if okr L [fr, ta] [st] k then 0 else 2 := by
  unfold Land.askr okr
  rw [if_pos hc]
  simp only [List.all_cons, List.all_nil, Bool.and_true, Bool.and_assoc]
theorem askr_one {L : Land} (hc : L.chk = 0) (fr st k : Int) : L.askr fr fr st k = if okr L [fr] [st] k then 0 else 2 := by
  rw [askr_two hc]
  unfold okr
  simp
theorem askr_bad {L : Land} (hc : L.chk ≠ 0) (fr ta st k : Int) : L.askr fr ta st k = L.chk := if_neg hc
theorem okr_two {L : Land} {fr ta st k : Int} (h : okr L [fr, ta] [st] k = true) : ∃ f t s c : Nat, fr = f ∧ ta = t ∧ st = s ∧ k = c ∧ f < L.st.length ∧ t < L.st.length ∧ s ≤ L.sn.length ∧ c < L.cs.length := by
  unfold okr at h
  simp only [List.all_cons, List.all_nil, Bool.and_true, Bool.and_eq_true, inB_iff] at h
  exact ⟨fr.toNat, ta.toNat, st.toNat, k.toNat, by omega, by omega, by omega, by omega, by omega, by omega, by omega, by omega⟩
theorem okr_one {L : Land} {fr st k : Int} (h : okr L [fr] [st] k = true) : ∃ f s c : Nat, fr = f ∧ st = s ∧ k = c ∧ f < L.st.length ∧ s ≤ L.sn.length ∧ c < L.cs.length := by
  unfold okr at h
  simp only [List.all_cons, List.all_nil, Bool.and_true, Bool.and_eq_true, inB_iff] at h
  exact ⟨fr.toNat, st.toNat, k.toNat, by omega, by omega, by omega, by omega, by omega, by omega⟩
/-- What the exported functions return. -/
def Land.sureE (L : Land) (fr ta st : Int) : Int × Int × Int := if L.askr fr ta st 0 = 0 then (if (L.sn.length : Int) < (L.sur fr.toNat ta.toNat st.toNat (-1)).1 then (0, 0, 10) else ((L.sur fr.toNat ta.toNat st.toNat (-1)).1, (L.sur fr.toNat ta.toNat st.toNat (-1)).2, 0)) else (0, 0, L.askr fr ta st 0)
theorem over_turn {r : RV} {L : Land} {w W W' : World} (h : Below w.heap.size w W) (hT : Turn r.ex none W W') (hk : KnAt W' r L) (hn : w.heap.size ≤ r.n0) : Below w.heap.size w W' :=
  Turn.below h (Nat.le_refl _) hT (fun k hk' => Nat.le_trans hn (hk.low hk')) (fun _ e => by cases e)

set_option maxRecDepth 100000 in
set_option maxHeartbeats 4000000 in
theorem Sure_any (q : LV) (L : Land) (fr ta st : Int) (w : World) (hL : LandAt w q L) (hs : Small L) :
    Calls Try.prog 12 #[landV q L, .int .i64 fr, .int .i64 ta, .int .i64 st] w (Ret (.tuple #[.int .i64 (Land.sureE L fr ta st).1, .int .i64 (Land.sureE L fr ta st).2.1, .int .i64 (Land.sureE L fr ta st).2.2]) w) := by
  have HL := Lib.hid hL
  clear hL
  by_cases hc : L.chk = 0
  case neg =>
    have h1 : Land.sureE L fr ta st = (0, 0, L.chk) := by unfold Land.sureE; rw [askr_bad hc, if_neg hc]
    rw [h1]
    simp only
    clear h1
    go_enter Try.func12, Try.ntmps12
    go_wp2_with fail
    refine named3 (p := fun W => Calls _ _ _ W _) ?_
    intro W hW B4 B20 B22
    have HNo := Lib.hid (open_bad q L (.slice (some ⟨w.heap.size + 1, 0, none⟩) 2 2) (.slice (some ⟨w.heap.size + 1 + 1, 0, none⟩) 1 1) 0 W (HL.out.later hW) hs hc)
    have hcb : (L.chk != 0) = true := by simpa using hc
    generalize L.chk = c at *
    clear hc
    refine HNo.out.mono ?_
    rintro e w1 ⟨rfl, hb1⟩
    replace hW := over hW hb1
    clear hb1 HNo B4 B20 B22
    go_wp2_with fail
    go_ret3
    exact ⟨rfl, hW⟩
  have HC := Lib.hid hc
  obtain ⟨v, hv⟩ : ∃ v, v = Land.sureE L fr ta st := ⟨_, rfl⟩
  rw [← hv]
  rw [Land.sureE, askr_two hc] at hv
  have HV := Lib.hid hv
  clear hv hc
  go_enter Try.func12, Try.ntmps12
  go_wp2_with fail
  refine named3 (p := fun W => Calls _ _ _ W _) ?_
  intro W hW B4 B20 B22
  have hB20 : Box W (w.heap.size + 1) #[.int .i64 fr, .int .i64 ta] 3 := B20
  have hB22 : Box W (w.heap.size + 1 + 1) #[.int .i64 st] 3 := B22
  have hsz0 := hW.size
  refine (open_any q L [fr, ta] [st] _ _ 2 1 0 W (HL.out.later hW) HC.out (ints_two_box hB20) (ints_one_box hB22) (by simp) (by simp)).mono ?_
  rintro e w1 (⟨hno, rfl, hb1⟩ | ⟨hyes, r, rfl, hb1, hR1, hn0⟩)
  · have h1 := HV.out
    rw [hno] at h1
    simp only [Bool.false_eq_true, if_false] at h1
    rw [if_neg (by decide)] at h1
    have H1 := Lib.hid h1
    replace hW := over hW hb1
    clear hb1 B4 B20 B22 hB20 hB22 hno h1 HV
    go_wp2_with fail
    go_ret3
    rw [H1.out]
    exact ⟨rfl, hW⟩
  · obtain ⟨f, t, s, c0, rfl, rfl, rfl, hz, hf, ht, hs', hc0⟩ := okr_two hyes
    have h1 := HV.out
    rw [hyes] at h1
    simp only [if_true, Int.toNat_natCast] at h1
    have H1 := Lib.hid h1
    replace hW := over hW hb1
    have B4 := B4.later hb1
    have HR1 := Lib.hid hR1
    have HN0 : Hid (w.heap.size ≤ r.n0) := by show _ ≤ _; rw [hn0]; exact hsz0
    clear hb1 B20 B22 hB20 hB22 hyes h1 HV hR1 hn0 hz hc0 c0
    have HS := Lib.hid (sure_any r q L f t s (-1) w1 HR1.out HC.out hf ht hs' (by omega))
    generalize L.sur f t s (-1) = p at *
    obtain ⟨p1, p2⟩ := p
    go_wp2_with fail
    refine HS.out.mono ?_
    rintro e w2 ⟨rfl, hT2, hR2⟩
    have HW2 := Lib.hid (over_turn hW hT2 hR2.kn HN0.out)
    have hbx := hR2.box
    clear hW HR1 HS hT2 hR2 B4
    go_wp2_with fail
    refine (end_any w2 hbx).mono ?_
    rintro e w3 ⟨rfl, hb3⟩
    have HW3 := Lib.hid (over HW2.out hb3)
    clear HW2 hbx hb3
    by_cases hlt : (L.sn.length : Int) < p1
    · have h2 := H1.out
      rw [if_pos hlt] at h2
      have H2 := Lib.hid h2
      clear h2 H1
      go_wp2_with fail
      go_ret3
      rw [H2.out]
      exact ⟨rfl, HW3.out⟩
    · have h2 := H1.out
      rw [if_neg hlt] at h2
      have H2 := Lib.hid h2
      clear h2 H1
      go_wp2_with fail
      go_ret3
      rw [H2.out]
      exact ⟨rfl, HW3.out⟩
end Go.Proofs.Ytfihdaoakfdlpaa
end

section
/- Layer 3, the walks: the exported function Latest. -/
open Go.RowKit Go.Shelf
namespace Go.Proofs.Ytfihdaoakfdlpaa
open Go.Hill

def Land.latE (L : Land) (fr ta st : Int) : Int × Int := if L.askr fr ta st 0 = 0 then (if L.lat fr.toNat ta.toNat st.toNat = -1 then (0, 10) else (L.lat fr.toNat ta.toNat st.toNat, 0)) else (0, L.askr fr ta st 0)
theorem lastF_stop {p : Nat → Bool} {n i : Nat} (h : ∀ j, j < i → p (n - j) = false) (hi : i ≤ n + 1) : lastF p (n + 1) = lastF p (n + 1 - i) := by
  obtain ⟨d, hd⟩ : ∃ d, n + 1 = d + i := ⟨n + 1 - i, by omega⟩
  rw [hd, Nat.add_sub_cancel]
  exact lastF_more i fun k h1 h2 => by
    have := h (n - k) (by omega)
    rwa [show n - (n - k) = k by omega] at this
theorem lastF_hit {p : Nat → Bool} {n i : Nat} (h : ∀ j, j < i → p (n - j) = false) (hi : i ≤ n) (hp : p (n - i) = true) : lastF p (n + 1) = ((n - i : Nat) : Int) := by
  rw [lastF_stop h (by omega), show n + 1 - i = (n - i) + 1 by omega]
  unfold lastF
  rw [if_pos hp]
theorem lastF_miss {p : Nat → Bool} {n : Nat} (h : ∀ j, j < n + 1 → p (n - j) = false) : lastF p (n + 1) = -1 := by
  rw [lastF_stop h (Nat.le_refl _), Nat.sub_self]; rfl

set_option maxRecDepth 100000 in
set_option maxHeartbeats 4000000 in
theorem Latest_any (q : LV) (L : Land) (fr ta st : Int) (w : World) (hL : LandAt w q L) (hs : Small L) :
    Calls Try.prog 10 #[landV q L, .int .i64 fr, .int .i64 ta, .int .i64 st] w (Ret (.tuple #[.int .i64 (Land.latE L fr ta st).1, .int .i64 (Land.latE L fr ta st).2]) w) := by
  have HL := Lib.hid hL
  clear hL
  by_cases hc : L.chk = 0
  case neg =>
    have h1 : Land.latE L fr ta st = (0, L.chk) := by unfold Land.latE; rw [askr_bad hc, if_neg hc]
    rw [h1]
    simp only
    clear h1
    go_enter Try.func10, Try.ntmps10
    go_wp2_with fail
    go_step3
    go_wp2_with fail
    refine named3 (p := fun W => Calls _ _ _ W _) ?_
    intro W hW B4 B20 B22
    have HNo := Lib.hid (open_bad q L (.slice (some ⟨w.heap.size + 1, 0, none⟩) 2 2) (.slice (some ⟨w.heap.size + 1 + 1, 0, none⟩) 1 1) 0 W (HL.out.later hW) hs hc)
    have hcb : (L.chk != 0) = true := by simpa using hc
    generalize L.chk = c at *
    clear hc
    refine HNo.out.mono ?_
    rintro e w1 ⟨rfl, hb1⟩
    replace hW := over hW hb1
    clear hb1 HNo B4 B20 B22
    go_wp2_with fail
    try rw [Exit.noGoto_ret]
    go_ret2
    exact ⟨rfl, hW⟩
  have HC := Lib.hid hc
  obtain ⟨v, hv⟩ : ∃ v, v = Land.latE L fr ta st := ⟨_, rfl⟩
  rw [← hv]
  rw [Land.latE, askr_two hc] at hv
  have HV := Lib.hid hv
  have h12 := st_six hc
  clear hv hc
  go_enter Try.func10, Try.ntmps10
  go_wp2_with fail
  go_step3
  go_wp2_with fail
  refine named3 (p := fun W => Calls _ _ _ W _) ?_
  intro W hW B4 B20 B22
  have hB20 : Box W (w.heap.size + 1) #[.int .i64 fr, .int .i64 ta] 3 := B20
  have hB22 : Box W (w.heap.size + 1 + 1) #[.int .i64 st] 3 := B22
  have hsz0 := hW.size
  refine (open_any q L [fr, ta] [st] _ _ 2 1 0 W (HL.out.later hW) HC.out (ints_two_box hB20) (ints_one_box hB22) (by simp) (by simp)).mono ?_
  rintro e w1 (⟨hno, rfl, hb1⟩ | ⟨hyes, r, rfl, hb1, hR1, hn0⟩)
  · have h1 := HV.out
    rw [hno] at h1
    simp only [Bool.false_eq_true, if_false] at h1
    rw [if_neg (by decide)] at h1
    have H1 := Lib.hid h1
    replace hW := over hW hb1
    clear hb1 B4 B20 B22 hB20 hB22 hno h1 HV
    go_wp2_with fail
    try rw [Exit.noGoto_ret]
    go_ret2
    rw [H1.out]
    exact ⟨rfl, hW⟩
  · obtain ⟨f, t, s, c0, rfl, rfl, rfl, hz, hf, ht, hs', hc0⟩ := okr_two hyes
    have h1 := HV.out
    rw [hyes] at h1
    simp only [if_true, Int.toNat_natCast] at h1
    have H1 := Lib.hid h1
    replace hW := over hW hb1
    have B4 := B4.later hb1
    have HR1 := Lib.hid hR1
    have HN0 : Hid (w.heap.size ≤ r.n0) := by show _ ≤ _; rw [hn0]; exact hsz0
    clear hb1 B20 B22 hB20 hB22 hyes h1 HV hR1 hn0 hz hc0 c0
    clear B4
    have HW := Lib.hid hW
    clear hW
    have hpv : ∃ p : Nat → Bool, p = fun x => decide ((L.sur f t x (-1)).1 ≤ s) := ⟨_, rfl⟩
    obtain ⟨p, hp⟩ := hpv
    have HP := Lib.hid hp
    have HLat : Hid (L.lat f t s = lastF p (s + 1)) := by rw [hp]; rfl
    clear hp
    go_wp2_with fail
    go_step3
    go_wp2_with fail
    go_loopw [12, 31] (fun bv i' wr => ∃ i : Nat, i ≤ s + 1 ∧ i' = .int .i64 i ∧ bv = .int .i64 (-1) ∧ Turn r.ex none w1 wr ∧ KnAt wr r L ∧ ∀ j, j < i → p (s - j) = false) (fun _ i' _ => s + 1 - (intOf i').toNat)
    case atStart => exact ⟨0, Nat.zero_le _, rfl, rfl, Turn.refl _ _ _, HR1.out.kn, fun j hj => by omega⟩
    case round =>
      obtain ⟨i, hi, rfl, rfl, hT, hK, hno⟩ := hrel
      have HNo := Lib.hid hno
      clear hno
      by_cases hlt : i < s + 1
      · have HS := Lib.hid (sure_any r q L f t (s - i) (-1) wr (HR1.out.turn hT hK) HC.out hf ht (by omega) (by omega))
        rw [show (((s - i : Nat)) : Int) = (s : Int) - i by omega] at HS
        have HPi : Hid (p (s - i) = decide ((L.sur f t (s - i) (-1)).1 ≤ s)) := by show _ = _; rw [HP.out]
        generalize L.sur f t (s - i) (-1) = g at *
        obtain ⟨g1, g2⟩ := g
        have r1 : (i : Int) < (s : Int) + 1 := by omega
        go_wp2_with fail
        refine HS.out.mono ?_
        rintro e w2 ⟨rfl, hT2, hR2⟩
        have HT2 := Lib.hid (hT.trans hT2)
        have HK2 := Lib.hid hR2.kn
        clear hT hK hT2 hR2 HS
        by_cases hgt : (s : Int) < g1
        · have HNo2 : Hid (∀ j, j < i + 1 → p (s - j) = false) := fun j hj => by
            rcases Nat.lt_succ_iff_lt_or_eq.1 hj with h | rfl
            · exact HNo.out j h
            · rw [HPi.out]; simp only [decide_eq_false_iff_not]; omega
          clear HNo HPi
          go_wp2_with fail
          go_roundw
          case rel => exact ⟨i + 1, by omega, by go_num, rfl, HT2.out, HK2.out, HNo2.out⟩
          case measure => simp [intOf]; omega
        · have hpt : p (s - i) = true := by rw [HPi.out]; simp only [decide_eq_true_eq]; omega
          have h3 : L.lat f t s = ((s - i : Nat) : Int) := by rw [HLat.out]; exact lastF_hit HNo.out (by omega) hpt
          have h4 := H1.out
          rw [h3, if_neg (by omega), show (((s - i : Nat)) : Int) = (s : Int) - i by omega] at h4
          have H4 := Lib.hid h4
          have r2 : ((s : Int) - i == -1) = false := by simp; omega
          clear HNo HPi hpt h3 h4 H1
          go_wp2_with fail
          try rw [Exit.noGoto_ret]
          go_ret2
          rw [H4.out]
          exact ⟨rfl, over_turn HW.out HT2.out HK2.out HN0.out⟩
      · obtain rfl : i = s + 1 := by omega
        have h3 : L.lat f t s = -1 := by rw [HLat.out]; exact lastF_miss HNo.out
        have h4 := H1.out
        rw [h3, if_pos rfl] at h4
        have H4 := Lib.hid h4
        have HW2 := Lib.hid (over_turn HW.out hT hK HN0.out)
        have r1 : ((((s + 1 : Nat)) : Int) < (s : Int) + 1) = False := by simp
        clear HNo h3 h4 H1 hT hK
        go_wp2_with fail
        try rw [Exit.noGoto_ret]
        go_ret2
        rw [H4.out]
        exact ⟨rfl, HW2.out⟩
end Go.Proofs.Ytfihdaoakfdlpaa
end

section
/- Layer 3, the walks: the exported function Stuck. -/
open Go.RowKit Go.Shelf
namespace Go.Proofs.Ytfihdaoakfdlpaa
open Go.Hill

section
variable {W W' : World} {r : RV} {L : Land} {base size : Nat} {E : TypeId} {v : Value} {xs : List (List Value)} {ex : Nat → Prop}
theorem KnAt.own (h : KnAt W r L) (ho : Own W base E size v xs) (hg : W.grownBy W' v.ownBlock) : KnAt W' r L := h.same fun _ _ _ _ hm => MapIs.own hm ho hg
theorem Turn.ownr {A : World} (h : Turn ex none A W) (ho : Own W A.heap.size E size v xs) (hg : W.grownBy W' v.ownBlock) : Turn ex none A W' := h.grown hg fun r e => (ho.1.lt r e).1
theorem Own.turned (h : Own W base E size v xs) (ht : Turn ex none W W') : Own W' base E size v xs := h.turn fun k hk => by
  obtain ⟨c, hc⟩ := own_cells2 h hk
  exact (ht.obj hc (fun _ _ e => by cases e) (by simp)).trans hc.symm
end
def Land.stkE (L : Land) (fr ta st : Int) : List Int × Int := if L.askr fr ta st 0 = 0 then (L.stk fr.toNat ta.toNat st.toNat (-1), 0) else ([], L.askr fr ta st 0)

set_option maxRecDepth 100000 in
set_option maxHeartbeats 4000000 in
theorem Stuck_any (q : LV) (L : Land) (fr ta st : Int) (w : World) (hL : LandAt w q L) (hs : Small L) :
    Calls Try.prog 20 #[landV q L, .int .i64 fr, .int .i64 ta, .int .i64 st] w (RetL (Land.stkE L fr ta st) w) := by
  have HL := Lib.hid hL
  clear hL
  by_cases hc : L.chk = 0
  case neg =>
    have h1 : Land.stkE L fr ta st = ([], L.chk) := by unfold Land.stkE; rw [askr_bad hc, if_neg hc]
    rw [h1]
    clear h1
    go_enter Try.func20, Try.ntmps20
    go_wp2_with fail
    refine named3 (p := fun W => Calls _ _ _ W _) ?_
    intro W hW B4 B20 B22
    have HNo := Lib.hid (open_bad q L (.slice (some ⟨w.heap.size + 1, 0, none⟩) 2 2) (.slice (some ⟨w.heap.size + 1 + 1, 0, none⟩) 1 1) 0 W (HL.out.later hW) hs hc)
    have hcb : (L.chk != 0) = true := by simpa using hc
    generalize L.chk = c at *
    clear hc
    refine HNo.out.mono ?_
    rintro e w1 ⟨rfl, hb1⟩
    replace hW := over hW hb1
    clear hb1 HNo B4 B20 B22
    go_wp2_with fail
    go_ret2
    exact ⟨none, 0, rfl, hW, .inl rfl⟩
  have HC := Lib.hid hc
  obtain ⟨v, hv⟩ : ∃ v, v = Land.stkE L fr ta st := ⟨_, rfl⟩
  rw [← hv]
  rw [Land.stkE, askr_two hc] at hv
  have HV := Lib.hid hv
  have h12 := st_six hc
  clear hv hc
  go_enter Try.func20, Try.ntmps20
  go_wp2_with fail
  refine named3 (p := fun W => Calls _ _ _ W _) ?_
  intro W hW B4 B20 B22
  have hB20 : Box W (w.heap.size + 1) #[.int .i64 fr, .int .i64 ta] 3 := B20
  have hB22 : Box W (w.heap.size + 1 + 1) #[.int .i64 st] 3 := B22
  have hsz0 := hW.size
  refine (open_any q L [fr, ta] [st] _ _ 2 1 0 W (HL.out.later hW) HC.out (ints_two_box hB20) (ints_one_box hB22) (by simp) (by simp)).mono ?_
  rintro e w1 (⟨hno, rfl, hb1⟩ | ⟨hyes, r, rfl, hb1, hR1, hn0⟩)
  · have h1 := HV.out
    rw [hno] at h1
    simp only [Bool.false_eq_true, if_false] at h1
    rw [if_neg (by decide)] at h1
    have H1 := Lib.hid h1
    replace hW := over hW hb1
    clear hb1 B4 B20 B22 hB20 hB22 hno h1 HV
    go_wp2_with fail
    go_ret2
    rw [H1.out]
    exact ⟨none, 0, rfl, hW, .inl rfl⟩
  · obtain ⟨f, t, s, c0, rfl, rfl, rfl, hz, hf, ht, hs', hc0⟩ := okr_two hyes
    have h1 := HV.out
    rw [hyes] at h1
    simp only [if_true, Int.toNat_natCast] at h1
    have H1 := Lib.hid h1
    replace hW := over hW hb1
    have B4 := B4.later hb1
    have HR1 := Lib.hid hR1
    have HN0 : Hid (w.heap.size ≤ r.n0) := by show _ ≤ _; rw [hn0]; exact hsz0
    clear hb1 B20 B22 hB20 hB22 hyes h1 HV hR1 hn0 hz hc0 c0
    have HW := Lib.hid hW
    clear hW
    obtain ⟨p, hp⟩ : ∃ p : Nat → Bool, p = fun k => decide ((L.sn.length : Int) < L.hat f s k (-1) t) := ⟨_, rfl⟩
    have HStk : Hid (L.stk f t s (-1) = sel p L.cs.length) := by rw [hp]; rfl
    have HP : Hid (∀ k, p k = decide ((L.sn.length : Int) < L.hat f s k (-1) t)) := fun k => by rw [hp]
    clear hp
    have c4 := B4.cell; have t4 := B4.lt
    go_wp2_with fail
    clear c4 t4 B4
    go_loopw [12, 30] (fun v i' wr => ∃ k : Nat, k ≤ L.cs.length ∧ i' = .int .i64 k ∧ Turn r.ex none w1 wr ∧ KnAt wr r L ∧ Own wr w1.heap.size 3 1 v (ivs (sel p k))) (fun _ i' _ => L.cs.length - (intOf i').toNat)
    case atStart => exact ⟨0, Nat.zero_le _, rfl, Turn.refl _ _ _, HR1.out.kn, Own.nil _ _ _ _⟩
    case round =>
      obtain ⟨k, hk, rfl, hT, hK, hO⟩ := hrel
      have HO := Lib.hid hO
      clear hO
      by_cases hlt : k < L.cs.length
      · obtain ⟨arr, harr⟩ : ∃ arr, arr = hrsc (L.tab f s k (-1)) := ⟨_, rfl⟩
        have hix : ∀ w, (Instr.index 87 (.agg arr) (.int .i64 t)).run Try.prog w = .ok (.int .i64 (L.hat f s k (-1) t)) w := fun w => by rw [harr, index_hours _ (show t < 6 by omega), Land.tab_at ht]
        have HE : Hid (∀ W, Below wr.heap.size wr W → Calls Try.prog 32 #[.pointer (some ⟨r.bw, 0, none⟩), .int .i64 f, .int .i64 s, .int .i64 k, .int .i64 (-1)] W (RetR (.agg arr) r q L W)) := fun W hb => by
          rw [harr]; exact earliest_any r q L f s k (-1) W ((HR1.out.turn hT hK).later hb) HC.out hf hs' hlt (by omega)
        have HPk := Lib.hid (HP.out k)
        generalize L.hat f s k (-1) t = hv at *
        have r1 : (k : Int) < (L.cs.length : Int) := by omega
        have r2 : (0 : Int) ≤ (t : Int) := by omega
        have r3 : (t : Int) < 6 := by omega
        clear harr
        go_upto_region 8 with fail
        refine wp_region_noPanic ?_
        refine wp_region_held_drew (S := (fun _ => True)) (by kernel_rfl) (by (try dsimp only); skip) (fun hHeld => ?_)
        refine wpAnyH_take (i := 0) (oi := _) (v := ?_) rfl (by kernel_rfl) (by kernel_rfl) (by kernel_rfl) (fun _ _ _ h => h) (Or.inl ⟨by rfl, ?_⟩) (by assumption) ?_
        rotate_left
        · (intro w hSw; (try dsimp only at hSw); go_simp; try with_reducible rfl)
        (try dsimp only); (try simp only [Act.put]); (try simp only [List.setIfInBounds_toArray]); (try simp only [List.set_cons_succ]); (try simp only [List.set_cons_zero])
        refine wpAnyH_take (i := 1) (oi := _) (v := ?_) rfl (by kernel_rfl) (by kernel_rfl) (by kernel_rfl) (fun _ _ _ h => h) (Or.inl ⟨by rfl, ?_⟩) (by assumption) ?_
        rotate_left
        · (intro w hSw; (try dsimp only at hSw); go_simp; try with_reducible rfl)
        (try dsimp only); (try simp only [Act.put]); (try simp only [List.setIfInBounds_toArray]); (try simp only [List.set_cons_succ]); (try simp only [List.set_cons_zero])
        refine wpAnyH_take (i := 2) (oi := _) (v := ?_) rfl (by kernel_rfl) (by kernel_rfl) (by kernel_rfl) (fun _ _ _ h => h) (Or.inl ⟨by rfl, ?_⟩) (by assumption) ?_
        rotate_left
        · (intro w hSw; (try dsimp only at hSw); go_simp; try with_reducible rfl)
        (try dsimp only); (try simp only [Act.put]); (try simp only [List.setIfInBounds_toArray]); (try simp only [List.set_cons_succ]); (try simp only [List.set_cons_zero])
        refine wpAnyH_take (i := 3) (oi := _) (v := ?_) rfl (by kernel_rfl) (by kernel_rfl) (by kernel_rfl) (fun _ _ _ h => h) (Or.inl ⟨by rfl, ?_⟩) (by assumption) ?_
        rotate_left
        · (intro w hSw; (try dsimp only at hSw); go_simp; try with_reducible rfl)
        (try dsimp only); (try simp only [Act.put]); (try simp only [List.setIfInBounds_toArray]); (try simp only [List.set_cons_succ]); (try simp only [List.set_cons_zero])
        refine wpAnyH_take (i := 5) (oi := _) (v := ?_) rfl (by kernel_rfl) (by kernel_rfl) (by kernel_rfl) (fun _ _ _ h => h) (Or.inl ⟨by rfl, ?_⟩) (by assumption) ?_
        rotate_left
        · (intro w hSw; (try dsimp only at hSw); go_simp; try with_reducible rfl)
        (try dsimp only); (try simp only [Act.put]); (try simp only [List.setIfInBounds_toArray]); (try simp only [List.set_cons_succ]); (try simp only [List.set_cons_zero])
        refine wpAnyH_take (i := 7) (oi := _) (v := ?_) rfl (by kernel_rfl) (by kernel_rfl) (by kernel_rfl) (fun _ _ _ h => h) (Or.inl ⟨by rfl, ?_⟩) (by assumption) ?_
        rotate_left
        · (intro w hSw; (try dsimp only at hSw); go_simp; try with_reducible rfl)
        (try dsimp only); (try simp only [Act.put]); (try simp only [List.setIfInBounds_toArray]); (try simp only [List.set_cons_succ]); (try simp only [List.set_cons_zero])
        refine wpAnyH_ready (rs := [4]) (by kernel_rfl) (by simp) ?_
        refine AllReadyH.cons (o := _) rfl (fun K hK => ?_) AllReadyH.nil
        go_simp
        refine (HE.out _ (by repeat (first | exact Below.refl _ _ | refine al ?_ _ | refine Below.drew ?_ | refine sc ?_ (by simp) _))).mono ?_
        rintro e w2 ⟨rfl, hT2, hR2⟩
        refine hK.out _ _ (by (try dsimp only); skip) (fun hHeld => ?_)
        clear hK K
        (try dsimp only); (try simp only [Act.put]); (try simp only [List.setIfInBounds_toArray]); (try simp only [List.set_cons_succ]); (try simp only [List.set_cons_zero])
        refine wpAnyH_take (i := 6) (oi := _) (v := ?_) rfl (by kernel_rfl) (by kernel_rfl) (by kernel_rfl) (fun _ _ _ h => h) (Or.inl ⟨by rfl, ?_⟩) (by assumption) ?_
        rotate_left
        · (intro w hSw; (try dsimp only at hSw); go_simp; try with_reducible rfl)
        (try dsimp only); (try simp only [Act.put]); (try simp only [List.setIfInBounds_toArray]); (try simp only [List.set_cons_succ]); (try simp only [List.set_cons_zero])
        refine wpAnyH_ready (rs := [8]) (by kernel_rfl) (by simp) ?_
        refine AllReadyH.cons (o := _) rfl (fun K hK => ?_) AllReadyH.nil
        go_simp
        refine (end_any w2 hR2.box).mono ?_
        rintro e w3 ⟨rfl, hb3⟩
        refine hK.out _ _ (by (try dsimp only); skip) (fun hHeld => ?_)
        clear hK K
        (try dsimp only); (try simp only [Act.put]); (try simp only [List.setIfInBounds_toArray]); (try simp only [List.set_cons_succ]); (try simp only [List.set_cons_zero])
        refine wpAnyH_take (i := 9) (oi := _) (v := ?_) rfl (by kernel_rfl) (by kernel_rfl) (by kernel_rfl) (fun _ _ _ h => h) (Or.inl ⟨by rfl, ?_⟩) (by assumption) ?_
        rotate_left
        · (intro w hSw; (try dsimp only at hSw); go_simp; try with_reducible rfl)
        (try dsimp only); (try simp only [Act.put]); (try simp only [List.setIfInBounds_toArray]); (try simp only [List.set_cons_succ]); (try simp only [List.set_cons_zero])
        refine wpAnyH_done (by kernel_rfl) ?_ _
        refine NoPanic.normal ?_
        have hT3 : Turn r.ex none wr w3 := ((Below.turn (show Below wr.heap.size wr wr.drew from (by repeat (first | exact Below.refl _ _ | refine al ?_ _ | refine Below.drew ?_ | refine sc ?_ (by simp) _)))).trans hT2).next hb3
        have HT := Lib.hid (hT.trans hT3)
        have HK := Lib.hid (hR2.kn.later hb3)
        replace HO := Lib.hid (HO.out.turned hT3)
        repeat (clear hHeld)
        clear hT hK hT2 hR2 hb3 hT3 HE hix
        by_cases hgt : (L.sn.length : Int) < hv
        · have hpt : p k = true := by rw [HPk.out]; simpa using hgt
          have hn := sel_len p k
          have HPt := Lib.hid hpt
          have hsz := HT.out.size
          clear hpt HPk
          go_wp2_with (at_builtin; refine named1 (p := wpList _ _ _ _ _) ?_; intro w6 hb6 B53; have hO := HO.out.later hb6; refine wpList_grow rfl (.tmp 43) (.tmp 45) 46 rfl elem_int rfl hO rfl B53 rfl (by omega) rfl (n := (sel p k).length) (by simp) (by omega) (by omega) (Nat.le_trans hsz hb6.size) ?_; intro a' c' W' hO' hb' hg'; have HT6 := Lib.hid ((HT.out.next hb6).ownr hO hg'); have HK6 := Lib.hid ((HK.out.later hb6).own hO hg'); clear hg' hO B53 hb' hb6)
          have HN : Hid (Own W' w1.heap.size 3 1 (.slice a' ((sel p k).length + 1) c') (ivs (sel p (k + 1)))) := by
            rw [Hid, sel_yes HPt.out, ivs, List.map_append]; exact hO'
          clear hO'
          go_roundw
          case rel => exact ⟨k + 1, by omega, by go_num, HT6.out, HK6.out, HN.out⟩
          case measure => simp [intOf]; omega
        · have hpf : p k = false := by rw [HPk.out]; simpa using hgt
          have HPf := Lib.hid hpf
          clear hpf HPk
          go_wp2_with fail
          go_roundw
          case rel => exact ⟨k + 1, by omega, by go_num, HT.out, HK.out, by rw [sel_no HPf.out]; exact HO.out⟩
          case measure => simp [intOf]; omega
      · obtain rfl : k = L.cs.length := by omega
        obtain ⟨ra, rc, rfl, _, hr⟩ := HO.out.row
        rw [List.length_map]
        have HRw := Lib.hid hr
        have HW2 := Lib.hid (over_turn HW.out hT hK HN0.out)
        clear hr HO hT hK
        go_wp2_with fail
        go_ret2
        rw [H1.out, HStk.out]
        exact ⟨ra, rc, rfl, HW2.out, HRw.out⟩
end Go.Proofs.Ytfihdaoakfdlpaa
end

section
/- Layer 3, the walks: the exported function Vital. -/
open Go.RowKit Go.Shelf
namespace Go.Proofs.Ytfihdaoakfdlpaa
open Go.Hill

def Land.vitE (L : Land) (fr ta st : Int) : List Int × Int := if L.askr fr ta st 0 = 0 then (if (L.sn.length : Int) < (L.sur fr.toNat ta.toNat st.toNat (-1)).1 then ([], 10) else (L.vit fr.toNat ta.toNat st.toNat, 0)) else ([], L.askr fr ta st 0)

set_option maxRecDepth 100000 in
set_option maxHeartbeats 4000000 in
theorem Vital_any (q : LV) (L : Land) (fr ta st : Int) (w : World) (hL : LandAt w q L) (hs : Small L) :
    Calls Try.prog 14 #[landV q L, .int .i64 fr, .int .i64 ta, .int .i64 st] w (RetL (Land.vitE L fr ta st) w) := by
  have HL := Lib.hid hL
  clear hL
  by_cases hc : L.chk = 0
  case neg =>
    have h1 : Land.vitE L fr ta st = ([], L.chk) := by unfold Land.vitE; rw [askr_bad hc, if_neg hc]
    rw [h1]
    clear h1
    go_enter Try.func14, Try.ntmps14
    go_wp2_with fail
    refine named3 (p := fun W => Calls _ _ _ W _) ?_
    intro W hW B4 B20 B22
    have HNo := Lib.hid (open_bad q L (.slice (some ⟨w.heap.size + 1, 0, none⟩) 2 2) (.slice (some ⟨w.heap.size + 1 + 1, 0, none⟩) 1 1) 0 W (HL.out.later hW) hs hc)
    have hcb : (L.chk != 0) = true := by simpa using hc
    generalize L.chk = c at *
    clear hc
    refine HNo.out.mono ?_
    rintro e w1 ⟨rfl, hb1⟩
    replace hW := over hW hb1
    clear hb1 HNo B4 B20 B22
    go_wp2_with fail
    go_ret2
    exact ⟨none, 0, rfl, hW, .inl rfl⟩
  have HC := Lib.hid hc
  obtain ⟨v, hv⟩ : ∃ v, v = Land.vitE L fr ta st := ⟨_, rfl⟩
  rw [← hv]
  rw [Land.vitE, askr_two hc] at hv
  have HV := Lib.hid hv
  have h12 := st_six hc
  clear hv hc
  go_enter Try.func14, Try.ntmps14
  go_wp2_with fail
  refine named3 (p := fun W => Calls _ _ _ W _) ?_
  intro W hW B4 B20 B22
  have hB20 : Box W (w.heap.size + 1) #[.int .i64 fr, .int .i64 ta] 3 := B20
  have hB22 : Box W (w.heap.size + 1 + 1) #[.int .i64 st] 3 := B22
  have hsz0 := hW.size
  refine (open_any q L [fr, ta] [st] _ _ 2 1 0 W (HL.out.later hW) HC.out (ints_two_box hB20) (ints_one_box hB22) (by simp) (by simp)).mono ?_
  rintro e w1 (⟨hno, rfl, hb1⟩ | ⟨hyes, r, rfl, hb1, hR1, hn0⟩)
  · have h1 := HV.out
    rw [hno] at h1
    simp only [Bool.false_eq_true, if_false] at h1
    rw [if_neg (by decide)] at h1
    have H1 := Lib.hid h1
    replace hW := over hW hb1
    clear hb1 B4 B20 B22 hB20 hB22 hno h1 HV
    go_wp2_with fail
    go_ret2
    rw [H1.out]
    exact ⟨none, 0, rfl, hW, .inl rfl⟩
  · obtain ⟨f, t, s, c0, rfl, rfl, rfl, hz, hf, ht, hs', hc0⟩ := okr_two hyes
    have h1 := HV.out
    rw [hyes] at h1
    simp only [if_true, Int.toNat_natCast] at h1
    have H1 := Lib.hid h1
    replace hW := over hW hb1
    have B4 := B4.later hb1
    have HR1 := Lib.hid hR1
    have HN0 : Hid (w.heap.size ≤ r.n0) := by show _ ≤ _; rw [hn0]; exact hsz0
    clear hb1 B20 B22 hB20 hB22 hyes h1 HV hR1 hn0 hz hc0 c0
    have HW := Lib.hid hW
    clear hW
    have HS := Lib.hid (sure_any r q L f t s (-1) w1 HR1.out HC.out hf ht hs' (by omega))
    generalize L.sur f t s (-1) = g at *
    obtain ⟨g1, g2⟩ := g
    go_wp2_with fail
    refine HS.out.mono ?_
    rintro e w2 ⟨rfl, hT2, hR2⟩
    have HT2 := Lib.hid hT2
    have HR2 := Lib.hid hR2
    have hbx := hR2.box
    have B4' := hT2.box0 B4
    clear HS hT2 hR2 B4
    go_wp2_with fail
    refine (end_any w2 hbx).mono ?_
    rintro e w3 ⟨rfl, hb3⟩
    have HT3 := Lib.hid (HT2.out.next hb3)
    have HR3 := Lib.hid (HR2.out.later hb3)
    have B4 := B4'.later hb3
    clear HT2 HR2 hbx hb3 B4'
    by_cases hgt : (L.sn.length : Int) < g1
    · have h2 := H1.out
      rw [if_pos hgt] at h2
      have H2 := Lib.hid h2
      clear h2 H1 B4
      go_wp2_with fail
      go_ret2
      rw [H2.out]
      exact ⟨none, 0, rfl, over_turn HW.out HT3.out HR3.out.kn HN0.out, .inl rfl⟩
    · have h2 := H1.out
      rw [if_neg hgt] at h2
      have H2 := Lib.hid h2
      obtain ⟨p, hp⟩ : ∃ p : Nat → Bool, p = fun i => i != f && (i != t && decide ((L.sn.length : Int) < (L.sur f t s i).1)) := ⟨_, rfl⟩
      have HVit : Hid (L.vit f t s = sel p L.st.length) := by rw [hp]; rfl
      have HP : Hid (∀ i, p i = (i != f && (i != t && decide ((L.sn.length : Int) < (L.sur f t s i).1)))) := fun i => by rw [hp]
      clear hp h2 H1
      have c4 := B4.cell; have t4 := B4.lt
      go_wp2_with fail
      clear c4 t4 B4
      go_loopw [14, 46] (fun v i' wr => ∃ i : Nat, i ≤ L.st.length ∧ i' = .int .i64 i ∧ Turn r.ex none w1 wr ∧ KnAt wr r L ∧ Own wr w1.heap.size 3 1 v (ivs (sel p i))) (fun _ i' _ => L.st.length - (intOf i').toNat)
      case atStart => exact ⟨0, Nat.zero_le _, rfl, HT3.out, HR3.out.kn, Own.nil _ _ _ _⟩
      case round =>
        obtain ⟨i, hi, rfl, hT, hK, hO⟩ := hrel
        have HO := Lib.hid hO
        clear hO
        by_cases hlt : i < L.st.length
        · have HT := Lib.hid hT
          have HK := Lib.hid hK
          have r1 : (i : Int) < (L.st.length : Int) := by omega
          clear hT hK
          have HPi := Lib.hid (HP.out i)
          by_cases hif : i = f
          · have hpf : p i = false := by rw [HPi.out, hif]; simp
            have HPf := Lib.hid hpf
            have hb : ((i : Int) == (f : Int)) = true := by simp [hif]
            clear hpf HPi
            go_wp2_with fail
            go_roundw
            case rel => exact ⟨i + 1, by omega, by go_num, HT.out, HK.out, by rw [sel_no HPf.out]; exact HO.out⟩
            case measure => simp [intOf]; omega
          · have hb : ((i : Int) == (f : Int)) = false := by simp; omega
            by_cases hit : i = t
            · have hpf : p i = false := by rw [HPi.out, hit]; simp
              have HPf := Lib.hid hpf
              have hb2 : ((i : Int) == (t : Int)) = true := by simp [hit]
              clear hpf HPi
              go_wp2_with fail
              go_roundw
              case rel => exact ⟨i + 1, by omega, by go_num, HT.out, HK.out, by rw [sel_no HPf.out]; exact HO.out⟩
              case measure => simp [intOf]; omega
            · have hb2 : ((i : Int) == (t : Int)) = false := by simp; omega
              have HS := Lib.hid (sure_any r q L f t s i wr (HR1.out.turn HT.out HK.out) HC.out hf ht hs' (by omega))
              have HPi2 : Hid (p i = decide ((L.sn.length : Int) < (L.sur f t s i).1)) := by
                show _ = _
                have h1 : (i != f) = true := by simp [hif]
                have h2 : (i != t) = true := by simp [hit]
                rw [HPi.out, h1, h2, Bool.true_and, Bool.true_and]
              clear HPi
              generalize L.sur f t s i = gi at *
              obtain ⟨j1, j2⟩ := gi
              go_wp2_with fail
              refine HS.out.mono ?_
              rintro e w4 ⟨rfl, hT4, hR4⟩
              have hbx := hR4.box
              replace HO := Lib.hid (HO.out.turned hT4)
              replace HT := Lib.hid (HT.out.trans hT4)
              replace HK := Lib.hid hR4.kn
              clear hT4 hR4 HS
              go_wp2_with fail
              refine (end_any w4 hbx).mono ?_
              rintro e w5 ⟨rfl, hb5⟩
              replace HO := Lib.hid (HO.out.later hb5)
              replace HT := Lib.hid (HT.out.next hb5)
              replace HK := Lib.hid (HK.out.later hb5)
              clear hbx hb5
              by_cases hgj : (L.sn.length : Int) < j1
              · have hpt : p i = true := by rw [HPi2.out]; simpa using hgj
                have hn := sel_len p i
                have HPt := Lib.hid hpt
                have hsz := HT.out.size
                clear hpt HPi2
                go_wp2_with (at_builtin; refine named1 (p := wpList _ _ _ _ _) ?_; intro w6 hb6 B53; have hO := HO.out.later hb6; refine wpList_grow rfl (.tmp 70) (.tmp 72) 46 rfl elem_int rfl hO rfl B53 rfl (by omega) rfl (n := (sel p i).length) (by simp) (by omega) (by omega) (Nat.le_trans hsz hb6.size) ?_; intro a' c' W' hO' hb' hg'; have HT6 := Lib.hid ((HT.out.next hb6).ownr hO hg'); have HK6 := Lib.hid ((HK.out.later hb6).own hO hg'); clear hg' hO B53 hb' hb6)
                have HN : Hid (Own W' w1.heap.size 3 1 (.slice a' ((sel p i).length + 1) c') (ivs (sel p (i + 1)))) := by
                  rw [Hid, sel_yes HPt.out, ivs, List.map_append]; exact hO'
                clear hO'
                go_roundw
                case rel => exact ⟨i + 1, by omega, by go_num, HT6.out, HK6.out, HN.out⟩
                case measure => simp [intOf]; omega
              · have hpf : p i = false := by rw [HPi2.out]; simpa using hgj
                have HPf := Lib.hid hpf
                clear hpf HPi2
                go_wp2_with fail
                go_roundw
                case rel => exact ⟨i + 1, by omega, by go_num, HT.out, HK.out, by rw [sel_no HPf.out]; exact HO.out⟩
                case measure => simp [intOf]; omega
        · obtain rfl : i = L.st.length := by omega
          obtain ⟨ra, rc, rfl, _, hr⟩ := HO.out.row
          rw [List.length_map]
          have HRw := Lib.hid hr
          have HW2 := Lib.hid (over_turn HW.out hT hK HN0.out)
          clear hr HO hT hK
          go_wp2_with fail
          go_ret2
          rw [H2.out, HVit.out]
          exact ⟨ra, rc, rfl, HW2.out, HRw.out⟩
end Go.Proofs.Ytfihdaoakfdlpaa
end

section
/- Layer 3, the walks: the exported function Earliest. -/
open Go.RowKit Go.Shelf
namespace Go.Proofs.Ytfihdaoakfdlpaa
open Go.Hill

def Land.fins (L : Land) (f s k : Nat) (out : Int) : List Int := (List.range L.st.length).map fun x => L.fin f s k out x
def Land.earlE (L : Land) (fr st k : Int) : List Int × Int := if L.askr fr fr st k = 0 then (Land.fins L fr.toNat st.toNat k.toNat (-1), 0) else ([], L.askr fr fr st k)
theorem range_snoc {α : Type} (f : Nat → α) (k : Nat) : (List.range (k + 1)).map f = (List.range k).map f ++ [f k] := by rw [List.range_succ]; simp
theorem fin_tab {L : Land} {f s k x : Nat} {out : Int} (hs : s ≤ L.sn.length) (hx : x < L.st.length) : L.fin f s k out x = if (L.sn.length : Int) < L.tab f s k out x then -1 else L.tab f s k out x := by
  rw [Land.tab_at hx]
  exact (Rel.fin_hat (r := L.rel k out) hs).symm

theorem slice_hours (a : Addr) {n : Nat} (hn : n ≤ 6) (w : World) : (Instr.sliceAt 87 (.pointer (some a)) none (some (.int .i64 n)) none).run Try.prog w = .ok (.slice (some a) n 6) w := by
  have hl : Try.prog.arrayLen 87 = 6 := by kernel_rfl
  rw [run_sliceAt_array_h (P := Try.prog) w 87 a (by kernel_rfl) .i64 n (by omega) (by rw [hl]; omega)]
  have h0 : (Try.prog.info? (Try.prog.elem 87)).map (·.size) = some 1 := by kernel_rfl
  cases hi : Try.prog.info? (Try.prog.elem 87) with
  | none => rw [hi] at h0; cases h0
  | some i =>
    simp [sizeOf, typeInfo, hi, slicedAt, hl, Addr.add]
set_option maxRecDepth 100000 in
set_option maxHeartbeats 4000000 in
theorem Earliest_any (q : LV) (L : Land) (fr st k : Int) (w : World) (hL : LandAt w q L) (hs : Small L) :
    Calls Try.prog 16 #[landV q L, .int .i64 fr, .int .i64 st, .int .i64 k] w (RetL (Land.earlE L fr st k) w) := by
  have HL := Lib.hid hL
  clear hL
  by_cases hc : L.chk = 0
  case neg =>
    have h1 : Land.earlE L fr st k = ([], L.chk) := by unfold Land.earlE; rw [askr_bad hc, if_neg hc]
    rw [h1]
    clear h1
    go_enter Try.func16, Try.ntmps16
    go_wp2_with fail
    refine named3 (p := fun W => Calls _ _ _ W _) ?_
    intro W hW B4 B20 B22
    have HNo := Lib.hid (open_bad q L (.slice (some ⟨w.heap.size + 1, 0, none⟩) 1 1) (.slice (some ⟨w.heap.size + 1 + 1, 0, none⟩) 1 1) k W (HL.out.later hW) hs hc)
    have hcb : (L.chk != 0) = true := by simpa using hc
    generalize L.chk = c at *
    clear hc
    refine HNo.out.mono ?_
    rintro e w1 ⟨rfl, hb1⟩
    replace hW := over hW hb1
    clear hb1 HNo B4 B20 B22
    go_wp2_with fail
    go_ret2
    exact ⟨none, 0, rfl, hW, .inl rfl⟩
  have HC := Lib.hid hc
  obtain ⟨v, hv⟩ : ∃ v, v = Land.earlE L fr st k := ⟨_, rfl⟩
  rw [← hv]
  rw [Land.earlE, askr_one hc] at hv
  have HV := Lib.hid hv
  have h12 := st_six hc
  clear hv hc
  go_enter Try.func16, Try.ntmps16
  go_wp2_with fail
  refine named3 (p := fun W => Calls _ _ _ W _) ?_
  intro W hW B4 B20 B22
  have hB20 : Box W (w.heap.size + 1) #[.int .i64 fr] 3 := B20
  have hB22 : Box W (w.heap.size + 1 + 1) #[.int .i64 st] 3 := B22
  have hsz0 := hW.size
  refine (open_any q L [fr] [st] _ _ 1 1 k W (HL.out.later hW) HC.out (ints_one_box hB20) (ints_one_box hB22) (by simp) (by simp)).mono ?_
  rintro e w1 (⟨hno, rfl, hb1⟩ | ⟨hyes, r, rfl, hb1, hR1, hn0⟩)
  · have h1 := HV.out
    rw [hno] at h1
    simp only [Bool.false_eq_true, if_false] at h1
    rw [if_neg (by decide)] at h1
    have H1 := Lib.hid h1
    replace hW := over hW hb1
    clear hb1 B4 B20 B22 hB20 hB22 hno h1 HV
    go_wp2_with fail
    go_ret2
    rw [H1.out]
    exact ⟨none, 0, rfl, hW, .inl rfl⟩
  · obtain ⟨f, s, c, rfl, rfl, rfl, hf, hs', hc'⟩ := okr_one hyes
    have h1 := HV.out
    rw [hyes] at h1
    simp only [if_true, Int.toNat_natCast] at h1
    have H1 := Lib.hid h1
    replace hW := over hW hb1
    have HW := Lib.hid hW
    replace B4 := B4.later hb1
    have HR1 := Lib.hid hR1
    have HN0 : Hid (w.heap.size ≤ r.n0) := by show _ ≤ _; rw [hn0]; exact hsz0
    clear hb1 B20 B22 hB20 hB22 hyes h1 HV hR1 hn0 hW
    have HE := Lib.hid (earliest_any r q L f s c (-1) w1 HR1.out HC.out hf hs' hc' (by omega))
    obtain ⟨g, hg⟩ : ∃ g : Nat → Int, g = fun x => L.fin f s c (-1) x := ⟨_, rfl⟩
    have HFin : Hid (∀ x, x < L.st.length → g x = if (L.sn.length : Int) < L.tab f s c (-1) x then -1 else L.tab f s c (-1) x) := fun x hx => by rw [hg]; exact fin_tab hs' hx
    have HFs : Hid (Land.fins L f s c (-1) = (List.range L.st.length).map g) := by rw [hg]; rfl
    clear hg
    have HTb : Hid (∀ x, x < 6 → L.tab f s c (-1) x ≤ 1000 ∧ 0 ≤ L.tab f s c (-1) x) := fun x hx => by
      by_cases hxl : x < L.st.length
      · rw [Land.tab_at hxl]
        have h1 : (L.rel c (-1)).e = L.sn.length := rfl
        have h2 : (s : Int) ≤ L.hat f s c (-1) x ∧ L.hat f s c (-1) x ≤ (L.rel c (-1)).e + 1 := Rel.hat_bd (r := L.rel c (-1)) (f := f) hs' x
        rw [h1] at h2
        omega
      · have h1 : L.tab f s c (-1) x = (L.sn.length : Int) + 1 := if_neg hxl
        rw [h1]; omega
    generalize L.tab f s c (-1) = tb at *
    go_wp2_with fail
    refine HE.out.mono ?_
    rintro e w2 ⟨rfl, hT2, hR2⟩
    have HT2 := Lib.hid hT2
    have HR2 := Lib.hid hR2
    replace B4 := hT2.box0 B4
    clear hT2 hR2 HE
    have c4 := B4.cell; have t4 := B4.lt
    have hsl := fun b w => slice_hours b (show L.st.length ≤ 6 by omega) w
    go_wp2_with fail
    refine named1 (p := Code.wp _ _ _ _) ?_
    intro W3 hb3 B13
    have HT3 := Lib.hid (HT2.out.next hb3)
    have HK3 := Lib.hid (HR2.out.kn.later hb3)
    have HH3 := Lib.hid (show HrAt W3 w2.heap.size tb from B13)
    have hbx3 := Lib.hid (HR2.out.box.later hb3)
    clear hb3 B13 c4 t4 B4 hsl HT2 HR2
    go_loopw [12, 39] (fun v i' wr => ∃ i : Nat, i ≤ L.st.length ∧ i' = .int .i64 i ∧ Turn r.ex none w1 wr ∧ KnAt wr r L ∧ HrAt wr w2.heap.size tb ∧ Box wr r.bw (relc r q L) 114 ∧ Own wr w1.heap.size 3 1 v (ivs ((List.range i).map g))) (fun _ i' _ => L.st.length - (intOf i').toNat)
    case atStart => exact ⟨0, Nat.zero_le _, rfl, HT3.out, HK3.out, HH3.out, hbx3.out, Own.nil _ _ _ _⟩
    case round =>
      clear HT3 HK3 HH3 hbx3
      obtain ⟨i, hi, rfl, hT, hK, hH, hbx, hO⟩ := hrel
      have HO := Lib.hid hO
      have HT := Lib.hid hT
      have HK := Lib.hid hK
      have HH := Lib.hid hH
      clear hO hT hK hH
      by_cases hlt : i < L.st.length
      · have e13 := HH.out.cell (show i < 6 by omega)
        have t13 := HH.out.lt
        have r1 : (0 : Int) ≤ (i : Int) := by omega
        have r2 : (i : Int) < (L.st.length : Int) := by omega
        have HFi : Hid (g i = if (L.sn.length : Int) < tb i then -1 else tb i) := HFin.out i hlt
        go_wp2_with fail
        refine (end_any wr hbx).mono ?_
        rintro e w4 ⟨rfl, hb4⟩
        replace HO := Lib.hid (HO.out.later hb4)
        replace HT := Lib.hid (HT.out.next hb4)
        replace HK := Lib.hid (HK.out.later hb4)
        replace HH := Lib.hid (HH.out.later hb4)
        replace hbx := hbx.later hb4
        have hn : ((List.range i).map g).length ≤ 6 := by simp; omega
        have hsz := HT.out.size
        clear e13 t13 hb4
        obtain ⟨gv, hgv⟩ : ∃ gv, gv = g i := ⟨_, rfl⟩
        have HGi : Hid (ivs ((List.range (i + 1)).map g) = ivs ((List.range i).map g) ++ [[.int .i64 gv]]) := by
          show _ = _
          rw [range_snoc, ivs, List.map_append, hgv]; rfl
        have HGv := Lib.hid hgv
        clear hgv
        by_cases hgr : (L.sn.length : Int) < tb i
        · have hgm : gv = -1 := by rw [HGv.out, HFi.out, if_pos hgr]
          subst hgm
          clear HFi HGv
          go_wp2_with (at_builtin; refine named1 (p := wpList _ _ _ _ _) ?_; intro w6 hb6 B53; have hO := HO.out.later hb6; refine wpList_grow rfl (.tmp 47) (.tmp 49) 46 rfl elem_int rfl hO rfl B53 rfl (by omega) rfl (n := i) (by simp [ivs]) (by omega) (by omega) (Nat.le_trans hsz hb6.size) ?_; intro a' c' W' hO' hb' hg'; have HT6 := Lib.hid ((HT.out.next hb6).ownr hO hg'); have HK6 := Lib.hid ((HK.out.later hb6).own hO hg'); have HH6 : Hid (HrAt W' w2.heap.size tb) := Lib.hid (Box.keep (HH.out.later hb6) (KeepT.grown hO (by decide) hg')); have hbx6 := Lib.hid (Box.keep (hbx.later hb6) (KeepT.grown hO (by decide) hg')); clear hg' hO B53 hb' hb6)
          have HN : Hid (Own W' w1.heap.size 3 1 (.slice a' (i + 1) c') (ivs ((List.range (i + 1)).map g))) := by
            rw [Hid, HGi.out]; exact hO'
          clear hO'
          go_roundw
          case rel => exact ⟨i + 1, by omega, by go_num, HT6.out, HK6.out, HH6.out, hbx6.out, HN.out⟩
          case measure => simp [intOf]; omega
        · have hgm : gv = tb i := by rw [HGv.out, HFi.out, if_neg hgr]
          clear HFi HGv
          subst hgm
          go_wp2_with (at_builtin; refine named1 (p := wpList _ _ _ _ _) ?_; intro w6 hb6 B53; have hO := HO.out.later hb6; refine wpList_grow rfl (.tmp 47) (.tmp 49) 46 rfl elem_int rfl hO rfl B53 rfl (by omega) rfl (n := i) (by simp [ivs]) (by omega) (by omega) (Nat.le_trans hsz hb6.size) ?_; intro a' c' W' hO' hb' hg'; have HT6 := Lib.hid ((HT.out.next hb6).ownr hO hg'); have HK6 := Lib.hid ((HK.out.later hb6).own hO hg'); have HH6 : Hid (HrAt W' w2.heap.size tb) := Lib.hid (Box.keep (HH.out.later hb6) (KeepT.grown hO (by decide) hg')); have hbx6 := Lib.hid (Box.keep (hbx.later hb6) (KeepT.grown hO (by decide) hg')); clear hg' hO B53 hb' hb6)
          have HN : Hid (Own W' w1.heap.size 3 1 (.slice a' (i + 1) c') (ivs ((List.range (i + 1)).map g))) := by
            rw [Hid, HGi.out]; exact hO'
          clear hO'
          go_roundw
          case rel => exact ⟨i + 1, by omega, by go_num, HT6.out, HK6.out, HH6.out, hbx6.out, HN.out⟩
          case measure => simp [intOf]; omega
      · obtain rfl : i = L.st.length := by omega
        obtain ⟨ra, rc, rfl, _, hr⟩ := HO.out.row
        have hl : (ivs ((List.range L.st.length).map g)).length = (Land.fins L f s c (-1)).length := by rw [← HFs.out, List.length_map]
        rw [hl]
        have HRw := Lib.hid hr
        have HW2 := Lib.hid (over_turn HW.out HT.out HK.out HN0.out)
        clear hr HO HT HK hl
        go_wp2_with fail
        go_ret2
        rw [H1.out]
        exact ⟨ra, rc, rfl, HW2.out, by rw [HFs.out]; exact HRw.out⟩
end Go.Proofs.Ytfihdaoakfdlpaa
end
