import Derived.Test.YtingfmdbihbamaaGreatR6
import Derived.WalkMore
import Derived.Deep.LoopGhost
section
/- Layer 3, the walks: the sure hour. -/
open Go.RowKit Go.Shelf
namespace Go.Proofs.YtingfmdbihbamaaGreat
open Go.Hill

theorem index_hours (h : Nat → Int) {x : Nat} (hx : x < 6) (w : World) : (Instr.index 104 (.agg (hrsc h)) (.int .i64 x)).run Tryz.prog w = .ok (.int .i64 (h x)) w := by
  have hu := Tryz.underlying104
  have h0 : (Tryz.prog.info? 3).map (·.size) = some 1 := by kernel_rfl
  have h1 : Tryz.prog.underlying 3 = some (.int .i64) := by kernel_rfl
  cases hi : Tryz.prog.info? 3 with
  | none => rw [hi] at h0; cases h0
  | some i =>
    have hs : i.size = 1 := by rw [hi] at h0; simpa using h0
    have hx2 : (x : Int) < 6 := by omega
    have h2 := hrs_at h hx
    unfold Instr.index
    simp [asIntOf, run_underlying hu, sizeOf, typeInfo, hi, hs, part, isAgg, run_underlying h1]
    rcases six_cases hx with rfl | rfl | rfl | rfl | rfl | rfl <;> rfl

set_option maxRecDepth 100000 in
set_option maxHeartbeats 4000000 in
theorem sure_any (r : RV) (q : LV) (L : Land) (f t s : Nat) (out : Int) (w : World) (hr : RelAt w r q L) (hc : L.chk = 0) (hf : f < L.st.length) (ht : t < L.st.length) (hs : s ≤ L.sn.length) (ho : -1 ≤ out ∧ out ≤ 1000) :
    Calls Tryz.prog 19 #[.pointer (some ⟨r.bw, 0, none⟩), .int .i64 f, .int .i64 t, .int .i64 s, .int .i64 out] w (RetR (.tuple #[.int .i64 (L.sur f t s out).1, .int .i64 (L.sur f t s out).2]) r q L w) := by
  have HR := Lib.hid hr
  have HC := Lib.hid hc
  obtain ⟨n6, n0, e12, e0, m4, m0⟩ := st_six hc
  have B1 := hr.box
  have c1 := B1.cell; have t1 := B1.lt
  clear hr hc
  go_enter Tryz.func19, Tryz.ntmps19
  go_wp2_with fail
  go_loopw [10, 11, 20] (fun hv kv i' wr => ∃ k : Nat, k ≤ L.cs.length ∧ i' = .int .i64 k ∧ hv = .int .i64 (surF (fun k => L.hat f s k out t) k).1 ∧ kv = .int .i64 (surF (fun k => L.hat f s k out t) k).2 ∧ Turn r.ex none w wr ∧ KnAt wr r L) (fun _ _ i' _ => L.cs.length - (intOf i').toNat)
  case atStart => exact ⟨0, Nat.zero_le _, rfl, rfl, rfl, Turn.refl _ _ _, HR.out.kn⟩
  case round =>
    obtain ⟨k, hk, rfl, rfl, rfl, hT, hK⟩ := hrel
    clear B1 c1 t1
    by_cases hlt : k < L.cs.length
    · obtain ⟨arr, harr⟩ : ∃ arr, arr = hrsc (L.tab f s k out) := ⟨_, rfl⟩
      have hix : ∀ w, (Instr.index 104 (.agg arr) (.int .i64 t)).run Tryz.prog w = .ok (.int .i64 (L.hat f s k out t)) w := fun w => by rw [harr, index_hours _ (show t < 6 by omega), Land.tab_at ht]
      have HE := Lib.hid (earliest_any r q L f s k out wr (HR.out.turn hT hK) HC.out hf hs hlt ho)
      rw [← harr] at HE
      have HS : Hid (surF (fun k => L.hat f s k out t) (k + 1) = if (surF (fun k => L.hat f s k out t) k).1 < L.hat f s k out t then (L.hat f s k out t, k) else surF (fun k => L.hat f s k out t) k) := rfl
      generalize surF (fun k => L.hat f s k out t) k = p at *
      obtain ⟨p1, p2⟩ := p
      generalize L.hat f s k out t = hv at *
      simp only at HS ⊢
      clear harr
      go_wp2_with fail
      refine HE.out.mono ?_
      rintro e w1 ⟨rfl, hT1, hR1⟩
      have HT := Lib.hid (hT.trans hT1)
      have HK := Lib.hid hR1.kn
      clear hT hK HE hT1 hR1
      have r1 : (0 : Int) ≤ (t : Int) := by omega
      have r2 : (t : Int) < 6 := by omega
      by_cases hlt2 : p1 < hv
      · go_wp2_with fail
        go_roundw
        case rel =>
          have h := HS.out
          rw [if_pos hlt2] at h
          exact ⟨k + 1, by omega, by go_num, by rw [h], by rw [h], HT.out, HK.out⟩
        case measure => simp [intOf]; omega
      · go_wp2_with fail
        go_roundw
        case rel =>
          have h := HS.out
          rw [if_neg (Int.not_lt.2 hlt2)] at h
          exact ⟨k + 1, by omega, by go_num, by rw [h], by rw [h], HT.out, HK.out⟩
        case measure => simp [intOf]; omega
    · obtain rfl : k = L.cs.length := by omega
      have hV : surF (fun k => L.hat f s k out t) L.cs.length = L.sur f t s out := rfl
      rw [hV]
      have HT := Lib.hid hT
      have HK := Lib.hid hK
      generalize L.sur f t s out = p at *
      obtain ⟨p1, p2⟩ := p
      clear hT hK hV
      go_wp2_with fail
      go_ret2
      exact ⟨rfl, HT.out, HR.out.turn HT.out HK.out⟩
end Go.Proofs.YtingfmdbihbamaaGreat
end

section
/- Layer 3, the walks: the exported functions Sure, Stuck. -/
open Go.RowKit Go.Shelf
namespace Go.Proofs.YtingfmdbihbamaaGreat
open Go.Hill

theorem ints_one_box {W : World} {b : Nat} {x : Int} (h : Box W b #[.int .i64 x] 3) : IntsAt W (some ⟨b, 0, none⟩) [x] := .inr ⟨b, 0, rfl, fun i y hi j v hv => by
  rcases i with _ | i
  · simp at hi; subst hi
    rcases j with _ | j
    · simp at hv; subst hv; exact h.cell 0
    · simp at hv
  · simp at hi⟩
theorem ints_two_box {W : World} {b : Nat} {x y : Int} (h : Box W b #[.int .i64 x, .int .i64 y] 3) : IntsAt W (some ⟨b, 0, none⟩) [x, y] := .inr ⟨b, 0, rfl, fun i z hi j v hv => by
  rcases i with _ | _ | i
  · simp at hi; subst hi
    rcases j with _ | j
    · simp at hv; subst hv; exact h.cell 0
    · simp at hv
  · simp at hi; subst hi
    rcases j with _ | j
    · simp at hv; subst hv; exact h.cell 1
    · simp at hv
  · simp at hi⟩
theorem askr_two {L : Land} (hc : L.chk = 0) (fr ta st k : Int) : L.askr fr ta st k = if okr L [fr, ta] [st] k then 0 else 2 := by
  unfold Land.askr okr
  rw [if_pos hc]
  simp only [List.all_cons, List.all_nil, Bool.and_true, Bool.and_assoc]
theorem askr_one {L : Land} (hc : L.chk = 0) (fr st k : Int) : L.askr fr fr st k = if okr L [fr] [st] k then 0 else 2 := by
  rw [askr_two hc]
  unfold okr
  simp
theorem askr_bad {L : Land} (hc : L.chk ≠ 0) (fr ta st k : Int) : L.askr fr ta st k = L.chk := if_neg hc
theorem okr_two {L : Land} {fr ta st k : Int} (h : okr L [fr, ta] [st] k = true) : ∃ f t s c : Nat, fr = f ∧ ta = t ∧ st = s ∧ k = c ∧ f < L.st.length ∧ t < L.st.length ∧ s ≤ L.sn.length ∧ c < L.cs.length := by
  unfold okr at h
  simp only [List.all_cons, List.all_nil, Bool.and_true, Bool.and_eq_true, inB_iff] at h
  exact ⟨fr.toNat, ta.toNat, st.toNat, k.toNat, by omega, by omega, by omega, by omega, by omega, by omega, by omega, by omega⟩
theorem okr_one {L : Land} {fr st k : Int} (h : okr L [fr] [st] k = true) : ∃ f s c : Nat, fr = f ∧ st = s ∧ k = c ∧ f < L.st.length ∧ s ≤ L.sn.length ∧ c < L.cs.length := by
  unfold okr at h
  simp only [List.all_cons, List.all_nil, Bool.and_true, Bool.and_eq_true, inB_iff] at h
  exact ⟨fr.toNat, st.toNat, k.toNat, by omega, by omega, by omega, by omega, by omega, by omega⟩
/-- What the exported functions return. -/
def Land.sureE (L : Land) (fr ta st : Int) : Int × Int × Int := if L.askr fr ta st 0 = 0 then (if (L.sn.length : Int) < (L.sur fr.toNat ta.toNat st.toNat (-1)).1 then (0, 0, 10) else ((L.sur fr.toNat ta.toNat st.toNat (-1)).1, (L.sur fr.toNat ta.toNat st.toNat (-1)).2, 0)) else (0, 0, L.askr fr ta st 0)
theorem over_turn {r : RV} {L : Land} {w W W' : World} (h : Below w.heap.size w W) (hT : Turn r.ex none W W') (hk : KnAt W' r L) (hn : w.heap.size ≤ r.n0) : Below w.heap.size w W' :=
  Turn.below h (Nat.le_refl _) hT (fun k hk' => Nat.le_trans hn (hk.low hk')) (fun _ e => by cases e)

set_option maxRecDepth 100000 in
set_option maxHeartbeats 4000000 in
theorem Sure_any (q : LV) (L : Land) (fr ta st : Int) (w : World) (hL : LandAt w q L) (hs : Small L) :
    Calls Tryz.prog 7 #[landV q L, .int .i64 fr, .int .i64 ta, .int .i64 st] w (Ret (.tuple #[.int .i64 (Land.sureE L fr ta st).1, .int .i64 (Land.sureE L fr ta st).2.1, .int .i64 (Land.sureE L fr ta st).2.2]) w) := by
  have HL := Lib.hid hL
  clear hL
  by_cases hc : L.chk = 0
  case neg =>
    have h1 : Land.sureE L fr ta st = (0, 0, L.chk) := by unfold Land.sureE; rw [askr_bad hc, if_neg hc]
    rw [h1]
    simp only
    clear h1
    go_enter Tryz.func7, Tryz.ntmps7
    go_wp2_with fail
    refine named3 (p := fun W => Calls _ _ _ W _) ?_
    intro W hW B4 B20 B22
    have HNo := Lib.hid (open_bad q L (.slice (some ⟨w.heap.size + 1, 0, none⟩) 2 2) (.slice (some ⟨w.heap.size + 1 + 1, 0, none⟩) 1 1) 0 W (HL.out.later hW) hs hc)
    have hcb : (L.chk != 0) = true := by simpa using hc
    generalize L.chk = c at *
    clear hc
    refine HNo.out.mono ?_
    rintro e w1 ⟨rfl, hb1⟩
    replace hW := over hW hb1
    clear hb1 HNo B4 B20 B22
    go_wp2_with fail
    go_ret3
    exact ⟨rfl, hW⟩
  have HC := Lib.hid hc
  obtain ⟨v, hv⟩ : ∃ v, v = Land.sureE L fr ta st := ⟨_, rfl⟩
  rw [← hv]
  rw [Land.sureE, askr_two hc] at hv
  have HV := Lib.hid hv
  clear hv hc
  go_enter Tryz.func7, Tryz.ntmps7
  go_wp2_with fail
  refine named3 (p := fun W => Calls _ _ _ W _) ?_
  intro W hW B4 B20 B22
  have hB20 : Box W (w.heap.size + 1) #[.int .i64 fr, .int .i64 ta] 3 := B20
  have hB22 : Box W (w.heap.size + 1 + 1) #[.int .i64 st] 3 := B22
  have hsz0 := hW.size
  refine (open_any q L [fr, ta] [st] _ _ 2 1 0 W (HL.out.later hW) HC.out (ints_two_box hB20) (ints_one_box hB22) (by simp) (by simp)).mono ?_
  rintro e w1 (⟨hno, rfl, hb1⟩ | ⟨hyes, r, rfl, hb1, hR1, hn0⟩)
  · have h1 := HV.out
    rw [hno] at h1
    simp only [Bool.false_eq_true, if_false] at h1
    rw [if_neg (by decide)] at h1
    have H1 := Lib.hid h1
    replace hW := over hW hb1
    clear hb1 B4 B20 B22 hB20 hB22 hno h1 HV
    go_wp2_with fail
    go_ret3
    rw [H1.out]
    exact ⟨rfl, hW⟩
  · obtain ⟨f, t, s, c0, rfl, rfl, rfl, hz, hf, ht, hs', hc0⟩ := okr_two hyes
    have h1 := HV.out
    rw [hyes] at h1
    simp only [if_true, Int.toNat_natCast] at h1
    have H1 := Lib.hid h1
    replace hW := over hW hb1
    have B4 := B4.later hb1
    have HR1 := Lib.hid hR1
    have HN0 : Hid (w.heap.size ≤ r.n0) := by show _ ≤ _; rw [hn0]; exact hsz0
    clear hb1 B20 B22 hB20 hB22 hyes h1 HV hR1 hn0 hz hc0 c0
    have HS := Lib.hid (sure_any r q L f t s (-1) w1 HR1.out HC.out hf ht hs' (by omega))
    generalize L.sur f t s (-1) = p at *
    obtain ⟨p1, p2⟩ := p
    go_wp2_with fail
    refine HS.out.mono ?_
    rintro e w2 ⟨rfl, hT2, hR2⟩
    have HW2 := Lib.hid (over_turn hW hT2 hR2.kn HN0.out)
    have hbx := hR2.box
    clear hW HR1 HS hT2 hR2 B4
    go_wp2_with fail
    refine (end_any w2 hbx).mono ?_
    rintro e w3 ⟨rfl, hb3⟩
    have HW3 := Lib.hid (over HW2.out hb3)
    clear HW2 hbx hb3
    by_cases hlt : (L.sn.length : Int) < p1
    · have h2 := H1.out
      rw [if_pos hlt] at h2
      have H2 := Lib.hid h2
      clear h2 H1
      go_wp2_with fail
      go_ret3
      rw [H2.out]
      exact ⟨rfl, HW3.out⟩
    · have h2 := H1.out
      rw [if_neg hlt] at h2
      have H2 := Lib.hid h2
      clear h2 H1
      go_wp2_with fail
      go_ret3
      rw [H2.out]
      exact ⟨rfl, HW3.out⟩
end Go.Proofs.YtingfmdbihbamaaGreat
end

section
/- Layer 3, the walks: the exported function Latest. -/
open Go.RowKit Go.Shelf
namespace Go.Proofs.YtingfmdbihbamaaGreat
open Go.Hill

def Land.latE (L : Land) (fr ta st : Int) : Int × Int := if L.askr fr ta st 0 = 0 then (if L.lat fr.toNat ta.toNat st.toNat = -1 then (0, 10) else (L.lat fr.toNat ta.toNat st.toNat, 0)) else (0, L.askr fr ta st 0)
theorem lastF_stop {p : Nat → Bool} {n i : Nat} (h : ∀ j, j < i → p (n - j) = false) (hi : i ≤ n + 1) : lastF p (n + 1) = lastF p (n + 1 - i) := by
  obtain ⟨d, hd⟩ : ∃ d, n + 1 = d + i := ⟨n + 1 - i, by omega⟩
  rw [hd, Nat.add_sub_cancel]
  exact lastF_more i fun k h1 h2 => by
    have := h (n - k) (by omega)
    rwa [show n - (n - k) = k by omega] at this
theorem lastF_hit {p : Nat → Bool} {n i : Nat} (h : ∀ j, j < i → p (n - j) = false) (hi : i ≤ n) (hp : p (n - i) = true) : lastF p (n + 1) = ((n - i : Nat) : Int) := by
  rw [lastF_stop h (by omega), show n + 1 - i = (n - i) + 1 by omega]
  unfold lastF
  rw [if_pos hp]
theorem lastF_miss {p : Nat → Bool} {n : Nat} (h : ∀ j, j < n + 1 → p (n - j) = false) : lastF p (n + 1) = -1 := by
  rw [lastF_stop h (Nat.le_refl _), Nat.sub_self]; rfl

end Go.Proofs.YtingfmdbihbamaaGreat
end

section
/- Layer 3, the walks: the exported function Stuck. -/
open Go.RowKit Go.Shelf
namespace Go.Proofs.YtingfmdbihbamaaGreat
open Go.Hill

section
variable {W W' : World} {r : RV} {L : Land} {base size : Nat} {E : TypeId} {v : Value} {xs : List (List Value)} {ex : Nat → Prop}
theorem KnAt.own (h : KnAt W r L) (ho : Own W base E size v xs) (hg : W.grownBy W' v.ownBlock) : KnAt W' r L := h.same fun _ _ _ _ hm => MapIs.own hm ho hg
theorem Turn.ownr {A : World} (h : Turn ex none A W) (ho : Own W A.heap.size E size v xs) (hg : W.grownBy W' v.ownBlock) : Turn ex none A W' := h.grown hg fun r e => (ho.1.lt r e).1
theorem Own.turned (h : Own W base E size v xs) (ht : Turn ex none W W') : Own W' base E size v xs := h.turn fun k hk => by
  obtain ⟨c, hc⟩ := own_cells2 h hk
  exact (ht.obj hc (fun _ _ e => by cases e) (by simp)).trans hc.symm
end
def Land.stkE (L : Land) (fr ta st : Int) : List Int × Int := if L.askr fr ta st 0 = 0 then (L.stk fr.toNat ta.toNat st.toNat (-1), 0) else ([], L.askr fr ta st 0)

end Go.Proofs.YtingfmdbihbamaaGreat
end

section
/- Layer 3, the walks: the exported function Vital. -/
open Go.RowKit Go.Shelf
namespace Go.Proofs.YtingfmdbihbamaaGreat
open Go.Hill

def Land.vitE (L : Land) (fr ta st : Int) : List Int × Int := if L.askr fr ta st 0 = 0 then (if (L.sn.length : Int) < (L.sur fr.toNat ta.toNat st.toNat (-1)).1 then ([], 10) else (L.vit fr.toNat ta.toNat st.toNat, 0)) else ([], L.askr fr ta st 0)

end Go.Proofs.YtingfmdbihbamaaGreat
end

section
/- Layer 3, the walks: the exported function Earliest. -/
open Go.RowKit Go.Shelf
namespace Go.Proofs.YtingfmdbihbamaaGreat
open Go.Hill

def Land.fins (L : Land) (f s k : Nat) (out : Int) : List Int := (List.range L.st.length).map fun x => L.fin f s k out x
def Land.earlE (L : Land) (fr st k : Int) : List Int × Int := if L.askr fr fr st k = 0 then (Land.fins L fr.toNat st.toNat k.toNat (-1), 0) else ([], L.askr fr fr st k)
theorem range_snoc {α : Type} (f : Nat → α) (k : Nat) : (List.range (k + 1)).map f = (List.range k).map f ++ [f k] := by rw [List.range_succ]; simp
theorem fin_tab {L : Land} {f s k x : Nat} {out : Int} (hs : s ≤ L.sn.length) (hx : x < L.st.length) : L.fin f s k out x = if (L.sn.length : Int) < L.tab f s k out x then -1 else L.tab f s k out x := by
  rw [Land.tab_at hx]
  exact (Rel.fin_hat (r := L.rel k out) hs).symm

theorem slice_hours (a : Addr) {n : Nat} (hn : n ≤ 6) (w : World) : (Instr.sliceAt 104 (.pointer (some a)) none (some (.int .i64 n)) none).run Tryz.prog w = .ok (.slice (some a) n 6) w := by
  have hl : Tryz.prog.arrayLen 104 = 6 := by kernel_rfl
  rw [run_sliceAt_array_h (P := Tryz.prog) w 104 a (by kernel_rfl) .i64 n (by omega) (by rw [hl]; omega)]
  have h0 : (Tryz.prog.info? (Tryz.prog.elem 104)).map (·.size) = some 1 := by kernel_rfl
  cases hi : Tryz.prog.info? (Tryz.prog.elem 104) with
  | none => rw [hi] at h0; cases h0
  | some i =>
    simp [sizeOf, typeInfo, hi, slicedAt, hl, Addr.add]
/-- It returns a list in a row of its own. -/
def RetLO (r : List Int × Int) (w : World) (e : Ending) (w' : World) : Prop :=
  ∃ a c, e = .returned (.tuple #[.slice a r.1.length c, .int .i64 r.2]) ∧ Below w.heap.size w w' ∧ Own w' w.heap.size 3 1 (.slice a r.1.length c) (ivs r.1)
set_option maxRecDepth 100000 in
set_option maxHeartbeats 4000000 in
theorem EarliestO_any (q : LV) (L : Land) (fr st k : Int) (w : World) (hL : LandAt w q L) (hs : Small L) :
    Calls Tryz.prog 9 #[landV q L, .int .i64 fr, .int .i64 st, .int .i64 k] w (RetLO (Land.earlE L fr st k) w) := by
  have HL := Lib.hid hL
  clear hL
  by_cases hc : L.chk = 0
  case neg =>
    have h1 : Land.earlE L fr st k = ([], L.chk) := by unfold Land.earlE; rw [askr_bad hc, if_neg hc]
    rw [h1]
    clear h1
    go_enter Tryz.func9, Tryz.ntmps9
    go_wp2_with fail
    refine named3 (p := fun W => Calls _ _ _ W _) ?_
    intro W hW B4 B20 B22
    have HNo := Lib.hid (open_bad q L (.slice (some ⟨w.heap.size + 1, 0, none⟩) 1 1) (.slice (some ⟨w.heap.size + 1 + 1, 0, none⟩) 1 1) k W (HL.out.later hW) hs hc)
    have hcb : (L.chk != 0) = true := by simpa using hc
    generalize L.chk = c at *
    clear hc
    refine HNo.out.mono ?_
    rintro e w1 ⟨rfl, hb1⟩
    replace hW := over hW hb1
    clear hb1 HNo B4 B20 B22
    go_wp2_with fail
    go_ret2
    exact ⟨none, 0, rfl, hW, Own.nil _ _ _ _⟩
  have HC := Lib.hid hc
  obtain ⟨v, hv⟩ : ∃ v, v = Land.earlE L fr st k := ⟨_, rfl⟩
  rw [← hv]
  rw [Land.earlE, askr_one hc] at hv
  have HV := Lib.hid hv
  have h12 := st_six hc
  clear hv hc
  go_enter Tryz.func9, Tryz.ntmps9
  go_wp2_with fail
  refine named3 (p := fun W => Calls _ _ _ W _) ?_
  intro W hW B4 B20 B22
  have hB20 : Box W (w.heap.size + 1) #[.int .i64 fr] 3 := B20
  have hB22 : Box W (w.heap.size + 1 + 1) #[.int .i64 st] 3 := B22
  have hsz0 := hW.size
  refine (open_any q L [fr] [st] _ _ 1 1 k W (HL.out.later hW) HC.out (ints_one_box hB20) (ints_one_box hB22) (by simp) (by simp)).mono ?_
  rintro e w1 (⟨hno, rfl, hb1⟩ | ⟨hyes, r, rfl, hb1, hR1, hn0⟩)
  · have h1 := HV.out
    rw [hno] at h1
    simp only [Bool.false_eq_true, if_false] at h1
    rw [if_neg (by decide)] at h1
    have H1 := Lib.hid h1
    replace hW := over hW hb1
    clear hb1 B4 B20 B22 hB20 hB22 hno h1 HV
    go_wp2_with fail
    go_ret2
    rw [H1.out]
    exact ⟨none, 0, rfl, hW, Own.nil _ _ _ _⟩
  · obtain ⟨f, s, c, rfl, rfl, rfl, hf, hs', hc'⟩ := okr_one hyes
    have h1 := HV.out
    rw [hyes] at h1
    simp only [if_true, Int.toNat_natCast] at h1
    have H1 := Lib.hid h1
    replace hW := over hW hb1
    have HW := Lib.hid hW
    replace B4 := B4.later hb1
    have HR1 := Lib.hid hR1
    have HN0 : Hid (w.heap.size ≤ r.n0) := by show _ ≤ _; rw [hn0]; exact hsz0
    clear hb1 B20 B22 hB20 hB22 hyes h1 HV hR1 hn0 hW
    have HE := Lib.hid (earliest_any r q L f s c (-1) w1 HR1.out HC.out hf hs' hc' (by omega))
    obtain ⟨g, hg⟩ : ∃ g : Nat → Int, g = fun x => L.fin f s c (-1) x := ⟨_, rfl⟩
    have HFin : Hid (∀ x, x < L.st.length → g x = if (L.sn.length : Int) < L.tab f s c (-1) x then -1 else L.tab f s c (-1) x) := fun x hx => by rw [hg]; exact fin_tab hs' hx
    have HFs : Hid (Land.fins L f s c (-1) = (List.range L.st.length).map g) := by rw [hg]; rfl
    clear hg
    have HTb : Hid (∀ x, x < 6 → L.tab f s c (-1) x ≤ 1000 ∧ 0 ≤ L.tab f s c (-1) x) := fun x hx => by
      by_cases hxl : x < L.st.length
      · rw [Land.tab_at hxl]
        have h1 : (L.rel c (-1)).e = L.sn.length := rfl
        have h2 : (s : Int) ≤ L.hat f s c (-1) x ∧ L.hat f s c (-1) x ≤ (L.rel c (-1)).e + 1 := Rel.hat_bd (r := L.rel c (-1)) (f := f) hs' x
        rw [h1] at h2
        omega
      · have h1 : L.tab f s c (-1) x = (L.sn.length : Int) + 1 := if_neg hxl
        rw [h1]; omega
    generalize L.tab f s c (-1) = tb at *
    go_wp2_with fail
    refine HE.out.mono ?_
    rintro e w2 ⟨rfl, hT2, hR2⟩
    have HT2 := Lib.hid hT2
    have HR2 := Lib.hid hR2
    replace B4 := hT2.box0 B4
    clear hT2 hR2 HE
    have c4 := B4.cell; have t4 := B4.lt
    have hsl := fun b w => slice_hours b (show L.st.length ≤ 6 by omega) w
    go_wp2_with fail
    refine named1 (p := Code.wp _ _ _ _) ?_
    intro W3 hb3 B13
    have HT3 := Lib.hid (HT2.out.next hb3)
    have HK3 := Lib.hid (HR2.out.kn.later hb3)
    have HH3 := Lib.hid (show HrAt W3 w2.heap.size tb from B13)
    have hbx3 := Lib.hid (HR2.out.box.later hb3)
    clear hb3 B13 c4 t4 B4 hsl HT2 HR2
    go_loopw [12, 39] (fun v i' wr => ∃ i : Nat, i ≤ L.st.length ∧ i' = .int .i64 i ∧ Turn r.ex none w1 wr ∧ KnAt wr r L ∧ HrAt wr w2.heap.size tb ∧ Box wr r.bw (relc r q L) 124 ∧ Own wr w1.heap.size 3 1 v (ivs ((List.range i).map g))) (fun _ i' _ => L.st.length - (intOf i').toNat)
    case atStart => exact ⟨0, Nat.zero_le _, rfl, HT3.out, HK3.out, HH3.out, hbx3.out, Own.nil _ _ _ _⟩
    case round =>
      clear HT3 HK3 HH3 hbx3
      obtain ⟨i, hi, rfl, hT, hK, hH, hbx, hO⟩ := hrel
      have HO := Lib.hid hO
      have HT := Lib.hid hT
      have HK := Lib.hid hK
      have HH := Lib.hid hH
      clear hO hT hK hH
      by_cases hlt : i < L.st.length
      · have e13 := HH.out.cell (show i < 6 by omega)
        have t13 := HH.out.lt
        have r1 : (0 : Int) ≤ (i : Int) := by omega
        have r2 : (i : Int) < (L.st.length : Int) := by omega
        have HFi : Hid (g i = if (L.sn.length : Int) < tb i then -1 else tb i) := HFin.out i hlt
        go_wp2_with fail
        refine (end_any wr hbx).mono ?_
        rintro e w4 ⟨rfl, hb4⟩
        replace HO := Lib.hid (HO.out.later hb4)
        replace HT := Lib.hid (HT.out.next hb4)
        replace HK := Lib.hid (HK.out.later hb4)
        replace HH := Lib.hid (HH.out.later hb4)
        replace hbx := hbx.later hb4
        have hn : ((List.range i).map g).length ≤ 6 := by simp; omega
        have hsz := HT.out.size
        clear e13 t13 hb4
        obtain ⟨gv, hgv⟩ : ∃ gv, gv = g i := ⟨_, rfl⟩
        have HGi : Hid (ivs ((List.range (i + 1)).map g) = ivs ((List.range i).map g) ++ [[.int .i64 gv]]) := by
          show _ = _
          rw [range_snoc, ivs, List.map_append, hgv]; rfl
        have HGv := Lib.hid hgv
        clear hgv
        by_cases hgr : (L.sn.length : Int) < tb i
        · have hgm : gv = -1 := by rw [HGv.out, HFi.out, if_pos hgr]
          subst hgm
          clear HFi HGv
          go_wp2_with (at_builtin; refine named1 (p := wpList _ _ _ _ _) ?_; intro w6 hb6 B53; have hO := HO.out.later hb6; refine wpList_grow rfl (.tmp 47) (.tmp 49) 41 rfl elem_int rfl hO rfl B53 rfl (by omega) rfl (n := i) (by simp [ivs]) (by omega) (by omega) (Nat.le_trans hsz hb6.size) ?_; intro a' c' W' hO' hb' hg'; have HT6 := Lib.hid ((HT.out.next hb6).ownr hO hg'); have HK6 := Lib.hid ((HK.out.later hb6).own hO hg'); have HH6 : Hid (HrAt W' w2.heap.size tb) := Lib.hid (Box.keep (HH.out.later hb6) (KeepT.grown hO (by decide) hg')); have hbx6 := Lib.hid (Box.keep (hbx.later hb6) (KeepT.grown hO (by decide) hg')); clear hg' hO B53 hb' hb6)
          have HN : Hid (Own W' w1.heap.size 3 1 (.slice a' (i + 1) c') (ivs ((List.range (i + 1)).map g))) := by
            rw [Hid, HGi.out]; exact hO'
          clear hO'
          go_roundw
          case rel => exact ⟨i + 1, by omega, by go_num, HT6.out, HK6.out, HH6.out, hbx6.out, HN.out⟩
          case measure => simp [intOf]; omega
        · have hgm : gv = tb i := by rw [HGv.out, HFi.out, if_neg hgr]
          clear HFi HGv
          subst hgm
          go_wp2_with (at_builtin; refine named1 (p := wpList _ _ _ _ _) ?_; intro w6 hb6 B53; have hO := HO.out.later hb6; refine wpList_grow rfl (.tmp 47) (.tmp 49) 41 rfl elem_int rfl hO rfl B53 rfl (by omega) rfl (n := i) (by simp [ivs]) (by omega) (by omega) (Nat.le_trans hsz hb6.size) ?_; intro a' c' W' hO' hb' hg'; have HT6 := Lib.hid ((HT.out.next hb6).ownr hO hg'); have HK6 := Lib.hid ((HK.out.later hb6).own hO hg'); have HH6 : Hid (HrAt W' w2.heap.size tb) := Lib.hid (Box.keep (HH.out.later hb6) (KeepT.grown hO (by decide) hg')); have hbx6 := Lib.hid (Box.keep (hbx.later hb6) (KeepT.grown hO (by decide) hg')); clear hg' hO B53 hb' hb6)
          have HN : Hid (Own W' w1.heap.size 3 1 (.slice a' (i + 1) c') (ivs ((List.range (i + 1)).map g))) := by
            rw [Hid, HGi.out]; exact hO'
          clear hO'
          go_roundw
          case rel => exact ⟨i + 1, by omega, by go_num, HT6.out, HK6.out, HH6.out, hbx6.out, HN.out⟩
          case measure => simp [intOf]; omega
      · obtain rfl : i = L.st.length := by omega
        obtain ⟨ra, rc, rfl, _, hr⟩ := HO.out.row
        have hl : (ivs ((List.range L.st.length).map g)).length = (Land.fins L f s c (-1)).length := by rw [← HFs.out, List.length_map]
        have hO2 : Own wr w.heap.size 3 1 (.slice ra (Land.fins L f s c (-1)).length rc) (ivs (Land.fins L f s c (-1))) := by
          have h5 := HO.out.mono HW.out.size
          rw [hl] at h5
          rw [← HFs.out] at h5
          exact h5
        rw [hl]
        have HRw := Lib.hid hO2
        have HW2 := Lib.hid (over_turn HW.out HT.out HK.out HN0.out)
        clear hr HO HT HK hl hO2
        go_wp2_with fail
        go_ret2
        rw [H1.out]
        exact ⟨ra, rc, rfl, HW2.out, HRw.out⟩
theorem Earliest_any (q : LV) (L : Land) (fr st k : Int) (w : World) (hL : LandAt w q L) (hs : Small L) :
    Calls Tryz.prog 9 #[landV q L, .int .i64 fr, .int .i64 st, .int .i64 k] w (RetL (Land.earlE L fr st k) w) :=
  (EarliestO_any q L fr st k w hL hs).mono fun _ _ ⟨a, c, he, hb, hO⟩ => ⟨a, c, he, hb, hO.rowAt.2.2⟩
end Go.Proofs.YtingfmdbihbamaaGreat
end
