/- A land at work, the walks: the reason, and the first wall. -/
import Derived.Test.YtmfnkmmbihmjnaaIter1
open Go.RowKit Go.Shelf
namespace Go.Proofs.Ytmfnkmmbihmjnaa
open Go.Hill
attribute [local go_sem] Oper.semAt_some

/-- Two variables are written. -/
theorem two_set {W : World} {b8 b9 : Nat} {x y : Value} {T T' : TypeId} (B8 : Box W b8 #[x] T) (B9 : Box W b9 #[y] T') (hne : b8 ≠ b9) (u v : Value) :
    Box ((W.setCell ⟨b8, 0, none⟩ u).setCell ⟨b9, 0, none⟩ v) b8 #[u] T ∧ Box ((W.setCell ⟨b8, 0, none⟩ u).setCell ⟨b9, 0, none⟩ v) b9 #[v] T' := by
  have h1 := setCell_box B8 0 u
  have h2 := (setCell_but W b8 0 u).box B9 (Ne.symm hne)
  exact ⟨(setCell_but _ b9 0 v).box h1 hne, setCell_box h2 0 v⟩
theorem two_grown {w W : World} {b8 b9 : Nat} {row : Option Nat} (hg : w.grownBy W row) (h8 : w.heap.size ≤ b8) (h9 : w.heap.size ≤ b9) (u v : Value) : w.grownBy ((W.setCell ⟨b8, 0, none⟩ u).setCell ⟨b9, 0, none⟩ v) row :=
  ⟨hg.os, hg.tape, hg.output, by simpa [World.setCell] using hg.size, fun k hk hne => by
    rw [(setCell_but _ b9 0 v).block k (by omega), (setCell_but W b8 0 u).block k (by omega)]
    exact hg.block k hk hne⟩

theorem grown_drew {w W : World} {row : Option Nat} (h : w.grownBy W row) : w.grownBy W.drew row := ⟨h.os, h.tape, h.output, h.size, h.block⟩
theorem two_memo {W : World} {bm b8 b9 : Nat} {L : Land} {av : Nat → Prop} (h : Memo W bm L av) (a8 : av b8) (a9 : av b9) (n8 : b8 ≠ bm) (n9 : b9 ≠ bm) (u v : Value) : Memo ((W.setCell ⟨b8, 0, none⟩ u).setCell ⟨b9, 0, none⟩ v) bm L av :=
  (h.but (setCell_but W b8 0 u) a8 n8).but (setCell_but _ b9 0 v) a9 n9

theorem range_end {w w6 W1 W2 : World} {bw bm b8 b9 D : Nat} {q : LV} {L : Land} {AV : Nat → Prop} {T8 T9 : TypeId} {x8 x9 : Value} (HG : w.grownBy w6 (some bm)) (hw6 : WorkAt w6 bw bm q L AV) (D8 : Box w6 b8 #[x8] T8) (D9 : Box w6 b9 #[x9] T9)
    (hne : b8 ≠ b9) (h8 : w.heap.size ≤ b8) (h9 : w.heap.size ≤ b9) (a8 : AV b8) (a9 : AV b9) (hb : Below w6.heap.size w6 W1) (u v : Value)
    (h2 : Below w6.heap.size ((W1.setCell ⟨b8, 0, none⟩ u).setCell ⟨b9, 0, none⟩ v) W2) (hK : W2.heap[D]? = some (.deferred (some []))) (hD : w6.heap.size ≤ D) :
    Box (W2.putObj D (.deferred none)) b8 #[u] T8 ∧ Box (W2.putObj D (.deferred none)) b9 #[v] T9 ∧ w.grownBy (W2.putObj D (.deferred none)) (some bm) ∧ Memo (W2.putObj D (.deferred none)) bm L AV := by
  have n8 := hw6.ne D8
  have n9 := hw6.ne D9
  have l8 := D8.lt
  have l9 := D9.lt
  have hlt : D < W2.heap.size := (Array.getElem?_eq_some_iff.1 hK).1
  obtain ⟨E8, E9⟩ := two_set (D8.later hb) (D9.later hb) hne u v
  have far : ∀ k, k < w6.heap.size → (W2.putObj D (.deferred none)).heap[k]? = ((W1.setCell ⟨b8, 0, none⟩ u).setCell ⟨b9, 0, none⟩ v).heap[k]? := fun k hk => by
    rw [World.putObj_heap_other (show k ≠ D by omega), h2.block k hk]
  have same : ∀ k, k < w6.heap.size → k ≠ b8 → k ≠ b9 → (W2.putObj D (.deferred none)).heap[k]? = w6.heap[k]? := fun k hk e8 e9 => by
    rw [far k hk, (setCell_but _ b9 0 v).block k e9, (setCell_but W1 b8 0 u).block k e8, hb.block k hk]
  refine ⟨(far b8 l8).trans E8, (far b9 l9).trans E9, ⟨?_, ?_, ?_, ?_, fun k hk hne' => ?_⟩, hw6.memo.same fun k hk hor => ?_⟩
  · exact (h2.os.trans hb.os).trans HG.os
  · exact (h2.tape.trans hb.tape).trans HG.tape
  · exact (h2.output.trans hb.output).trans HG.output
  · rw [World.putObj_size]; have := HG.size; omega
  · rw [same k (Nat.lt_of_lt_of_le hk HG.size) (by omega) (by omega)]; exact HG.block k hk hne'
  · refine same k hk (fun e => ?_) (fun e => ?_)
    · subst e; rcases hor with h | h
      · exact h a8
      · exact n8 h
    · subst e; rcases hor with h | h
      · exact h a9
      · exact n9 h

theorem enters106 : ∀ args w, (callFunc 106 args).run Try.prog w = .ok (.enter 106 args) w := fun _ _ => by kernel_rfl

set_option maxRecDepth 100000 in
set_option maxHeartbeats 4000000 in
theorem why_any (bw bm : Nat) (q : LV) (L : Land) (av : Nat → Prop) (i j k t : Nat) (a b : Stn) (s : Sn) (cs : List Cd) (w : World) (hw : WorkAt w bw bm q L av) (hav : ∀ b, av b → b < w.heap.size) (hF : Fits L)
    (l1 : L.st.length ≤ 1000) (l2 : L.rd.length ≤ 1000) (l3 : L.cs.length ≤ 1000) (_l4 : L.sn.length ≤ 1000) (lc : cs.length ≤ 1000) (hi : L.st[i]? = some a) (hj : L.st[j]? = some b) (hk : L.cs[k]? = some cs) (ht : L.sn[t]? = some s) (r : Int × Int) (hr : L.why i j k t = r) :
    Calls Try.prog 61 #[.pointer (some ⟨bw, 0, none⟩), pairV i j, .int .i64 k, .int .i64 t] w (RetW (.tuple #[.int .u8 r.1, .int .i64 r.2]) bw bm q L av w) := by
  have HW := Lib.hid hw
  have HAv := Lib.hid hav
  have HF := Lib.hid hF
  have HI := Lib.hid hi
  have HJ := Lib.hid hj
  have HK := Lib.hid hk
  have HT := Lib.hid ht
  have HR := Lib.hid hr
  have B1 := hw.box
  have k1 : i < L.st.length := (List.getElem?_eq_some_iff.1 hi).1
  have k4 : t < L.sn.length := (List.getElem?_eq_some_iff.1 ht).1
  obtain ⟨p1, o1, ea1, hC1⟩ := hw.land.st.at k1
  obtain ⟨p4, o4, ea4, hC4⟩ := hw.land.sn.at k4
  have r1 : (0 : Int) ≤ (i : Int) := by omega
  have r2 : (i : Int) < (L.st.length : Int) := by omega
  have r5 : (0 : Int) ≤ (t : Int) := by omega
  have r6 : (t : Int) < (L.sn.length : Int) := by omega
  obtain ⟨g0, g1, g2⟩ := cells_sn hC4 ht
  have z4 := block_lt_of_cell g0
  rw [ea1, ea4] at B1
  have HC1 := Lib.hid hC1
  have HC4 := Lib.hid hC4
  have HMir : Hid (∀ W, Below w.heap.size w W → Calls Try.prog 50 #[.pointer (some ⟨bw, 0, none⟩), .agg #[.int .i64 i, .int .i64 j], .int .i64 t] W (Ret (.int .i64 (needM s a b)) W)) := fun W hW =>
    mirrors_any q _ _ bw _ L.st L.sn i j t a b s W (hw.land.later hW).st (hw.land.later hW).sn hi hj ht (hF.st a (List.mem_of_getElem? hi)) (hF.st b (List.mem_of_getElem? hj)) (hF.sn s (List.mem_of_getElem? ht)) (hw.later hW).box
  obtain ⟨nm, hnm⟩ : ∃ nm, nm = needM s a b := ⟨_, rfl⟩
  rw [← hnm] at HMir
  have HN : Hid (L.need i j t = nm) := by unfold Hid Land.need; rw [ht, hi, hj, hnm]
  have HM : Hid (L.mir i = a.M) := by unfold Hid Land.mir; rw [hi]
  have HUp : Hid (L.up t = decide (0 < s.U)) := by unfold Hid Land.up; rw [ht]
  clear hw hav hF hi hj hk ht hr ea1 ea4 hC1 hC4 hnm k1 k4
  have hW3 : Below w.heap.size w (((w.alloc (.cells #[.int .i64 i, .int .i64 j] 95)).alloc (.cells #[.int .u8 0] 5)).alloc (.cells #[.int .i64 0] 3)) := (by repeat (first | exact Below.refl _ _ | refine al ?_ _ | refine Below.drew ?_ | refine sc ?_ (by simp) _))
  have c1 := (B1.later hW3).cell
  obtain ⟨f0, f1, f2⟩ := cells_sn (HC4.out.later hW3) HT.out
  clear g0 g1 g2 z4 hW3 f0 f1
  refine (callsIn_wide (n := 6)).1 ?_
  by_cases hU : s.U ≤ 0
  · have HR0 : Hid (r = (1, 0)) := HR.out.symm.trans (why_night (by rw [HUp.out]; simpa using hU))
    refine callsIn_of_wp_marks Try.func61 rfl trivial ?_ rfl
    simp only [Try.ntmps61, List.size_toArray, List.length_cons, List.length_nil, Nat.reduceAdd, Nat.reduceSub, Array.replicate_succ, Array.replicate_zero, List.push_toArray, List.append_toArray, List.nil_append, List.cons_append]
    gi_wp2
    refine ⟨.tuple #[.int .u8 1, .int .i64 0], by simp [results, Try.f61, go_sem], by rw [HR0.out], Below.grown (by repeat (first | exact Below.refl _ _ | refine al ?_ _ | refine Below.drew ?_ | refine sc ?_ (by simp) _)) _, HW.out.later (by repeat (first | exact Below.refl _ _ | refine al ?_ _ | refine Below.drew ?_ | refine sc ?_ (by simp) _))⟩
  · refine callsIn_of_wp_marks Try.func61 rfl trivial ?_ rfl
    simp only [Try.ntmps61, List.size_toArray, List.length_cons, List.length_nil, Nat.reduceAdd, Nat.reduceSub, Array.replicate_succ, Array.replicate_zero, List.push_toArray, List.append_toArray, List.nil_append, List.cons_append]
    gi_wp2
    refine named3 (p := Code.wpIn _ _ _ _ _ _) ?_
    intro W hW B5 B8 B9
    clear c1 f2
    (try clear c1 t1); replace B1 := B1.later hW; have c1 := B1.cell; have t1 := B1.lt
    have c5 := B5.cell; have t5 := B5.lt
    obtain ⟨e0, e1, e2, e3⟩ := cells_st (HC1.out.later hW) HI.out
    have z1 := block_lt_of_cell e0
    refine Fat.wpIn_region_tail 16 (by kernel_rfl) (by kernel_rfl) ?_
    simp only [List.take_succ_cons, List.drop_succ_cons, List.take_nil, List.drop_nil]
    repeat (go_big_quiet_step (exact Calls.regrown_of (HMir.out _ (over hW (below_regrown _ _ _)))))
    refine wpQuiet_nil ?_
    intro W1 hb1
    replace hW := over hW hb1
    replace B8 := B8.later hb1
    replace B9 := B9.later hb1
    (try clear c1 t1 c5 t5); replace B1 := B1.later hb1; replace B5 := B5.later hb1; have c1 := B1.cell; have t1 := B1.lt; have c5 := B5.cell; have t5 := B5.lt
    clear hb1 e0 e1 e2 e3 z1
    have hne : w.heap.size + 1 ≠ w.heap.size + 1 + 1 := by omega
    have HUT : Hid (L.up t = true) := by rw [Hid, HUp.out]; simpa using hU
    have HAV : Hid (∃ AV : Nat → Prop, AV = fun b => av b ∨ (w.heap.size ≤ b ∧ b ≤ w.heap.size + 1 + 1)) := ⟨_, rfl⟩
    obtain ⟨AV, hAV⟩ := HAV.out
    clear HAV
    have HW' : Hid (WorkAt w bw bm q L AV) := HW.out.more AV (fun b hb => by rw [hAV] at hb; rcases hb with hb | hb; exact .inl hb; exact .inr hb.1)
    have a8 : AV (w.heap.size + 1) := by rw [hAV]; exact .inr ⟨by omega, by omega⟩
    have a9 : AV (w.heap.size + 1 + 1) := by rw [hAV]; exact .inr ⟨by omega, by omega⟩
    have HBack : Hid (∀ b, av b → AV b) := fun b hb => by rw [hAV]; exact .inl hb
    have HFwd : Hid (∀ b, AV b → b ≤ w.heap.size + 1 + 1) := fun b hb => by
      rw [hAV] at hb
      rcases hb with hb | hb
      · have := HAv.out b hb; omega
      · exact hb.2
    clear hAV
    have HA8 := Lib.hid a8
    have HA9 := Lib.hid a9
    clear a8 a9
    have hw1 := HW'.out.later hW
    have n8 := hw1.ne B8
    have n9 := hw1.ne B9
    have HN8 := Lib.hid n8
    have HN9 := Lib.hid n9
    have HNe := Lib.hid hne
    have HW1 := Lib.hid hw1
    clear n8 n9 hne hw1
    by_cases hM : a.M < nm
    · have HR0 : Hid (r = (2, 0)) := HR.out.symm.trans (why_behind HUT.out (by rw [HN.out, HM.out]; exact hM))
      obtain ⟨C8, C9⟩ := two_set B8 B9 HNe.out (.int .u8 2) (.int .i64 0)
      have HC8 := Lib.hid C8
      have HC9 := Lib.hid C9
      clear C8 C9
      have hg := two_grown (Below.grown hW (some bm)) (b8 := w.heap.size + 1) (b9 := w.heap.size + 1 + 1) (by omega) (by omega) (.int .u8 2) (.int .i64 0)
      have HG := Lib.hid hg
      clear hg
      have f8 := B8.frozen
      have f9 := B9.frozen
      have c8 := B8.cell; have t8 := B8.lt; have c9 := B9.cell; have t9 := B9.lt
      gi_wp2
      refine ⟨.tuple #[.int .u8 2, .int .i64 0], by simp [results, Try.f61, go_sem, HC8.out.cell, HC9.out.cell], by rw [HR0.out], HG.out, HW.out.grown HG.out ((two_memo HW1.out.memo HA8.out HA9.out HN8.out HN9.out _ _).more av fun b hb => .inl (HBack.out b hb))⟩
    · have HMn : Hid (L.need i j t ≤ L.mir i) := by rw [Hid, HN.out, HM.out]; omega
      gi_wp2
      refine ⟨trivial, ?_⟩
      refine (callsIn_wide.2 (ridges_any bw bm q L AV i j a b W1 HW1.out (fun b hb => Nat.lt_of_le_of_lt (HFwd.out b hb) B9.lt) HF.out l2 l1 HI.out HJ.out)).mono ?_
      rintro e w5 ⟨ra, rc, rfl, hg5, hw5, hr5⟩
      have hg := grown_trans (Below.grown hW (some bm)) hg5
      have D5 := HW1.out.keep B5 hg5
      have D8 := HW1.out.keep B8 hg5
      have D9 := HW1.out.keep B9 hg5
      have HD8 := Lib.hid D8
      have HD9 := Lib.hid D9
      have HG := Lib.hid hg
      have HW5 := Lib.hid hw5
      have HR5 := Lib.hid hr5
      clear c1 t1 c5 t5 B1 B5 B8 B9 hg5 hw5 hr5 hg HW1 hW
      have c5 := D5.cell
      have t5 := D5.lt
      obtain ⟨n, hn⟩ : ∃ n, n = (L.rbs i j).length := ⟨_, rfl⟩
      rw [← hn]
      by_cases h0 : 0 < n
      · obtain ⟨x, hx⟩ : ∃ x, (L.rbs i j)[0]? = some x := ⟨(L.rbs i j)[0], by simp⟩
        have HR0 : Hid (r = (3, x)) := HR.out.symm.trans (why_ridge HUT.out (Int.not_lt.2 HMn.out) hx)
        obtain ⟨pb, po, rfl, hC⟩ := RowAt.at (k := 0) HR5.out.1 (by omega)
        have e0 : w5.cell? ⟨pb, po, none⟩ = some (.int .i64 x) := by simpa using cells_one (k := 0) hC hx
        have hne8 : pb ≠ w.heap.size + 1 := fun e => HR5.out.2 pb po rfl (fun h => by rw [h] at hx; cases hx) (e ▸ HA8.out)
        have e1 : (w5.setCell ⟨w.heap.size + 1, 0, none⟩ (.int .u8 3)).cell? ⟨pb, po, none⟩ = some (.int .i64 x) := by
          rw [← e0, World.cell?, World.cell?]
          simp only
          rw [(setCell_but w5 (w.heap.size + 1) 0 (.int .u8 3)).block pb hne8]
        obtain ⟨C8, C9⟩ := two_set D8 D9 HNe.out (.int .u8 3) (.int .i64 x)
        have HC8 := Lib.hid C8
        have HC9 := Lib.hid C9
        clear C8 C9 hne8
        have c8 := D8.cell
        have f8 := D8.frozen
        have c9 := D9.cell
        have f9 := D9.frozen
        clear hx hC hn
        gi_wp2
        gi_region
        all_goals
          gi_wp2
          have hgd := grown_drew (two_grown HG.out (b8 := w.heap.size + 1) (b9 := w.heap.size + 1 + 1) (by omega) (by omega) (.int .u8 3) (.int .i64 x))
          refine ⟨.tuple #[.int .u8 3, .int .i64 x], by simp [results, Try.f61, go_sem, HC8.out.cell, HC9.out.cell], by rw [HR0.out], hgd, HW.out.grown hgd (((two_memo HW5.out.memo HA8.out HA9.out HN8.out HN9.out _ _).later (Below.drew (Below.refl _ _))).more av fun b hb => .inl (HBack.out b hb))⟩
      · have hnil : L.rbs i j = [] := List.length_eq_zero_iff.1 (by omega)
        have HNil := Lib.hid hnil
        obtain rfl : n = 0 := by omega
        clear hnil hn
        gi_wp2
        refine ⟨trivial, ?_⟩
        refine (callsIn_wide.2 (clouds_mk bw i j k t w5)).mono ?_
        rintro e w6 ⟨b4, b5, b6, b7, rfl, hb6, C4, C5, C6, C7⟩
        have hw6 := HW5.out.later hb6
        have HG6 := grown_trans HG.out (Below.grown hb6 (some bm))
        replace D8 := D8.later hb6
        replace D9 := D9.later hb6
        have HS6 := Lib.hid (clouds_stops 4 b4 b5 b6 b7 bw bm q L AV i j k t a b cs w6 hw6 HF.out HK.out lc l1 l3 HI.out HJ.out C4 C5 C6 C7)
        have HW6 := Lib.hid hw6
        have HG6' := Lib.hid HG6
        clear hw6 HG6 C4 C5 C6 C7 hb6 D5 c5 t5
        gi_wp2
        refine wpIn_rangeFunc_ownG (α := Nat) rfl (by omega) (gf := 106) (lb := #[.pointer (some ⟨b4, 0, none⟩), .pointer (some ⟨b6, 0, none⟩), .pointer (some ⟨b7, 0, none⟩), .pointer (some ⟨b5, 0, none⟩)]) rfl trivial enters106 HS6.out belowK_t (belowK_b (Nat.le_refl _)) (Below.refl _ _) (fun _ => rfl)
          (fun pre W => pre = [] ∧ Below w6.heap.size w6 W)
          (fun c pre W => c = .ret ∧ ∃ x W1, pre = [x] ∧ Below w6.heap.size w6 W1 ∧ Below w6.heap.size ((W1.setCell ⟨w.heap.size + 1, 0, none⟩ (.int .u8 4)).setCell ⟨w.heap.size + 1 + 1, 0, none⟩ (.int .i64 (x : Nat))) W)
          (OwnFrom.and (ownFrom_pure _ _) (ownFrom_below (Nat.le_refl _) (Nat.le_refl _)))
          (fun c s X Y row ⟨hc, x, W1, h1, h2, h3⟩ hg hr => ⟨hc, x, W1, h1, h2, h3.grown hg (Nat.le_trans h2.size (by simpa [World.setCell] using h3.size)) (fun k e => (hr k e).1)⟩)
          ⟨rfl, Below.refl _ _⟩ ?a1 ?assign ?body ?done ?stop
        case assign =>
          intro l x W K hK
          gi_wp2
          exact hK
        case body =>
          rintro l pre x W ⟨rfl, hb⟩ _
          have E8 := D8.later hb
          have E9 := D9.later hb
          have c8 := E8.cell
          have f8 := E8.frozen
          have c9 := E9.cell
          have f9 := E9.frozen
          gi_wp2
          exact ⟨((KeepsOthers.setCell W ⟨w.heap.size + 1, 0, none⟩ (.int .u8 4)).trans (KeepsOthers.setCell _ ⟨w.heap.size + 1 + 1, 0, none⟩ (.int .i64 x))).from _, rfl, x, W, rfl, hb, Below.refl _ _⟩
        case done =>
          rintro D ys W hD hys ⟨hnil, hb⟩ hK
          have HR0 : Hid (r = (0, 0)) := HR.out.symm.trans (why_free HUT.out (Int.not_lt.2 HMn.out) HNil.out (by unfold Land.cbs Land.kase; rw [HK.out, Option.getD_some, sel_eq, ← hys, hnil]; rfl))
          have E8 := D8.later hb
          have E9 := D9.later hb
          have c8 := E8.cell
          have f8 := E8.frozen
          have c9 := E9.cell
          have f9 := E9.frozen
          have hK' := ((KeepsOthers.setCell W ⟨w.heap.size + 1, 0, none⟩ (.int .u8 0)).trans (KeepsOthers.setCell _ ⟨w.heap.size + 1 + 1, 0, none⟩ (.int .i64 0))).same D _ hK rfl
          obtain ⟨Z8, Z9, ZG, ZM⟩ := range_end HG6'.out HW6.out D8 D9 HNe.out (by omega) (by omega) HA8.out HA9.out hb (.int .u8 0) (.int .i64 0) (Below.refl _ _) hK' hD
          have HZ8 := Lib.hid Z8
          have HZ9 := Lib.hid Z9
          have HZM := Lib.hid ZM
          have HKK := Lib.hid hK'
          clear Z8 Z9 ZM hys hnil hK hK' E8 E9
          gi_wp2
          refine ⟨by simp, .inl ⟨_, _, rfl, run_takeDeferred HKK.out, ?_⟩⟩
          refine ⟨.tuple #[.int .u8 0, .int .i64 0], by simp [results, Try.f61, go_sem, HZ8.out.cell, HZ9.out.cell], by rw [HR0.out], ZG, HW.out.grown ZG (HZM.out.more av fun b hb => .inl (HBack.out b hb))⟩
        case stop =>
          rintro D c pre W hD ⟨hpre, _⟩ ⟨rfl, x, W1, rfl, h1, h2⟩ hK
          have hx : (L.cbs i j k t)[0]? = some (x : Int) := by
            unfold Land.cbs Land.kase
            rw [HK.out, Option.getD_some, sel_eq]
            obtain ⟨rest, hrest⟩ := hpre
            rw [← hrest]; rfl
          have HR0 : Hid (r = (4, (x : Int))) := HR.out.symm.trans (why_cloud HUT.out (Int.not_lt.2 HMn.out) HNil.out hx)
          obtain ⟨Z8, Z9, ZG, ZM⟩ := range_end HG6'.out HW6.out D8 D9 HNe.out (by omega) (by omega) HA8.out HA9.out h1 (.int .u8 4) (.int .i64 x) h2 hK hD
          have HZ8 := Lib.hid Z8
          have HZ9 := Lib.hid Z9
          have HZM := Lib.hid ZM
          have HKK := Lib.hid hK
          clear Z8 Z9 ZM hpre hx hK
          gi_wp2
          refine ⟨by simp, .inl ⟨_, _, rfl, run_takeDeferred HKK.out, ?_⟩⟩
          refine ⟨.tuple #[.int .u8 4, .int .i64 x], by simp [results, Try.f61, go_sem, HZ8.out.cell, HZ9.out.cell], by rw [HR0.out], ZG, HW.out.grown ZG (HZM.out.more av fun b hb => .inl (HBack.out b hb))⟩
end Go.Proofs.Ytmfnkmmbihmjnaa
