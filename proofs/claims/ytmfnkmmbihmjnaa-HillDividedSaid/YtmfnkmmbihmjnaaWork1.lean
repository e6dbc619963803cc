/- A land at work, the walks: the ridges that block between two stations, as they are remembered. -/
import Derived.Test.YtmfnkmmbihmjnaaMemo
open Go.RowKit
namespace Go.Proofs.Ytmfnkmmbihmjnaa
open Go.Hill

theorem elem_int : Elem Try.prog 30 3 1 8 := ⟨by kernel_rfl, by kernel_rfl⟩
abbrev ivs (l : List Int) : List (List Value) := l.map fun n => [Value.int .i64 n]
def RetInts (l : List Int) (bw bm : Nat) (q : LV) (L : Land) (av : Nat → Prop) (w : World) (e : Ending) (w' : World) : Prop :=
  ∃ a c, e = .returned (.slice a l.length c) ∧ w.grownBy w' (some bm) ∧ WorkAt w' bw bm q L av ∧ IntsOff w' av a l

theorem look_cls {W : World} {bm clock : Nat} {es : Array MapEntry} {v : Value} {i j : Int} (hm : MapIs W bm es clock)
    (h : ∀ W bm clock, MapIs W bm es clock → (Instr.lookup 125 (.map (some bm)) (pairV i j) true).run Try.prog W = .ok v W) (d : Nat) (os : Array Obj) :
    (Instr.lookup 125 (.map (some bm)) (pairV i j) true).run Try.prog (Sort.grow (redrawn W d) os) = .ok v (Sort.grow (redrawn W d) os) :=
  h _ bm clock (((below_regrown W d os).block bm (Array.getElem?_eq_some_iff.1 hm).1).trans hm)

set_option maxRecDepth 100000 in
set_option maxHeartbeats 4000000 in
theorem ridges_any (bw bm : Nat) (q : LV) (L : Land) (av : Nat → Prop) (i j : Nat) (a b : Stn) (w : World) (hw : WorkAt w bw bm q L av) (hav : ∀ b, av b → b < w.heap.size) (hF : Fits L) (l2 : L.rd.length ≤ 1000) (_l1 : L.st.length ≤ 1000) (hi : L.st[i]? = some a) (hj : L.st[j]? = some b) :
    Calls Try.prog 76 #[.pointer (some ⟨bw, 0, none⟩), pairV i j] w (RetInts (L.rbs i j) bw bm q L av w) := by
  obtain ⟨es, clock, hm, hp, hes⟩ := hw.memo
  have HW := Lib.hid hw
  have HM := Lib.hid hm
  have HP := Lib.hid hp
  have HE := Lib.hid hes
  have B1 := hw.box
  have hl := look_map hp i j
  clear hm hp hes
  rcases hl with ⟨hlook, hfresh⟩ | ⟨e, he, hk, hlook⟩
  case inr =>
    obtain ⟨ra, rc, hv, hr⟩ := HE.out i j e he hk
    rw [hv] at hlook
    have HL := Lib.hid hlook
    have HR := Lib.hid hr
    clear hav hlook hr he hk hv HE hw
    go_enter Try.func76, Try.ntmps76
    go_wp2_with fail
    refine named1 (p := Code.wp _ _ _ _) ?_
    intro W hW B3
    (try clear c1 t1); replace B1 := B1.later hW; have c1 := B1.cell; have t1 := B1.lt
    have c3 := B3.cell; have t3 := B3.lt
    have hlook := look_cls (W := W) ((hW.block bm (Array.getElem?_eq_some_iff.1 HM.out).1).trans HM.out) HL.out
    refine Fat.wp_region_tail 11 (by kernel_rfl) (by kernel_rfl) ?_
    simp only [List.take_succ_cons, List.drop_succ_cons, List.take_nil, List.drop_nil]
    repeat (go_big_quiet_step (fail))
    refine wpQuiet_nil ?_
    intro w1 hb1
    replace hW := over hW hb1
    clear hlook c1 t1 c3 t3 B1 B3 hb1
    go_wp2_with fail
    go_ret
    exact ⟨ra, rc, rfl, Below.grown hW _, HW.out.later hW, HR.out.1.later hW, HR.out.2⟩
  have HL := Lib.hid hlook
  have HFr := Lib.hid hfresh
  have k1 : i < L.st.length := (List.getElem?_eq_some_iff.1 hi).1
  have k2 : j < L.st.length := (List.getElem?_eq_some_iff.1 hj).1
  obtain ⟨p1, o1, ea1, hC1⟩ := hw.land.st.at k1
  have HC1 := Lib.hid hC1
  have HR2 := Lib.hid hw.land.rd
  rw [ea1] at B1
  generalize q.a2 = a2 at B1 HR2
  have HI := Lib.hid hi
  have HJ := Lib.hid hj
  have ha := hF.st a (List.mem_of_getElem? hi)
  have hbb := hF.st b (List.mem_of_getElem? hj)
  have HAv := Lib.hid hav
  have HRd : Hid (∀ s ∈ L.rd, s.In) := fun s hs => (hF.rd s hs).1
  have r1 : (0 : Int) ≤ (i : Int) := by omega
  have r2 : (i : Int) < (L.st.length : Int) := by omega
  have r3 : (0 : Int) ≤ (j : Int) := by omega
  have r4 : (j : Int) < (L.st.length : Int) := by omega
  clear hav hlook hfresh hw hC1 ea1 hi hj hF
  go_enter Try.func76, Try.ntmps76
  go_wp2_with fail
  refine named1 (p := Code.wp _ _ _ _) ?_
  intro W hW B3
  (try clear c1 t1); replace B1 := B1.later hW; have c1 := B1.cell; have t1 := B1.lt
  have c3 := B3.cell; have t3 := B3.lt
  have hlook := look_cls (W := W) ((hW.block bm (Array.getElem?_eq_some_iff.1 HM.out).1).trans HM.out) HL.out
  refine Fat.wp_region_tail 11 (by kernel_rfl) (by kernel_rfl) ?_
  simp only [List.take_succ_cons, List.drop_succ_cons, List.take_nil, List.drop_nil]
  repeat (go_big_quiet_step (fail))
  refine wpQuiet_nil ?_
  intro W1 hb1
  replace hW := over hW hb1
  (try clear c1 t1 c3 t3); replace B1 := B1.later hb1; replace B3 := B3.later hb1; have c1 := B1.cell; have t1 := B1.lt; have c3 := B3.cell; have t3 := B3.lt
  clear hlook hb1
  go_wp2_with fail
  clear W
  obtain ⟨W, rfl⟩ : ∃ W : World, W = W1 := ⟨_, rfl⟩
  go_loopw [5, 26] (fun v i' wr => ∃ k : Nat, k ≤ L.rd.length ∧ i' = .int .i64 k ∧ Below W.heap.size W wr ∧ Own wr W.heap.size 3 1 v (ivs (sel (L.rb i j) k))) (fun _ i' _ => L.rd.length - (intOf i').toNat)
  case atStart => exact ⟨0, Nat.zero_le _, rfl, Below.refl _ _, Own.nil _ _ _ _⟩
  case round =>
    obtain ⟨k, hk, rfl, hb, ho⟩ := hrel
    have HO := Lib.hid ho
    clear ho
    (try clear c1 t1 c3 t3); replace B1 := B1.later hb; replace B3 := B3.later hb; have c1 := B1.cell; have t1 := B1.lt; have c3 := B3.cell; have t3 := B3.lt
    by_cases hlt : k < L.rd.length
    · obtain ⟨p2, o2, rfl, hC2⟩ := RowAt.at HR2.out hlt
      obtain ⟨x, hx⟩ : ∃ x, L.rd[k]? = some x := ⟨L.rd[k], by simp⟩
      obtain ⟨e0, e1, e2, e3, e4, e5⟩ := cells_wl ((hC2.later hW).later hb) hx
      have z2 := block_lt_of_cell e0
      have hs := HRd.out x (List.mem_of_getElem? hx)
      have hrb : L.rb i j k = blk x a b := by unfold Land.rb; rw [hx, HI.out, HJ.out]
      obtain ⟨rb, hrbv⟩ : ∃ rb, rb = L.rb i j k := ⟨_, rfl⟩
      have HCall : Hid (∀ w', Calls Try.prog 56 #[.agg #[.int .i64 x.X1, .int .i64 x.Y1, .int .i64 x.X2, .int .i64 x.Y2, .int .i64 x.B, .int .i64 x.T], .agg #[.int .i64 a.X, .int .i64 a.Y, .int .i64 a.Z, .int .i64 a.M], .agg #[.int .i64 b.X, .int .i64 b.Y, .int .i64 b.Z, .int .i64 b.M]] w' (Ret (.bool rb) w')) := fun w' => by rw [hrbv, hrb]; exact blocks_any x a b w' ha hbb hs
      have HRb := Lib.hid hrbv
      clear hx hC2 hrb hrbv hs
      go_wp2_with fail
      obtain ⟨wo, rfl⟩ : ∃ wo : World, wo = wr := ⟨_, rfl⟩
      refine named1 (p := Code.wp _ _ _ _) ?_
      intro w4 hb4 B8
      replace hb := over hb hb4
      (try clear c1 t1 c3 t3); replace B1 := B1.later hb4; replace B3 := B3.later hb4; have c1 := B1.cell; have t1 := B1.lt; have c3 := B3.cell; have t3 := B3.lt
      have c8 := B8.cell; have t8 := B8.lt
      clear e0 e1 e2 e3 e4 e5 z2
      obtain ⟨e0, e1, e2, e3⟩ := cells_st ((HC1.out.later hW).later hb) HI.out
      obtain ⟨f0, f1, f2, f3⟩ := cells_st ((HC1.out.later hW).later hb) HJ.out
      have z1 := block_lt_of_cell e0
      have HO4 := Lib.hid (HO.out.later hb4)
      clear HO hb4
      refine Fat.wp_region_tail 20 (by kernel_rfl) (by kernel_rfl) ?_
      simp only [List.take_succ_cons, List.drop_succ_cons, List.take_nil, List.drop_nil]
      repeat (go_big_quiet_step (exact Calls.regrown_of (HCall.out _)))
      refine wpQuiet_nil ?_
      intro w5 hb5
      replace hb := over hb hb5
      (try clear c1 t1 c3 t3); replace B1 := B1.later hb5; replace B3 := B3.later hb5; have c1 := B1.cell; have t1 := B1.lt; have c3 := B3.cell; have t3 := B3.lt
      have HO5 := Lib.hid (HO4.out.later hb5)
      clear HO4 hb5 e0 e1 e2 e3 f0 f1 f2 f3 z1 c8 t8 B8
      cases rb with
      | false =>
        go_wp2_with fail
        go_roundw
        case rel => exact ⟨k + 1, by omega, by go_num, hb, by rw [sel_no HRb.out.symm]; exact HO5.out⟩
        case measure => simp [intOf]; omega
      | true =>
        have hn := sel_len (L.rb i j) k
        go_wp2_with (at_builtin; refine named1 (p := wpList _ _ _ _ _) ?_; intro w6 hb6 B53; have hO := HO5.out.later hb6; refine wpList_grow rfl (.tmp 51) (.tmp 53) 30 rfl elem_int rfl hO rfl B53 rfl (by omega) rfl (n := (sel (L.rb i j) k).length) (by simp) (by omega) (by omega) (Nat.le_trans hb.size hb6.size) ?_; intro a' c' W' hO' hb' hg'; have hb := (over hb hb6).trans hb'; clear hg' hO B53 hb' hb6)
        have HN : Hid (Own W' W.heap.size 3 1 (.slice a' ((sel (L.rb i j) k).length + 1) c') (ivs (sel (L.rb i j) (k + 1)))) := by
          rw [Hid, sel_yes HRb.out.symm, ivs, List.map_append]; exact hO'
        clear hO'
        go_roundw
        case rel => exact ⟨k + 1, by omega, by go_num, hb, HN.out⟩
        case measure => simp [intOf]; omega
    · obtain rfl : k = L.rd.length := by omega
      have ho := HO.out
      obtain ⟨ra, rc, rfl, _, hr⟩ := ho.row
      have HOff : Hid (∀ b o, ra = some ⟨b, o, none⟩ → sel (L.rb i j) L.rd.length ≠ [] → ¬ av b) := fun b o e _ hv => by
        subst e
        have h1 := ho.base
        have h2 := HAv.out b hv
        have h3 := hW.size
        omega
      rw [List.length_map]
      have HR := Lib.hid hr
      clear hr ho HO
      go_wp2_with fail
      refine Fat.wp_region_tail 6 (by kernel_rfl) (by kernel_rfl) ?_
      simp only [List.take_succ_cons, List.drop_succ_cons, List.take_zero, List.drop_zero]
      repeat (go_big_quiet_step (fail))
      refine wpQuiet_nil ?_
      intro w7 hb7
      replace hb := over hb hb7
      have hm7 : MapIs w7 bm es clock := ((over hW hb).block bm (Array.getElem?_eq_some_iff.1 HM.out).1).trans HM.out
      obtain ⟨w8, hrun, hm8, hg8⟩ := put_map HP.out HFr.out (.slice ra (sel (L.rb i j) L.rd.length).length rc) hm7
      have HM7 := Lib.hid hm7
      have HM8 := Lib.hid hm8
      have HR7 := Lib.hid (HR.out.later hb7)
      clear c1 t1 c3 t3 B1 B3 hb7 hm7 hm8 HR
      go_wp2_with fail
      go_ret
      have hE := HE.out
      exact ⟨ra, rc, rfl, grown_trans (Below.grown (over hW hb) _) hg8,
        ⟨(HW.out.later (over hW hb)).box.grown HM7.out hg8, (HW.out.later (over hW hb)).land.grown HM7.out hg8, Memo.put HM7.out HP.out
          (fun i' j' e he hk => by obtain ⟨a1, c1, h4, h5, h6⟩ := hE i' j' e he hk; exact ⟨a1, c1, h4, h5.later (over hW hb), h6⟩) ⟨HR7.out, HOff.out⟩ HM8.out hg8⟩, HR7.out.grown HM7.out hg8, HOff.out⟩
end Go.Proofs.Ytmfnkmmbihmjnaa
