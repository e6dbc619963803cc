/- The statement on lands that are moved and turned: its walk. -/
import Derived.Test.YtmfnkmmbihmjnaaAlike
import Derived.Deep.RegionHeld3
import Derived.Deep.DrawnRows
open Go.RowKit
namespace Go.Proofs.Ytmfnkmmbihmjnaa
open Go.Hill
attribute [local go_sem ↓] Go.wp_at_zero Go.wp_at_succ

theorem box_ne {W : World} {b b' : Nat} {c1 c2 : Array Value} {T1 T2 : TypeId} (h1 : Box W b c1 T1) (h2 : Box W b' c2 T2) (hT : T1 ≠ T2) : b ≠ b' := fun e => by
  subst e
  unfold Box at h1 h2
  rw [h1] at h2
  injection h2 with h2
  injection h2 with _ h3
  exact hT h3
/-- A copied land at work: it is as far moved as it is. -/
structure Mid (q q0 : LV) (L L1 : Land) (w : World) (n0 n13 : Nat) (wr : World) : Prop where
  below : Below w.heap.size w wr
  b5 : Box wr w.heap.size #[.slice q.a1 L.st.length q.c1, .slice q.a2 L.rd.length q.c2, .slice q.a3 L.cs.length q.c3, .slice q.a4 L.sn.length q.c4] 27
  b13 : Box wr n13 #[.slice q0.a1 L.st.length q0.c1, .slice q0.a2 L.rd.length q0.c2, .slice q0.a3 L.cs.length q0.c3, .slice q0.a4 L.sn.length q0.c4] 27
  land : LandR wr n0 q0 L1
theorem Mid.change {q q0 : LV} {L L1 L2 : Land} {w : World} {n0 n13 : Nat} {wr W' : World} {g : Nat} {cur : Array Value} {T : TypeId} (h : Mid q q0 L L1 w n0 n13 wr) (hB : Box wr g cur T) (hT : T ≠ 27) (hg : w.heap.size ≤ g) (hb : But g wr W') (hl : LandR W' n0 q0 L2) : Mid q q0 L L2 w n0 n13 W' := by
  have hne : ∀ {b cs}, Box wr b cs 27 → b ≠ g := fun {b cs} h2 e => by
    subst e
    unfold Box at h2 hB
    rw [hB] at h2
    cases h2; exact hT rfl
  exact ⟨hb.below h.below hg, hb.box h.b5 (hne h.b5), hb.box h.b13 (hne h.b13), hl⟩
theorem Mid.later {q q0 : LV} {L L1 : Land} {w : World} {n0 n13 : Nat} {wr W' : World} (h : Mid q q0 L L1 w n0 n13 wr) (hb : Below wr.heap.size wr W') : Mid q q0 L L1 w n0 n13 W' := ⟨over h.below hb, h.b5.later hb, h.b13.later hb, h.land.later hb⟩

theorem Mid.st {q q0 : LV} {L L1 : Land} {w : World} {n0 n13 : Nat} {wr : World} {g k : Nat} {a : Stn} (h : Mid q q0 L L1 w n0 n13 wr) (hi : L1.st[k]? = some a) (hg : q0.a1 = some ⟨g, 0, none⟩) (hw : w.heap.size ≤ n0) (x y : Int) :
    Mid q q0 L (L1.setSt k ⟨x, y, a.Z, a.M⟩) w n0 n13 ((wr.setCell ⟨g, k * 4, none⟩ (.int .i64 x)).setCell ⟨g, k * 4 + 1, none⟩ (.int .i64 y)).drew := by
  obtain ⟨g1, cur, e1, hgn, hB, _⟩ := h.land.set hi
  rw [hg] at e1
  cases e1
  have := h.change hB (by decide) (by omega) ((setCell_but wr g (k * 4) (.int .i64 x)).trans (setCell_but _ g (k * 4 + 1) (.int .i64 y))) (h.land.set2 hi hg x y)
  exact this.later (Below.drew (Below.refl _ _))
theorem cell_aside6 {W : World} {b g p o0 o1 o2 o3 o4 o5 : Nat} {u0 u1 u2 u3 u4 u5 : Value} (h : b ≠ g) :
    ((((((W.setCell ⟨g, o0, none⟩ u0).setCell ⟨g, o1, none⟩ u1).setCell ⟨g, o2, none⟩ u2).setCell ⟨g, o3, none⟩ u3).setCell ⟨g, o4, none⟩ u4).setCell ⟨g, o5, none⟩ u5).cell? ⟨b, p, none⟩ = W.cell? ⟨b, p, none⟩ := by
  have k : ∀ (W : World) (o : Nat) (u : Value), (W.setCell ⟨g, o, none⟩ u).cell? ⟨b, p, none⟩ = W.cell? ⟨b, p, none⟩ := fun W o u => World.cell?_of_block ((setCell_but W g o u).block b h)
  rw [k, k, k, k, k, k]
theorem cells6 (W : World) (g o : Nat) (b : Wl) : W.setCells g o b.vs = ((((((W.setCell ⟨g, o, none⟩ (.int .i64 b.X1)).setCell ⟨g, o + 1, none⟩ (.int .i64 b.Y1)).setCell ⟨g, o + 2, none⟩ (.int .i64 b.X2)).setCell ⟨g, o + 3, none⟩ (.int .i64 b.Y2)).setCell ⟨g, o + 4, none⟩ (.int .i64 b.B)).setCell ⟨g, o + 5, none⟩ (.int .i64 b.T)) := rfl
theorem Mid.rd {q q0 : LV} {L L1 : Land} {w : World} {n0 n13 : Nat} {wr : World} {g k : Nat} {a : Wl} (h : Mid q q0 L L1 w n0 n13 wr) (hi : L1.rd[k]? = some a) (hg : q0.a2 = some ⟨g, 0, none⟩) (hw : w.heap.size ≤ n0) (b : Wl) :
    Mid q q0 L (L1.setRd k b) w n0 n13 ((((((wr.setCell ⟨g, k * 6, none⟩ (.int .i64 b.X1)).setCell ⟨g, k * 6 + 1, none⟩ (.int .i64 b.Y1)).setCell ⟨g, k * 6 + 2, none⟩ (.int .i64 b.X2)).setCell ⟨g, k * 6 + 3, none⟩ (.int .i64 b.Y2)).setCell ⟨g, k * 6 + 4, none⟩ (.int .i64 b.B)).setCell ⟨g, k * 6 + 5, none⟩ (.int .i64 b.T)) := by
  rw [← cells6]
  obtain ⟨g1, cur, e1, hgn, hB, _⟩ := h.land.ridge hi
  rw [hg] at e1
  cases e1
  exact h.change hB (by decide) (by omega) (setCells_form b.vs (k * 6) hB).2 (h.land.ridge6 hi hg b)
theorem stage_rd {M : Land} {l : List Wl} {f : Wl → Wl} {k : Nat} {a : Wl} (ha : l[k]? = some a) : ({ M with rd := stage f l k } : Land).setRd k (f a) = { M with rd := stage f l (k + 1) } := by
  unfold Land.setRd
  simp only [stage_set ha]
theorem stage_sn {M : Land} {l : List Sn} {f : Sn → Sn} {k : Nat} {a : Sn} (ha : l[k]? = some a) : ({ M with sn := stage f l k } : Land).setSn k (f a) = { M with sn := stage f l (k + 1) } := by
  unfold Land.setSn
  simp only [stage_set ha]
theorem stage_cs {M : Land} {l : List (List Cd)} {f : List Cd → List Cd} {k : Nat} {a : List Cd} (ha : l[k]? = some a) : ({ M with cs := stage f l k } : Land).setCs k (f a) = { M with cs := stage f l (k + 1) } := by
  unfold Land.setCs
  simp only [stage_set ha]
theorem setCs_self {M : Land} {k : Nat} {a : List Cd} (ha : M.cs[k]? = some a) : M.setCs k a = M := by
  have hk : k < M.cs.length := (List.getElem?_eq_some_iff.1 ha).1
  unfold Land.setCs
  have e : a = M.cs[k] := by rw [List.getElem?_eq_getElem hk] at ha; exact (Option.some.inj ha).symm
  rw [e, List.set_getElem_self]
theorem setCs_get {M : Land} {k : Nat} (a : List Cd) (hk : k < M.cs.length) : (M.setCs k a).cs[k]? = some a := by unfold Land.setCs; simp [hk]
theorem setCs_setCs (M : Land) (k : Nat) (a b : List Cd) : (M.setCs k a).setCs k b = M.setCs k b := by unfold Land.setCs; simp
theorem stage_id {α : Type} {f : α → α} (h : ∀ x, f x = x) (l : List α) (k : Nat) : stage f l k = l.map f := by
  have e : f = id := funext h
  unfold stage
  rw [e]; simp
theorem Mid.cd {q q0 : LV} {L L1 : Land} {w : World} {n0 n13 : Nat} {wr : World} {k i : Nat} {cs : List Cd} {c : Cd} (h : Mid q q0 L L1 w n0 n13 wr) (hk : L1.cs[k]? = some cs) (hi : cs[i]? = some c) (hw : w.heap.size ≤ n0) :
    ∃ (g g2 cap : Nat) (cur1 cur2 : Array Value), q0.a3 = some ⟨g, 0, none⟩ ∧ Box wr g cur1 59 ∧ Box wr g2 cur2 61 ∧ wr.cell? ⟨g, k, none⟩ = some (.slice (some ⟨g2, 0, none⟩) cs.length cap) ∧
      (∀ j v, c.vs[j]? = some v → wr.cell? ⟨g2, i * 8 + j, none⟩ = some v) ∧ ∀ W', Below wr.heap.size wr W' → ∀ b : Wl, Mid q q0 L (L1.setCs k (cs.set i ⟨b, c.fr, c.to⟩)) w n0 n13 ((((((W'.setCell ⟨g2, i * 8, none⟩ (.int .i64 b.X1)).setCell ⟨g2, i * 8 + 1, none⟩ (.int .i64 b.Y1)).setCell ⟨g2, i * 8 + 2, none⟩ (.int .i64 b.X2)).setCell ⟨g2, i * 8 + 3, none⟩ (.int .i64 b.Y2)).setCell ⟨g2, i * 8 + 4, none⟩ (.int .i64 b.B)).setCell ⟨g2, i * 8 + 5, none⟩ (.int .i64 b.T)) := by
  obtain ⟨g, g2, cap, cur1, cur2, e1, hg, hg2, hne, hB, hB2, hcell, hcells, _⟩ := h.land.cloud hk hi
  refine ⟨g, g2, cap, cur1, cur2, e1, hB, hB2, hcell, hcells, fun W' hb b => ?_⟩
  rw [← cells6]
  have h' := h.later hb
  obtain ⟨g', g2', cap', _, _, e1', _, _, _, _, hB2', hcell', _, hset⟩ := h'.land.cloud hk hi
  rw [e1] at e1'
  cases e1'
  have e3 := (hb.cell (p := ⟨g, k, none⟩) hB.lt).trans hcell
  rw [hcell'] at e3
  cases e3
  exact h'.change hB2' (by decide) (by omega) (setCells_form b.vs (i * 8) hB2').2 (hset b)
theorem Mid.sn {q q0 : LV} {L L1 : Land} {w : World} {n0 n13 : Nat} {wr : World} {g k : Nat} {a : Sn} (h : Mid q q0 L L1 w n0 n13 wr) (hi : L1.sn[k]? = some a) (hg : q0.a4 = some ⟨g, 0, none⟩) (hw : w.heap.size ≤ n0) (x y : Int) :
    Mid q q0 L (L1.setSn k ⟨x, y, a.U⟩) w n0 n13 ((wr.setCell ⟨g, k * 3, none⟩ (.int .i64 x)).setCell ⟨g, k * 3 + 1, none⟩ (.int .i64 y)).drew := by
  obtain ⟨g1, cur, e1, hgn, hB, _⟩ := h.land.sun hi
  rw [hg] at e1
  cases e1
  have := h.change hB (by decide) (by omega) ((setCell_but wr g (k * 3) (.int .i64 x)).trans (setCell_but _ g (k * 3 + 1) (.int .i64 y))) (h.land.sun2 hi hg x y)
  exact this.later (Below.drew (Below.refl _ _))
theorem stage_st {L : Land} {f : Stn → Stn} {k : Nat} {a : Stn} (ha : L.st[k]? = some a) : ({ L with st := stage f L.st k } : Land).setSt k (f a) = { L with st := stage f L.st (k + 1) } := by
  unfold Land.setSt
  simp only [stage_set ha]

set_option maxRecDepth 100000 in
set_option maxHeartbeats 4000000 in
theorem HillMoved_any (q : LV) (L : Land) (c ea no : Nat) (tn : Bool) (w : World) (hL : LandAt w q L) (hs : Sane L) (hcc : c < 256) (hea : ea < 256) (hno : no < 256) :
    Calls Try.prog 15 #[landV q L, .int .u8 c, .int .u8 ea, .int .u8 no, .bool tn] w (Ret (.bool true) w) := by
  obtain ⟨tv, htv⟩ : ∃ tv, tv = readyB L := ⟨_, rfl⟩
  have HReady : Hid (∀ W, Below w.heap.size w W → Calls Try.prog 30 #[landV q L] W (Ret (.bool tv) W)) := fun W hW => by rw [htv]; exact ready_any q L W (hL.later hW) hs
  have HL := Lib.hid hL
  have HTv := Lib.hid htv
  clear hL hs htv
  go_enter Try.func15, Try.ntmps15
  go_wp2_with fail
  refine named1 (p := fun W => Calls _ _ _ W _) ?_
  intro W hW B5
  refine (HReady.out W hW).mono ?_
  rintro e w1 ⟨rfl, hb1⟩
  replace hW := over hW hb1
  (try clear c5 t5); replace B5 := B5.later hb1; have c5 := B5.cell; have t5 := B5.lt
  clear hb1 HReady
  cases tv with
  | false =>
    go_wp2_with fail
    refine (awake_any _).mono ?_
    rintro e w2 ⟨rfl, hb2⟩
    replace hW := over hW hb2
    clear hb2
    go_wp2_with fail
    go_ret
    exact ⟨rfl, hW⟩
  | true =>
    have R := ready_of HTv.out.symm
    have HR := Lib.hid R
    have HS := Lib.hid (small_of R.chk)
    obtain ⟨p1, p2, p3⟩ := pair_spec (c := c) R.st1
    have l1 := R.st1
    have l6 := R.st6
    have d6 := R.rd6
    have m4 := R.cs4
    have s12 := R.sn12
    clear R
    go_wp2_with fail
    refine (pair_any q L.st.length _ _ _ c _ l1 (by omega) hcc).mono ?_
    rintro e w2 ⟨rfl, hb2⟩
    replace hW := over hW hb2; (try clear c5 t5); replace B5 := B5.later hb2; have c5 := B5.cell; have t5 := B5.lt; clear hb2 
    generalize pairA L.st.length c = i at *
    generalize pairB L.st.length c = j at *
    have HIJ := Lib.hid p3
    clear p3
    have hlt3 : w.heap.size < w2.heap.size := t5
    go_wp2_with fail
    refine (copied_any q L w2 (HL.out.later hW) HS.out).mono ?_
    rintro e w4 ⟨q0, rfl, hb4, hR4⟩
    have hsz4 := hb4.size
    have HR4 := Lib.hid hR4
    replace hW := over hW hb4; (try clear c5 t5); replace B5 := B5.later hb4; have c5 := B5.cell; have t5 := B5.lt; clear hb4 hR4
    go_upto_region 5 with fail
    refine named1 (p := Code.wp _ _ _ _) ?_
    intro W5 hb5 B13
    replace HR4 := Lib.hid (HR4.out.later hb5)
    replace hW := over hW hb5; (try clear c5 t5); replace B5 := B5.later hb5; have c5 := B5.cell; have t5 := B5.lt; clear hb5 
    generalize w4.heap.size = n13 at *
    have HM5 := Lib.hid (show Mid q q0 L L w w2.heap.size n13 W5 from ⟨hW, B5, B13, HR4.out⟩)
    have hz1 : IntKind.i64.wrap (ea : Int) = (ea : Int) := IntWalk.i64_in _ (by omega)
    have hz2 : IntKind.i64.wrap (no : Int) = (no : Int) := IntWalk.i64_in _ (by omega)
    have he1 : -20 ≤ (ea : Int) % 40 - 20 ∧ (ea : Int) % 40 - 20 ≤ 20 := by omega
    have hn1 : -20 ≤ (no : Int) % 40 - 20 ∧ (no : Int) % 40 - 20 ≤ 20 := by omega
    go_upto_region 6 with fail
    obtain ⟨e, hee⟩ : ∃ e : Int, (ea : Int) % 40 - 20 = e := ⟨_, rfl⟩
    obtain ⟨n, hnn⟩ : ∃ n : Int, (no : Int) % 40 - 20 = n := ⟨_, rfl⟩
    rw [hee] at he1 ⊢
    rw [hnn] at hn1 ⊢
    obtain ⟨he1, he2⟩ := he1
    obtain ⟨hn1, hn2⟩ := hn1
    clear hee hnn hz1 hz2 hW B5 B13 c5 t5 HR4
    obtain ⟨n0, hn0⟩ : ∃ n0, n0 = w2.heap.size := ⟨_, rfl⟩
    rw [← hn0] at HM5 hlt3
    have hwn0 : w.heap.size < n0 := by omega
    clear hn0 hsz4
    rename World => W5x
    go_wp2_with fail
    go_loopw [16] (fun i' wr => ∃ k : Nat, k ≤ L.st.length ∧ i' = .int .i64 k ∧ Mid q q0 L { L with st := stage (Stn.mv e n tn) L.st k } w n0 n13 wr) (fun i' _ => L.st.length - (intOf i').toNat)
    case atStart => exact ⟨0, Nat.zero_le _, rfl, by rw [stage_zero]; exact HM5.out⟩
    case round =>
      obtain ⟨k, hk, rfl, hM⟩ := hrel
      have B13 := hM.b13
      have HM := Lib.hid hM
      by_cases hlt : k < L.st.length
      · obtain ⟨a, ha⟩ := some_of hlt
        obtain ⟨ax0, ax1, ay0, ay1, _, _⟩ := (fits HR.out.chk).st a (List.mem_of_getElem? ha)
        have hget : ({ L with st := stage (Stn.mv e n tn) L.st k } : Land).st[k]? = some a := by rw [← ha]; exact stage_get hlt
        obtain ⟨g, cur, hq, hgn, hBg, hcell, _⟩ := hM.land.set hget
        obtain ⟨o, ho⟩ : ∃ o : Nat, o = 0 := ⟨_, rfl⟩
        have hq2 : q0.a1 = some ⟨g, o, none⟩ := by rw [hq, ho]
        have cx : wr.cell? ⟨g, o + k * 4, none⟩ = some (.int .i64 a.X) := by rw [ho, Nat.zero_add]; exact hcell 0 _ rfl
        have cy : wr.cell? ⟨g, o + k * 4 + 1, none⟩ = some (.int .i64 a.Y) := by rw [ho, Nat.zero_add]; exact hcell 1 _ rfl
        have fg := hBg.frozen
        have tg := hBg.lt
        have r1 : (0 : Int) ≤ (k : Int) := by omega
        have r2 : (k : Int) < (L.st.length : Int) := by omega
        rw [hq2] at B13
        have HA := Lib.hid ha
        have HQ := Lib.hid hq
        have HO := Lib.hid ho
        have HBg := Lib.hid hBg
        have HGet := Lib.hid hget
        clear ha hget hq hq2 hcell hBg ho hM
        have c13 := B13.cell; have t13 := B13.lt
        have hw1 : IntKind.i64.wrap (a.X + e) = a.X + e := IntWalk.i64_in _ (by omega)
        have hw2 : IntKind.i64.wrap (a.Y + n) = a.Y + n := IntWalk.i64_in _ (by omega)
        go_wp2_with fail
        refine wp_region_noPanic ?_
        refine wp_region_held_drew (S := (fun _ => True)) (by kernel_rfl) (by (try dsimp only); skip) (fun hHeld => ?_)
        refine wpAnyH_take (i := 0) (oi := _) (v := ?_) rfl (by kernel_rfl) (by kernel_rfl) (by kernel_rfl) (fun _ _ _ h => h) (Or.inl ⟨by rfl, ?_⟩) (by assumption) ?_
        rotate_left
        · (intro w hSw; (try dsimp only at hSw); go_simp; try with_reducible rfl)
        (try dsimp only); (try simp only [Act.put]); (try simp only [List.setIfInBounds_toArray]); (try simp only [List.set_cons_succ]); (try simp only [List.set_cons_zero])
        refine wpAnyH_take (i := 1) (oi := _) (v := ?_) rfl (by kernel_rfl) (by kernel_rfl) (by kernel_rfl) (fun _ _ _ h => h) (Or.inl ⟨by rfl, ?_⟩) (by assumption) ?_
        rotate_left
        · (intro w hSw; (try dsimp only at hSw); go_simp; try with_reducible rfl)
        (try dsimp only); (try simp only [Act.put]); (try simp only [List.setIfInBounds_toArray]); (try simp only [List.set_cons_succ]); (try simp only [List.set_cons_zero])
        refine wpAnyH_take (i := 2) (oi := _) (v := ?_) rfl (by kernel_rfl) (by kernel_rfl) (by kernel_rfl) (fun _ _ _ h => h) (Or.inl ⟨by rfl, ?_⟩) (by assumption) ?_
        rotate_left
        · (intro w hSw; (try dsimp only at hSw); go_simp; try with_reducible rfl)
        (try dsimp only); (try simp only [Act.put]); (try simp only [List.setIfInBounds_toArray]); (try simp only [List.set_cons_succ]); (try simp only [List.set_cons_zero])
        refine wpAnyH_take (i := 3) (oi := _) (v := ?_) rfl (by kernel_rfl) (by kernel_rfl) (by kernel_rfl) (fun _ _ _ h => h) (Or.inl ⟨by rfl, ?_⟩) (by assumption) ?_
        rotate_left
        · (intro w hSw; (try dsimp only at hSw); go_simp; try with_reducible rfl)
        (try dsimp only); (try simp only [Act.put]); (try simp only [List.setIfInBounds_toArray]); (try simp only [List.set_cons_succ]); (try simp only [List.set_cons_zero])
        refine wpAnyH_take (i := 4) (oi := _) (v := ?_) rfl (by kernel_rfl) (by kernel_rfl) (by kernel_rfl) (fun _ _ _ h => h) (Or.inl ⟨by rfl, ?_⟩) (by assumption) ?_
        rotate_left
        · (intro w hSw; (try dsimp only at hSw); go_simp; try with_reducible rfl)
        (try dsimp only); (try simp only [Act.put]); (try simp only [List.setIfInBounds_toArray]); (try simp only [List.set_cons_succ]); (try simp only [List.set_cons_zero])
        refine wpAnyH_take (i := 6) (oi := _) (v := ?_) rfl (by kernel_rfl) (by kernel_rfl) (by kernel_rfl) (fun _ _ _ h => h) (Or.inl ⟨by rfl, ?_⟩) (by assumption) ?_
        rotate_left
        · (intro w hSw; (try dsimp only at hSw); go_simp; try with_reducible rfl)
        (try dsimp only); (try simp only [Act.put]); (try simp only [List.setIfInBounds_toArray]); (try simp only [List.set_cons_succ]); (try simp only [List.set_cons_zero])
        refine wpAnyH_take (i := 8) (oi := _) (v := ?_) rfl (by kernel_rfl) (by kernel_rfl) (by kernel_rfl) (fun _ _ _ h => h) (Or.inl ⟨by rfl, ?_⟩) (by assumption) ?_
        rotate_left
        · (intro w hSw; (try dsimp only at hSw); go_simp; try with_reducible rfl)
        (try dsimp only); (try simp only [Act.put]); (try simp only [List.setIfInBounds_toArray]); (try simp only [List.set_cons_succ]); (try simp only [List.set_cons_zero])
        refine wpAnyH_take (i := 9) (oi := _) (v := ?_) rfl (by kernel_rfl) (by kernel_rfl) (by kernel_rfl) (fun _ _ _ h => h) (Or.inl ⟨by rfl, ?_⟩) (by assumption) ?_
        rotate_left
        · (intro w hSw; (try dsimp only at hSw); go_simp; try with_reducible rfl)
        (try dsimp only); (try simp only [Act.put]); (try simp only [List.setIfInBounds_toArray]); (try simp only [List.set_cons_succ]); (try simp only [List.set_cons_zero])
        refine wpAnyH_take (i := 10) (oi := _) (v := ?_) rfl (by kernel_rfl) (by kernel_rfl) (by kernel_rfl) (fun _ _ _ h => h) (Or.inl ⟨by rfl, ?_⟩) (by assumption) ?_
        rotate_left
        · (intro w hSw; (try dsimp only at hSw); go_simp; try with_reducible rfl)
        (try dsimp only); (try simp only [Act.put]); (try simp only [List.setIfInBounds_toArray]); (try simp only [List.set_cons_succ]); (try simp only [List.set_cons_zero])
        refine wpAnyH_take (i := 12) (oi := _) (v := ?_) rfl (by kernel_rfl) (by kernel_rfl) (by kernel_rfl) (fun _ _ _ h => h) (Or.inl ⟨by rfl, ?_⟩) (by assumption) ?_
        rotate_left
        · (intro w hSw; (try dsimp only at hSw); go_simp; try with_reducible rfl)
        (try dsimp only); (try simp only [Act.put]); (try simp only [List.setIfInBounds_toArray]); (try simp only [List.set_cons_succ]); (try simp only [List.set_cons_zero])
        refine wpAnyH_ready (rs := [5, 11]) (by kernel_rfl) (by simp) ?_
        refine AllReadyH.cons (o := _) rfl (fun K hK => ?_) (AllReadyH.cons (o := _) rfl (fun K hK => ?_) AllReadyH.nil)
        go_simp
        refine hK.out _ _ (by (try dsimp only); skip) (fun hHeld => ?_)
        clear hK K
        (try dsimp only); (try simp only [Act.put]); (try simp only [List.setIfInBounds_toArray]); (try simp only [List.set_cons_succ]); (try simp only [List.set_cons_zero])
        refine wpAnyH_take (i := 7) (oi := _) (v := ?_) rfl (by kernel_rfl) (by kernel_rfl) (by kernel_rfl) (fun _ _ _ h => h) (Or.inl ⟨by rfl, ?_⟩) (by assumption) ?_
        rotate_left
        · (intro w hSw; (try dsimp only at hSw); go_simp; try with_reducible rfl)
        (try dsimp only); (try simp only [Act.put]); (try simp only [List.setIfInBounds_toArray]); (try simp only [List.set_cons_succ]); (try simp only [List.set_cons_zero])
        refine wpAnyH_ready (rs := [11]) (by kernel_rfl) (by simp) ?_
        refine AllReadyH.cons (o := _) rfl (fun K hK => ?_) AllReadyH.nil
        go_simp
        refine hK.out _ _ (by (try dsimp only); skip) (fun hHeld => ?_)
        clear hK K
        (try dsimp only); (try simp only [Act.put]); (try simp only [List.setIfInBounds_toArray]); (try simp only [List.set_cons_succ]); (try simp only [List.set_cons_zero])
        refine wpAnyH_take (i := 13) (oi := _) (v := ?_) rfl (by kernel_rfl) (by kernel_rfl) (by kernel_rfl) (fun _ _ _ h => h) (Or.inl ⟨by rfl, ?_⟩) (by assumption) ?_
        rotate_left
        · (intro w hSw; (try dsimp only at hSw); go_simp; try with_reducible rfl)
        (try dsimp only); (try simp only [Act.put]); (try simp only [List.setIfInBounds_toArray]); (try simp only [List.set_cons_succ]); (try simp only [List.set_cons_zero])
        refine wpAnyH_take (i := 14) (oi := _) (v := ?_) rfl (by kernel_rfl) (by kernel_rfl) (by kernel_rfl) (fun _ _ _ h => h) (Or.inl ⟨by rfl, ?_⟩) (by assumption) ?_
        rotate_left
        · (intro w hSw; (try dsimp only at hSw); go_simp; try with_reducible rfl)
        (try dsimp only); (try simp only [Act.put]); (try simp only [List.setIfInBounds_toArray]); (try simp only [List.set_cons_succ]); (try simp only [List.set_cons_zero])
        refine wpAnyH_take (i := 15) (oi := _) (v := ?_) rfl (by kernel_rfl) (by kernel_rfl) (by kernel_rfl) (fun _ _ _ h => h) (Or.inl ⟨by rfl, ?_⟩) (by assumption) ?_
        rotate_left
        · (intro w hSw; (try dsimp only at hSw); go_simp; try with_reducible rfl)
        (try dsimp only); (try simp only [Act.put]); (try simp only [List.setIfInBounds_toArray]); (try simp only [List.set_cons_succ]); (try simp only [List.set_cons_zero])
        refine wpAnyH_ready (rs := [16]) (by kernel_rfl) (by simp) ?_
        refine AllReadyH.cons (o := _) rfl (fun K hK => ?_) AllReadyH.nil
        go_simp
        refine hK.out _ _ (by (try dsimp only); skip) (fun hHeld => ?_)
        clear hK K
        (try dsimp only); (try simp only [Act.put]); (try simp only [List.setIfInBounds_toArray]); (try simp only [List.set_cons_succ]); (try simp only [List.set_cons_zero])
        refine wpAnyH_take (i := 17) (oi := _) (v := ?_) rfl (by kernel_rfl) (by kernel_rfl) (by kernel_rfl) (fun _ _ _ h => h) (Or.inl ⟨by rfl, ?_⟩) (by assumption) ?_
        rotate_left
        · (intro w hSw; (try dsimp only at hSw); go_simp; try with_reducible rfl)
        (try dsimp only); (try simp only [Act.put]); (try simp only [List.setIfInBounds_toArray]); (try simp only [List.set_cons_succ]); (try simp only [List.set_cons_zero])
        refine wpAnyH_take (i := 18) (oi := _) (v := ?_) rfl (by kernel_rfl) (by kernel_rfl) (by kernel_rfl) (fun _ _ _ h => h) (Or.inl ⟨by rfl, ?_⟩) (by assumption) ?_
        rotate_left
        · (intro w hSw; (try dsimp only at hSw); go_simp; try with_reducible rfl)
        (try dsimp only); (try simp only [Act.put]); (try simp only [List.setIfInBounds_toArray]); (try simp only [List.set_cons_succ]); (try simp only [List.set_cons_zero])
        refine wpAnyH_ready (rs := [19]) (by kernel_rfl) (by simp) ?_
        refine AllReadyH.cons (o := _) rfl (fun K hK => ?_) AllReadyH.nil
        go_simp
        refine hK.out _ _ (by (try dsimp only); skip) (fun hHeld => ?_)
        clear hK K
        (try dsimp only); (try simp only [Act.put]); (try simp only [List.setIfInBounds_toArray]); (try simp only [List.set_cons_succ]); (try simp only [List.set_cons_zero])
        refine wpAnyH_done (by kernel_rfl) ?_ _
        refine NoPanic.normal ?_
        rotate_left
        go_simp
        refine hK.out _ _ (by (try dsimp only); skip) (fun hHeld => ?_)
        clear hK K
        (try dsimp only); (try simp only [Act.put]); (try simp only [List.setIfInBounds_toArray]); (try simp only [List.set_cons_succ]); (try simp only [List.set_cons_zero])
        refine wpAnyH_take (i := 13) (oi := _) (v := ?_) rfl (by kernel_rfl) (by kernel_rfl) (by kernel_rfl) (fun _ _ _ h => h) (Or.inl ⟨by rfl, ?_⟩) (by assumption) ?_
        rotate_left
        · (intro w hSw; (try dsimp only at hSw); go_simp; try with_reducible rfl)
        (try dsimp only); (try simp only [Act.put]); (try simp only [List.setIfInBounds_toArray]); (try simp only [List.set_cons_succ]); (try simp only [List.set_cons_zero])
        refine wpAnyH_ready (rs := [5]) (by kernel_rfl) (by simp) ?_
        refine AllReadyH.cons (o := _) rfl (fun K hK => ?_) AllReadyH.nil
        go_simp
        refine hK.out _ _ (by (try dsimp only); skip) (fun hHeld => ?_)
        clear hK K
        (try dsimp only); (try simp only [Act.put]); (try simp only [List.setIfInBounds_toArray]); (try simp only [List.set_cons_succ]); (try simp only [List.set_cons_zero])
        refine wpAnyH_take (i := 7) (oi := _) (v := ?_) rfl (by kernel_rfl) (by kernel_rfl) (by kernel_rfl) (fun _ _ _ h => h) (Or.inl ⟨by rfl, ?_⟩) (by assumption) ?_
        rotate_left
        · (intro w hSw; (try dsimp only at hSw); go_simp; try with_reducible rfl)
        (try dsimp only); (try simp only [Act.put]); (try simp only [List.setIfInBounds_toArray]); (try simp only [List.set_cons_succ]); (try simp only [List.set_cons_zero])
        refine wpAnyH_take (i := 14) (oi := _) (v := ?_) rfl (by kernel_rfl) (by kernel_rfl) (by kernel_rfl) (fun _ _ _ h => h) (Or.inl ⟨by rfl, ?_⟩) (by assumption) ?_
        rotate_left
        · (intro w hSw; (try dsimp only at hSw); go_simp; try with_reducible rfl)
        (try dsimp only); (try simp only [Act.put]); (try simp only [List.setIfInBounds_toArray]); (try simp only [List.set_cons_succ]); (try simp only [List.set_cons_zero])
        refine wpAnyH_take (i := 15) (oi := _) (v := ?_) rfl (by kernel_rfl) (by kernel_rfl) (by kernel_rfl) (fun _ _ _ h => h) (Or.inl ⟨by rfl, ?_⟩) (by assumption) ?_
        rotate_left
        · (intro w hSw; (try dsimp only at hSw); go_simp; try with_reducible rfl)
        (try dsimp only); (try simp only [Act.put]); (try simp only [List.setIfInBounds_toArray]); (try simp only [List.set_cons_succ]); (try simp only [List.set_cons_zero])
        refine wpAnyH_ready (rs := [16]) (by kernel_rfl) (by simp) ?_
        refine AllReadyH.cons (o := _) rfl (fun K hK => ?_) AllReadyH.nil
        go_simp
        refine hK.out _ _ (by (try dsimp only); skip) (fun hHeld => ?_)
        clear hK K
        (try dsimp only); (try simp only [Act.put]); (try simp only [List.setIfInBounds_toArray]); (try simp only [List.set_cons_succ]); (try simp only [List.set_cons_zero])
        refine wpAnyH_take (i := 17) (oi := _) (v := ?_) rfl (by kernel_rfl) (by kernel_rfl) (by kernel_rfl) (fun _ _ _ h => h) (Or.inl ⟨by rfl, ?_⟩) (by assumption) ?_
        rotate_left
        · (intro w hSw; (try dsimp only at hSw); go_simp; try with_reducible rfl)
        (try dsimp only); (try simp only [Act.put]); (try simp only [List.setIfInBounds_toArray]); (try simp only [List.set_cons_succ]); (try simp only [List.set_cons_zero])
        refine wpAnyH_take (i := 18) (oi := _) (v := ?_) rfl (by kernel_rfl) (by kernel_rfl) (by kernel_rfl) (fun _ _ _ h => h) (Or.inl ⟨by rfl, ?_⟩) (by assumption) ?_
        rotate_left
        · (intro w hSw; (try dsimp only at hSw); go_simp; try with_reducible rfl)
        (try dsimp only); (try simp only [Act.put]); (try simp only [List.setIfInBounds_toArray]); (try simp only [List.set_cons_succ]); (try simp only [List.set_cons_zero])
        refine wpAnyH_ready (rs := [19]) (by kernel_rfl) (by simp) ?_
        refine AllReadyH.cons (o := _) rfl (fun K hK => ?_) AllReadyH.nil
        go_simp
        refine hK.out _ _ (by (try dsimp only); skip) (fun hHeld => ?_)
        clear hK K
        (try dsimp only); (try simp only [Act.put]); (try simp only [List.setIfInBounds_toArray]); (try simp only [List.set_cons_succ]); (try simp only [List.set_cons_zero])
        refine wpAnyH_done (by kernel_rfl) ?_ _
        refine NoPanic.normal ?_
        all_goals
          clear hw1 hw2
          have HMn : Hid (Mid q q0 L _ w n0 n13 _) := HM.out.st HGet.out HQ.out (by omega) (a.X + e) (a.Y + n)
          cases tn with
          | false =>
            go_wp2_with fail
            go_roundw
            case rel =>
              have ho := HO.out
              subst ho
              simp only [Nat.zero_add]
              refine ⟨k + 1, by omega, by go_num, ?_⟩
              rw [← stage_st HA.out]
              exact HMn.out
            case measure => simp [intOf]; omega
          | true =>
            go_wp2_with fail
            refine wp_region_noPanic ?_
            refine wp_region_held_drew (S := (fun _ => True)) (by kernel_rfl) (by (try dsimp only); skip) (fun hHeld => ?_)
            refine wpAnyH_take (i := 0) (oi := _) (v := ?_) rfl (by kernel_rfl) (by kernel_rfl) (by kernel_rfl) (fun _ _ _ h => h) (Or.inl ⟨by rfl, ?_⟩) (by assumption) ?_
            rotate_left
            · (intro w hSw; (try dsimp only at hSw); go_simp; try with_reducible rfl)
            (try dsimp only); (try simp only [Act.put]); (try simp only [List.setIfInBounds_toArray]); (try simp only [List.set_cons_succ]); (try simp only [List.set_cons_zero])
            refine wpAnyH_take (i := 1) (oi := _) (v := ?_) rfl (by kernel_rfl) (by kernel_rfl) (by kernel_rfl) (fun _ _ _ h => h) (Or.inl ⟨by rfl, ?_⟩) (by assumption) ?_
            rotate_left
            · (intro w hSw; (try dsimp only at hSw); go_simp; try with_reducible rfl)
            (try dsimp only); (try simp only [Act.put]); (try simp only [List.setIfInBounds_toArray]); (try simp only [List.set_cons_succ]); (try simp only [List.set_cons_zero])
            refine wpAnyH_take (i := 2) (oi := _) (v := ?_) rfl (by kernel_rfl) (by kernel_rfl) (by kernel_rfl) (fun _ _ _ h => h) (Or.inl ⟨by rfl, ?_⟩) (by assumption) ?_
            rotate_left
            · (intro w hSw; (try dsimp only at hSw); go_simp; try with_reducible rfl)
            (try dsimp only); (try simp only [Act.put]); (try simp only [List.setIfInBounds_toArray]); (try simp only [List.set_cons_succ]); (try simp only [List.set_cons_zero])
            refine wpAnyH_take (i := 3) (oi := _) (v := ?_) rfl (by kernel_rfl) (by kernel_rfl) (by kernel_rfl) (fun _ _ _ h => h) (Or.inl ⟨by rfl, ?_⟩) (by assumption) ?_
            rotate_left
            · (intro w hSw; (try dsimp only at hSw); go_simp; try with_reducible rfl)
            (try dsimp only); (try simp only [Act.put]); (try simp only [List.setIfInBounds_toArray]); (try simp only [List.set_cons_succ]); (try simp only [List.set_cons_zero])
            refine wpAnyH_take (i := 4) (oi := _) (v := ?_) rfl (by kernel_rfl) (by kernel_rfl) (by kernel_rfl) (fun _ _ _ h => h) (Or.inl ⟨by rfl, ?_⟩) (by assumption) ?_
            rotate_left
            · (intro w hSw; (try dsimp only at hSw); go_simp; try with_reducible rfl)
            (try dsimp only); (try simp only [Act.put]); (try simp only [List.setIfInBounds_toArray]); (try simp only [List.set_cons_succ]); (try simp only [List.set_cons_zero])
            refine wpAnyH_take (i := 6) (oi := _) (v := ?_) rfl (by kernel_rfl) (by kernel_rfl) (by kernel_rfl) (fun _ _ _ h => h) (Or.inl ⟨by rfl, ?_⟩) (by assumption) ?_
            rotate_left
            · (intro w hSw; (try dsimp only at hSw); go_simp; try with_reducible rfl)
            (try dsimp only); (try simp only [Act.put]); (try simp only [List.setIfInBounds_toArray]); (try simp only [List.set_cons_succ]); (try simp only [List.set_cons_zero])
            refine wpAnyH_take (i := 7) (oi := _) (v := ?_) rfl (by kernel_rfl) (by kernel_rfl) (by kernel_rfl) (fun _ _ _ h => h) (Or.inl ⟨by rfl, ?_⟩) (by assumption) ?_
            rotate_left
            · (intro w hSw; (try dsimp only at hSw); go_simp; try with_reducible rfl)
            (try dsimp only); (try simp only [Act.put]); (try simp only [List.setIfInBounds_toArray]); (try simp only [List.set_cons_succ]); (try simp only [List.set_cons_zero])
            refine wpAnyH_take (i := 8) (oi := _) (v := ?_) rfl (by kernel_rfl) (by kernel_rfl) (by kernel_rfl) (fun _ _ _ h => h) (Or.inl ⟨by rfl, ?_⟩) (by assumption) ?_
            rotate_left
            · (intro w hSw; (try dsimp only at hSw); go_simp; try with_reducible rfl)
            (try dsimp only); (try simp only [Act.put]); (try simp only [List.setIfInBounds_toArray]); (try simp only [List.set_cons_succ]); (try simp only [List.set_cons_zero])
            refine wpAnyH_ready (rs := [5, 9]) (by kernel_rfl) (by simp) ?_
            refine AllReadyH.cons (o := _) rfl (fun K hK => ?_) (AllReadyH.cons (o := _) rfl (fun K hK => ?_) AllReadyH.nil)
            go_simp
            refine hK.out _ _ (by (try dsimp only); skip) (fun hHeld => ?_)
            clear hK K
            (try dsimp only); (try simp only [Act.put]); (try simp only [List.setIfInBounds_toArray]); (try simp only [List.set_cons_succ]); (try simp only [List.set_cons_zero])
            refine wpAnyH_ready (rs := [9]) (by kernel_rfl) (by simp) ?_
            refine AllReadyH.cons (o := _) rfl (fun K hK => ?_) AllReadyH.nil
            go_simp
            refine hK.out _ _ (by (try dsimp only); skip) (fun hHeld => ?_)
            clear hK K
            (try dsimp only); (try simp only [Act.put]); (try simp only [List.setIfInBounds_toArray]); (try simp only [List.set_cons_succ]); (try simp only [List.set_cons_zero])
            refine wpAnyH_take (i := 10) (oi := _) (v := ?_) rfl (by kernel_rfl) (by kernel_rfl) (by kernel_rfl) (fun _ _ _ h => h) (Or.inl ⟨by rfl, ?_⟩) (by assumption) ?_
            rotate_left
            · (intro w hSw; (try dsimp only at hSw); go_simp; try with_reducible rfl)
            (try dsimp only); (try simp only [Act.put]); (try simp only [List.setIfInBounds_toArray]); (try simp only [List.set_cons_succ]); (try simp only [List.set_cons_zero])
            refine wpAnyH_take (i := 11) (oi := _) (v := ?_) rfl (by kernel_rfl) (by kernel_rfl) (by kernel_rfl) (fun _ _ _ h => h) (Or.inl ⟨by rfl, ?_⟩) (by assumption) ?_
            rotate_left
            · (intro w hSw; (try dsimp only at hSw); go_simp; try with_reducible rfl)
            (try dsimp only); (try simp only [Act.put]); (try simp only [List.setIfInBounds_toArray]); (try simp only [List.set_cons_succ]); (try simp only [List.set_cons_zero])
            refine wpAnyH_ready (rs := [12]) (by kernel_rfl) (by simp) ?_
            refine AllReadyH.cons (o := _) rfl (fun K hK => ?_) AllReadyH.nil
            go_simp
            refine hK.out _ _ (by (try dsimp only); skip) (fun hHeld => ?_)
            clear hK K
            (try dsimp only); (try simp only [Act.put]); (try simp only [List.setIfInBounds_toArray]); (try simp only [List.set_cons_succ]); (try simp only [List.set_cons_zero])
            refine wpAnyH_take (i := 13) (oi := _) (v := ?_) rfl (by kernel_rfl) (by kernel_rfl) (by kernel_rfl) (fun _ _ _ h => h) (Or.inl ⟨by rfl, ?_⟩) (by assumption) ?_
            rotate_left
            · (intro w hSw; (try dsimp only at hSw); go_simp; try with_reducible rfl)
            (try dsimp only); (try simp only [Act.put]); (try simp only [List.setIfInBounds_toArray]); (try simp only [List.set_cons_succ]); (try simp only [List.set_cons_zero])
            refine wpAnyH_take (i := 14) (oi := _) (v := ?_) rfl (by kernel_rfl) (by kernel_rfl) (by kernel_rfl) (fun _ _ _ h => h) (Or.inl ⟨by rfl, ?_⟩) (by assumption) ?_
            rotate_left
            · (intro w hSw; (try dsimp only at hSw); go_simp; try with_reducible rfl)
            (try dsimp only); (try simp only [Act.put]); (try simp only [List.setIfInBounds_toArray]); (try simp only [List.set_cons_succ]); (try simp only [List.set_cons_zero])
            refine wpAnyH_ready (rs := [15]) (by kernel_rfl) (by simp) ?_
            refine AllReadyH.cons (o := _) rfl (fun K hK => ?_) AllReadyH.nil
            go_simp
            refine hK.out _ _ (by (try dsimp only); skip) (fun hHeld => ?_)
            clear hK K
            (try dsimp only); (try simp only [Act.put]); (try simp only [List.setIfInBounds_toArray]); (try simp only [List.set_cons_succ]); (try simp only [List.set_cons_zero])
            refine wpAnyH_done (by kernel_rfl) ?_ _
            refine NoPanic.normal ?_
            rotate_left
            go_simp
            refine hK.out _ _ (by (try dsimp only); skip) (fun hHeld => ?_)
            clear hK K
            (try dsimp only); (try simp only [Act.put]); (try simp only [List.setIfInBounds_toArray]); (try simp only [List.set_cons_succ]); (try simp only [List.set_cons_zero])
            refine wpAnyH_ready (rs := [5]) (by kernel_rfl) (by simp) ?_
            refine AllReadyH.cons (o := _) rfl (fun K hK => ?_) AllReadyH.nil
            go_simp
            refine hK.out _ _ (by (try dsimp only); skip) (fun hHeld => ?_)
            clear hK K
            (try dsimp only); (try simp only [Act.put]); (try simp only [List.setIfInBounds_toArray]); (try simp only [List.set_cons_succ]); (try simp only [List.set_cons_zero])
            refine wpAnyH_take (i := 10) (oi := _) (v := ?_) rfl (by kernel_rfl) (by kernel_rfl) (by kernel_rfl) (fun _ _ _ h => h) (Or.inl ⟨by rfl, ?_⟩) (by assumption) ?_
            rotate_left
            · (intro w hSw; (try dsimp only at hSw); go_simp; try with_reducible rfl)
            (try dsimp only); (try simp only [Act.put]); (try simp only [List.setIfInBounds_toArray]); (try simp only [List.set_cons_succ]); (try simp only [List.set_cons_zero])
            refine wpAnyH_take (i := 11) (oi := _) (v := ?_) rfl (by kernel_rfl) (by kernel_rfl) (by kernel_rfl) (fun _ _ _ h => h) (Or.inl ⟨by rfl, ?_⟩) (by assumption) ?_
            rotate_left
            · (intro w hSw; (try dsimp only at hSw); go_simp; try with_reducible rfl)
            (try dsimp only); (try simp only [Act.put]); (try simp only [List.setIfInBounds_toArray]); (try simp only [List.set_cons_succ]); (try simp only [List.set_cons_zero])
            refine wpAnyH_ready (rs := [12]) (by kernel_rfl) (by simp) ?_
            refine AllReadyH.cons (o := _) rfl (fun K hK => ?_) AllReadyH.nil
            go_simp
            refine hK.out _ _ (by (try dsimp only); skip) (fun hHeld => ?_)
            clear hK K
            (try dsimp only); (try simp only [Act.put]); (try simp only [List.setIfInBounds_toArray]); (try simp only [List.set_cons_succ]); (try simp only [List.set_cons_zero])
            refine wpAnyH_take (i := 13) (oi := _) (v := ?_) rfl (by kernel_rfl) (by kernel_rfl) (by kernel_rfl) (fun _ _ _ h => h) (Or.inl ⟨by rfl, ?_⟩) (by assumption) ?_
            rotate_left
            · (intro w hSw; (try dsimp only at hSw); go_simp; try with_reducible rfl)
            (try dsimp only); (try simp only [Act.put]); (try simp only [List.setIfInBounds_toArray]); (try simp only [List.set_cons_succ]); (try simp only [List.set_cons_zero])
            refine wpAnyH_take (i := 14) (oi := _) (v := ?_) rfl (by kernel_rfl) (by kernel_rfl) (by kernel_rfl) (fun _ _ _ h => h) (Or.inl ⟨by rfl, ?_⟩) (by assumption) ?_
            rotate_left
            · (intro w hSw; (try dsimp only at hSw); go_simp; try with_reducible rfl)
            (try dsimp only); (try simp only [Act.put]); (try simp only [List.setIfInBounds_toArray]); (try simp only [List.set_cons_succ]); (try simp only [List.set_cons_zero])
            refine wpAnyH_ready (rs := [15]) (by kernel_rfl) (by simp) ?_
            refine AllReadyH.cons (o := _) rfl (fun K hK => ?_) AllReadyH.nil
            go_simp
            refine hK.out _ _ (by (try dsimp only); skip) (fun hHeld => ?_)
            clear hK K
            (try dsimp only); (try simp only [Act.put]); (try simp only [List.setIfInBounds_toArray]); (try simp only [List.set_cons_succ]); (try simp only [List.set_cons_zero])
            refine wpAnyH_done (by kernel_rfl) ?_ _
            refine NoPanic.normal ?_
            all_goals
              go_wp2_with fail
              go_roundw
              case rel =>
                have ho := HO.out
                subst ho
                simp only [Nat.zero_add]
                refine ⟨k + 1, by omega, by go_num, ?_⟩
                have h2 := HMn.out.st (st_setSt HGet.out) HQ.out (by omega) (a.Y + n) (a.X + e)
                rw [setSt_setSt] at h2
                rw [← stage_st HA.out]
                exact h2
              case measure => simp [intOf]; omega
      · obtain rfl : k = L.st.length := by omega
        rw [stage_full] at hM
        have HM2 := Lib.hid hM
        have c13 := B13.cell; have t13 := B13.lt
        go_wp2_with fail
        clear HM c13 t13 B13 hM hlt hk HM5
        rename World => W6x
        obtain ⟨LA, hLA⟩ : ∃ LA : Land, LA = { L with st := L.st.map (Stn.mv e n tn) } := ⟨_, rfl⟩
        have HLA := Lib.hid hLA
        have hrdl : LA.rd = L.rd := by rw [hLA]
        rw [show ({ st := List.map (Stn.mv e n tn) L.st, rd := L.rd, cs := L.cs, sn := L.sn } : Land) = LA from hLA.symm] at HM2
        clear hLA
        go_loopw [18] (fun i' wr => ∃ k : Nat, k ≤ L.rd.length ∧ i' = .int .i64 k ∧ Mid q q0 L { LA with rd := stage (Wl.mv e n tn) L.rd k } w n0 n13 wr) (fun i' _ => L.rd.length - (intOf i').toNat)
        case atStart => exact ⟨0, Nat.zero_le _, rfl, by rw [stage_zero, ← hrdl]; exact HM2.out⟩
        case round =>
          obtain ⟨k, hk, rfl, hM⟩ := hrel
          have B13 := hM.b13
          have HM := Lib.hid hM
          by_cases hlt : k < L.rd.length
          · obtain ⟨a, ha⟩ := some_of hlt
            have HIn : Hid (0 ≤ a.X1 ∧ a.X1 ≤ 100 ∧ 0 ≤ a.Y1 ∧ a.Y1 ≤ 100 ∧ 0 ≤ a.X2 ∧ a.X2 ≤ 100 ∧ 0 ≤ a.Y2 ∧ a.Y2 ≤ 100) := by
              obtain ⟨⟨x1, x2, x3, x4, x5, x6, x7, x8, _⟩, _⟩ := (fits HR.out.chk).rd a (List.mem_of_getElem? ha)
              exact ⟨x1, x2, x3, x4, x5, x6, x7, x8⟩
            have hget : ({ LA with rd := stage (Wl.mv e n tn) L.rd k } : Land).rd[k]? = some a := by rw [← ha]; exact stage_get hlt
            obtain ⟨g, cur, hq, hgn, hBg, hcell, _⟩ := hM.land.ridge hget
            obtain ⟨o, ho⟩ : ∃ o : Nat, o = 0 := ⟨_, rfl⟩
            have hq2 : q0.a2 = some ⟨g, o, none⟩ := by rw [hq, ho]
            have cx : ∀ j v, a.vs[j]? = some v → wr.cell? ⟨g, o + k * 6 + j, none⟩ = some v := fun j v h => by rw [ho, Nat.zero_add]; exact hcell j v h
            have c0 : wr.cell? ⟨g, o + k * 6, none⟩ = some (.int .i64 a.X1) := cx 0 _ rfl
            have c1 : wr.cell? ⟨g, o + k * 6 + 1, none⟩ = some (.int .i64 a.Y1) := cx 1 _ rfl
            have c2 : wr.cell? ⟨g, o + k * 6 + 2, none⟩ = some (.int .i64 a.X2) := cx 2 _ rfl
            have c3 : wr.cell? ⟨g, o + k * 6 + 3, none⟩ = some (.int .i64 a.Y2) := cx 3 _ rfl
            have c4 : wr.cell? ⟨g, o + k * 6 + 4, none⟩ = some (.int .i64 a.B) := cx 4 _ rfl
            have c5 : wr.cell? ⟨g, o + k * 6 + 5, none⟩ = some (.int .i64 a.T) := cx 5 _ rfl
            have fg := hBg.frozen
            have tg := hBg.lt
            have ng : n13 ≠ g := box_ne B13 hBg (by decide)
            have r1 : (0 : Int) ≤ (k : Int) := by omega
            have r2 : (k : Int) < (L.rd.length : Int) := by omega
            rw [hq2] at B13
            have HA := Lib.hid ha
            have HQ := Lib.hid hq
            have HO := Lib.hid ho
            have HBg := Lib.hid hBg
            have HGet := Lib.hid hget
            clear ha hget hq hq2 hcell hBg ho hM cx
            have c13 := B13.cell; have t13 := B13.lt
            have HS : Hid (∀ w', Below wr.heap.size wr w' → w'.cell? ⟨n13, 1, none⟩ = some (.slice (some ⟨g, o, none⟩) L.rd.length q0.c2) ∧ (∀ j, j < wr.heap.size → w'.heap[j]? = wr.heap[j]?)) := fun w' hb => ⟨(hb.cell (p := ⟨n13, 1, none⟩) t13).trans (B13.cell 1), fun j hj => hb.block j hj⟩
            go_wp2_with fail
            refine wp_region_noPanic ?_
            refine wp_region_held_drew (S := (fun w' => w'.cell? ⟨n13, 1, none⟩ = some (.slice (some ⟨g, o, none⟩) L.rd.length q0.c2))) (by kernel_rfl) (by (try dsimp only); exact (HS.out _ (by repeat (first | exact Below.refl _ _ | refine al ?_ _ | refine Below.drew ?_ | refine sc ?_ (by simp) _))).1) (fun hHeld => ?_)
            refine wpAnyH_take (i := 0) (oi := _) (v := ?_) rfl (by kernel_rfl) (by kernel_rfl) (by kernel_rfl) (fun _ _ _ h => h) (Or.inl ⟨by rfl, ?_⟩) (by assumption) ?_
            rotate_left
            · (intro w hSw; (try dsimp only at hSw); go_simp; try with_reducible rfl)
            (try dsimp only); (try simp only [Act.put]); (try simp only [List.setIfInBounds_toArray]); (try simp only [List.set_cons_succ]); (try simp only [List.set_cons_zero])
            refine wpAnyH_take (i := 1) (oi := _) (v := ?_) rfl (by kernel_rfl) (by kernel_rfl) (by kernel_rfl) (fun _ _ _ h => h) (Or.inl ⟨by rfl, ?_⟩) (by assumption) ?_
            rotate_left
            · (intro w hSw; (try dsimp only at hSw); go_simp; try with_reducible rfl)
            (try dsimp only); (try simp only [Act.put]); (try simp only [List.setIfInBounds_toArray]); (try simp only [List.set_cons_succ]); (try simp only [List.set_cons_zero])
            refine wpAnyH_take (i := 2) (oi := _) (v := ?_) rfl (by kernel_rfl) (by kernel_rfl) (by kernel_rfl) (fun _ _ _ h => h) (Or.inl ⟨by rfl, ?_⟩) (by assumption) ?_
            rotate_left
            · (intro w hSw; (try dsimp only at hSw); go_simp; try with_reducible rfl)
            (try dsimp only); (try simp only [Act.put]); (try simp only [List.setIfInBounds_toArray]); (try simp only [List.set_cons_succ]); (try simp only [List.set_cons_zero])
            refine wpAnyH_take (i := 3) (oi := _) (v := ?_) rfl (by kernel_rfl) (by kernel_rfl) (by kernel_rfl) (fun _ _ _ h => h) (Or.inl ⟨by rfl, ?_⟩) (by assumption) ?_
            rotate_left
            · (intro w hSw; (try dsimp only at hSw); go_simp; try with_reducible rfl)
            (try dsimp only); (try simp only [Act.put]); (try simp only [List.setIfInBounds_toArray]); (try simp only [List.set_cons_succ]); (try simp only [List.set_cons_zero])
            refine wpAnyH_take (i := 4) (oi := _) (v := ?_) rfl (by kernel_rfl) (by kernel_rfl) (by kernel_rfl) (fun _ _ _ h => h) (Or.inl ⟨by rfl, ?_⟩) (by assumption) ?_
            rotate_left
            · (intro w hSw; (try dsimp only at hSw); go_simp; try with_reducible rfl)
            (try dsimp only); (try simp only [Act.put]); (try simp only [List.setIfInBounds_toArray]); (try simp only [List.set_cons_succ]); (try simp only [List.set_cons_zero])
            refine wpAnyH_take (i := 5) (oi := _) (v := ?_) rfl (by kernel_rfl) (by kernel_rfl) (by kernel_rfl) (fun _ _ _ h => h) (Or.inl ⟨by rfl, ?_⟩) (by assumption) ?_
            rotate_left
            · (intro w hSw; (try dsimp only at hSw); go_simp; try with_reducible rfl)
            (try dsimp only); (try simp only [Act.put]); (try simp only [List.setIfInBounds_toArray]); (try simp only [List.set_cons_succ]); (try simp only [List.set_cons_zero])
            refine wpAnyH_take (i := 6) (oi := _) (v := ?_) rfl (by kernel_rfl) (by kernel_rfl) (by kernel_rfl) (fun _ _ _ h => h) (Or.inl ⟨by rfl, ?_⟩) (by assumption) ?_
            rotate_left
            · (intro w hSw; (try dsimp only at hSw); go_simp; try with_reducible rfl)
            (try dsimp only); (try simp only [Act.put]); (try simp only [List.setIfInBounds_toArray]); (try simp only [List.set_cons_succ]); (try simp only [List.set_cons_zero])
            refine wpAnyH_take (i := 8) (oi := _) (v := ?_) rfl (by kernel_rfl) (by kernel_rfl) (by kernel_rfl) (fun _ _ _ h => h) (Or.inl ⟨by rfl, ?_⟩) (by assumption) ?_
            rotate_left
            · (intro w hSw; (try dsimp only at hSw); go_simp; try with_reducible rfl)
            (try dsimp only); (try simp only [Act.put]); (try simp only [List.setIfInBounds_toArray]); (try simp only [List.set_cons_succ]); (try simp only [List.set_cons_zero])
            refine wpAnyH_take (i := 9) (oi := _) (v := ?_) rfl (by kernel_rfl) (by kernel_rfl) (by kernel_rfl) (fun _ _ _ h => h) (Or.inl ⟨by rfl, ?_⟩) (by assumption) ?_
            rotate_left
            · (intro w hSw; (try dsimp only at hSw); go_simp; try with_reducible rfl)
            (try dsimp only); (try simp only [Act.put]); (try simp only [List.setIfInBounds_toArray]); (try simp only [List.set_cons_succ]); (try simp only [List.set_cons_zero])
            refine wpAnyH_take (i := 10) (oi := _) (v := ?_) rfl (by kernel_rfl) (by kernel_rfl) (by kernel_rfl) (fun _ _ _ h => h) (Or.inl ⟨by rfl, ?_⟩) (by assumption) ?_
            rotate_left
            · (intro w hSw; (try dsimp only at hSw); go_simp; try with_reducible rfl)
            (try dsimp only); (try simp only [Act.put]); (try simp only [List.setIfInBounds_toArray]); (try simp only [List.set_cons_succ]); (try simp only [List.set_cons_zero])
            refine wpAnyH_ready (rs := [7]) (by kernel_rfl) (by simp) ?_
            refine AllReadyH.cons (o := _) rfl (fun K hK => ?_) AllReadyH.nil
            go_simp
            refine hK.out _ _ (by (try dsimp only); exact hHeld) (fun hHeld => ?_)
            clear hK K
            (try dsimp only); (try simp only [Act.put]); (try simp only [List.setIfInBounds_toArray]); (try simp only [List.set_cons_succ]); (try simp only [List.set_cons_zero])
            refine wpAnyH_ready (rs := [11]) (by kernel_rfl) (by simp) ?_
            refine AllReadyH.cons (o := _) rfl (fun K hK => ?_) AllReadyH.nil
            go_simp
            with_reducible refine (moved_any a e n tn _ HIn.out ⟨he1, he2⟩ ⟨hn1, hn2⟩).mono ?_
            rintro e' w6 ⟨rfl, hb6⟩
            have hb7 : Below wr.heap.size wr w6 := over (show Below wr.heap.size wr _ from (by repeat (first | exact Below.refl _ _ | refine al ?_ _ | refine Below.drew ?_ | refine sc ?_ (by simp) _))) hb6
            clear hb6
            have d0 := (hb7.cell (p := ⟨g, o + k * 6, none⟩) tg).trans c0
            have d1 := (hb7.cell (p := ⟨g, o + k * 6 + 1, none⟩) tg).trans c1
            have d2 := (hb7.cell (p := ⟨g, o + k * 6 + 2, none⟩) tg).trans c2
            have d3 := (hb7.cell (p := ⟨g, o + k * 6 + 3, none⟩) tg).trans c3
            have d4 := (hb7.cell (p := ⟨g, o + k * 6 + 4, none⟩) tg).trans c4
            have d5 := (hb7.cell (p := ⟨g, o + k * 6 + 5, none⟩) tg).trans c5
            have fg7 := (HBg.out.later hb7).frozen
            have tg7 := (HBg.out.later hb7).lt
            try go_wp2_with fail
            refine hK.out _ _ (by (try dsimp only); exact (HS.out _ hb7).1) (fun hHeld => ?_)
            clear hK K
            (try dsimp only); (try simp only [Act.put]); (try simp only [List.setIfInBounds_toArray]); (try simp only [List.set_cons_succ]); (try simp only [List.set_cons_zero])
            clear c0 c1 c2 c3 c4 c5 fg tg
            refine wpAnyH_take (i := 12) (oi := _) (v := ?_) rfl (by kernel_rfl) (by kernel_rfl) (by kernel_rfl) (fun _ _ _ h => h) (Or.inl ⟨by rfl, ?_⟩) (by assumption) ?_
            rotate_left
            · (intro w hSw; (try dsimp only at hSw); go_simp; try with_reducible rfl)
            (try dsimp only); (try simp only [Act.put]); (try simp only [List.setIfInBounds_toArray]); (try simp only [List.set_cons_succ]); (try simp only [List.set_cons_zero])
            refine wpAnyH_ready (rs := [13]) (by kernel_rfl) (by simp) ?_
            refine AllReadyH.cons (o := _) rfl (fun K hK => ?_) AllReadyH.nil
            go_simp
            refine hK.out _ _ (by (try dsimp only); exact (cell_aside6 ng).trans hHeld) (fun hHeld => ?_)
            clear hK K
            (try dsimp only); (try simp only [Act.put]); (try simp only [List.setIfInBounds_toArray]); (try simp only [List.set_cons_succ]); (try simp only [List.set_cons_zero])
            refine wpAnyH_done (by kernel_rfl) ?_ _
            refine NoPanic.normal ?_
            go_wp2_with fail
            go_roundw
            case rel =>
              have ho := HO.out
              subst ho
              simp only [Nat.zero_add]
              refine ⟨k + 1, by omega, by go_num, ?_⟩
              have h2 := (HM.out.later hb7).rd HGet.out HQ.out (by omega) (a.mv e n tn)
              rw [stage_rd HA.out] at h2
              exact h2
            case measure => simp [intOf]; omega
          · obtain rfl : k = L.rd.length := by omega
            rw [stage_full] at hM
            have HM3 := Lib.hid hM
            have c13 := B13.cell; have t13 := B13.lt
            go_wp2_with fail
            clear HM c13 t13 B13 hM hlt hk HM2
            rename World => W7x
            obtain ⟨LB, hLB⟩ : ∃ LB : Land, LB = { LA with rd := L.rd.map (Wl.mv e n tn) } := ⟨_, rfl⟩
            rw [show ({ st := LA.st, rd := List.map (Wl.mv e n tn) L.rd, cs := LA.cs, sn := LA.sn } : Land) = LB from hLB.symm] at HM3
            have hcsl : LB.cs = L.cs := by rw [hLB, HLA.out]
            have HLB := Lib.hid hLB
            clear hLB
            go_loopw [19] (fun i' wr => ∃ k : Nat, k ≤ L.cs.length ∧ i' = .int .i64 k ∧ Mid q q0 L { LB with cs := stage (List.map (Cd.mv e n tn)) L.cs k } w n0 n13 wr) (fun i' _ => L.cs.length - (intOf i').toNat)
            case atStart => exact ⟨0, Nat.zero_le _, rfl, by rw [stage_zero, ← hcsl]; exact HM3.out⟩
            case round =>
              obtain ⟨k, hk, rfl, hM⟩ := hrel
              have B13 := hM.b13
              have HM := Lib.hid hM
              obtain ⟨wo, rfl⟩ : ∃ wo : World, wo = wr := ⟨_, rfl⟩
              have c13 := B13.cell; have t13 := B13.lt
              by_cases hlt : k < L.cs.length
              · obtain ⟨cs, hcs⟩ := some_of hlt
                obtain ⟨LK, hLK⟩ : ∃ LK : Land, LK = { LB with cs := stage (List.map (Cd.mv e n tn)) L.cs k } := ⟨_, rfl⟩
                have hkl : LK.cs[k]? = some cs := by rw [hLK, ← hcs]; exact stage_get hlt
                have hkn : k < LK.cs.length := (List.getElem?_eq_some_iff.1 hkl).1
                have hcl : cs.length ≤ 1000 := HS.out.l5 cs (List.mem_of_getElem? hcs)
                have HLK := Lib.hid hLK
                have HKl := Lib.hid hkl
                have HCs := Lib.hid hcs
                clear hLK hkl hcs
                go_wp2_with fail
                clear B13 c13 t13 hM
                go_loopw [20] (fun m' wr => ∃ m : Nat, m ≤ cs.length ∧ m' = .int .i64 m ∧ Mid q q0 L (LK.setCs k (stage (Cd.mv e n tn) cs m)) w n0 n13 wr) (fun m' _ => cs.length - (intOf m').toNat)
                case atStart => exact ⟨0, Nat.zero_le _, rfl, by rw [stage_zero, setCs_self HKl.out, HLK.out]; exact HM.out⟩
                case round =>
                  obtain ⟨m, hm, rfl, hN⟩ := hrel
                  have B13 := hN.b13
                  have HN := Lib.hid hN
                  have hget := setCs_get (M := LK) (stage (Cd.mv e n tn) cs m) hkn
                  obtain ⟨g, cc, ⟨xa, xc, xcs⟩, cur, hq, hgn, hBg, hxcs, hcell, _⟩ := hN.land.cs.case hget
                  simp only at hxcs
                  subst hxcs
                  unfold CV.val at hcell
                  simp only [stage_length] at hcell
                  have hq1 : q0.a3 = some ⟨g, 0, none⟩ := by injection hq
                  obtain ⟨o, ho⟩ : ∃ o : Nat, o = 0 := ⟨_, rfl⟩
                  have hq2 : q0.a3 = some ⟨g, o, none⟩ := by rw [hq1, ho]
                  have cg : wr.cell? ⟨g, o + k, none⟩ = some (.slice xa cs.length xc) := by rw [ho, Nat.zero_add]; exact hcell
                  have tg := hBg.lt
                  have r1 : (0 : Int) ≤ (k : Int) := by omega
                  have r2 : (k : Int) < (L.cs.length : Int) := by omega
                  have ng : n13 ≠ g := box_ne B13 hBg (by decide)
                  have HQ := Lib.hid hq1
                  have HO := Lib.hid ho
                  have HGet := Lib.hid hget
                  by_cases hltm : m < cs.length
                  · obtain ⟨cl, hcl2⟩ := some_of hltm
                    have hgm : (stage (Cd.mv e n tn) cs m)[m]? = some cl := by rw [← hcl2]; exact stage_get hltm
                    obtain ⟨g', g2, cap, cur1, cur2, e1, hB1, hB2, hrow, hcells, hnext⟩ := hN.cd hget hgm (by omega)
                    rw [hq1] at e1
                    cases e1
                    rw [stage_length, hcell] at hrow
                    obtain ⟨o2, ho2⟩ : ∃ o : Nat, o = 0 := ⟨_, rfl⟩
                    have hxa : xa = some ⟨g2, o2, none⟩ := by
                      rw [ho2]
                      have := Option.some.inj hrow
                      injection this
                    subst hxa
                    have HIn : Hid (0 ≤ cl.wl.X1 ∧ cl.wl.X1 ≤ 100 ∧ 0 ≤ cl.wl.Y1 ∧ cl.wl.Y1 ≤ 100 ∧ 0 ≤ cl.wl.X2 ∧ cl.wl.X2 ≤ 100 ∧ 0 ≤ cl.wl.Y2 ∧ cl.wl.Y2 ≤ 100) := by
                      obtain ⟨x1, x2, x3, x4, x5, x6, x7, x8, _⟩ := (fits HR.out.chk).cs cs (List.mem_of_getElem? HCs.out) cl (List.mem_of_getElem? hcl2)
                      exact ⟨x1, x2, x3, x4, x5, x6, x7, x8⟩
                    have cx : ∀ j v, cl.vs[j]? = some v → wr.cell? ⟨g2, o2 + m * 8 + j, none⟩ = some v := fun j v h => by rw [ho2, Nat.zero_add]; exact hcells j v h
                    have c0 : wr.cell? ⟨g2, o2 + m * 8, none⟩ = some (.int .i64 cl.wl.X1) := cx 0 _ rfl
                    have c1 : wr.cell? ⟨g2, o2 + m * 8 + 1, none⟩ = some (.int .i64 cl.wl.Y1) := cx 1 _ rfl
                    have c2 : wr.cell? ⟨g2, o2 + m * 8 + 2, none⟩ = some (.int .i64 cl.wl.X2) := cx 2 _ rfl
                    have c3 : wr.cell? ⟨g2, o2 + m * 8 + 3, none⟩ = some (.int .i64 cl.wl.Y2) := cx 3 _ rfl
                    have c4 : wr.cell? ⟨g2, o2 + m * 8 + 4, none⟩ = some (.int .i64 cl.wl.B) := cx 4 _ rfl
                    have c5 : wr.cell? ⟨g2, o2 + m * 8 + 5, none⟩ = some (.int .i64 cl.wl.T) := cx 5 _ rfl
                    have tg2 := hB2.lt
                    have ng2 : n13 ≠ g2 := box_ne B13 hB2 (by decide)
                    have ng3 : g ≠ g2 := box_ne hB1 hB2 (by decide)
                    have r3 : (0 : Int) ≤ (m : Int) := by omega
                    have r4 : (m : Int) < (cs.length : Int) := by omega
                    rw [hq2] at B13
                    have HNext := Lib.hid hnext
                    have HO2 := Lib.hid ho2
                    have HCl := Lib.hid hcl2
                    have HB2 := Lib.hid hB2
                    clear hcell hrow hcells hnext ho ho2 hq hq1 hq2 hget hgm hcl2 hBg hB1 hB2 hN cx
                    have c13 := B13.cell; have t13 := B13.lt
                    have HS : Hid (∀ w', Below wr.heap.size wr w' → w'.cell? ⟨n13, 2, none⟩ = some (.slice (some ⟨g, o, none⟩) L.cs.length q0.c3) ∧ w'.cell? ⟨g, o + k, none⟩ = some (.slice (some ⟨g2, o2, none⟩) cs.length xc)) := fun w' hb => ⟨(hb.cell (p := ⟨n13, 2, none⟩) t13).trans (B13.cell 2), (hb.cell (p := ⟨g, o + k, none⟩) tg).trans cg⟩
                    go_wp2_with fail
                    refine wp_region_noPanic ?_
                    refine wp_region_held_drew (S := (fun w' => w'.cell? ⟨n13, 2, none⟩ = some (.slice (some ⟨g, o, none⟩) L.cs.length q0.c3) ∧ w'.cell? ⟨g, o + k, none⟩ = some (.slice (some ⟨g2, o2, none⟩) cs.length xc))) (by kernel_rfl) (by (try dsimp only); exact HS.out _ (by repeat (first | exact Below.refl _ _ | refine al ?_ _ | refine Below.drew ?_ | refine sc ?_ (by simp) _))) (fun hHeld => ?_)
                    refine wpAnyH_take (i := 0) (oi := _) (v := ?_) rfl (by kernel_rfl) (by kernel_rfl) (by kernel_rfl) (fun _ _ _ h => h) (Or.inl ⟨by rfl, ?_⟩) (by assumption) ?_
                    rotate_left
                    · (intro w hSw; (try dsimp only at hSw); go_simp; try with_reducible rfl)
                    (try dsimp only); (try simp only [Act.put]); (try simp only [List.setIfInBounds_toArray]); (try simp only [List.set_cons_succ]); (try simp only [List.set_cons_zero])
                    refine wpAnyH_take (i := 1) (oi := _) (v := ?_) rfl (by kernel_rfl) (by kernel_rfl) (by kernel_rfl) (fun _ _ _ h => h) (Or.inl ⟨by rfl, ?_⟩) (by assumption) ?_
                    rotate_left
                    · (intro w hSw; (try dsimp only at hSw); go_simp; try with_reducible rfl)
                    (try dsimp only); (try simp only [Act.put]); (try simp only [List.setIfInBounds_toArray]); (try simp only [List.set_cons_succ]); (try simp only [List.set_cons_zero])
                    refine wpAnyH_take (i := 2) (oi := _) (v := ?_) rfl (by kernel_rfl) (by kernel_rfl) (by kernel_rfl) (fun _ _ _ h => h) (Or.inl ⟨by rfl, ?_⟩) (by assumption) ?_
                    rotate_left
                    · (intro w hSw; (try dsimp only at hSw); go_simp; try with_reducible rfl)
                    (try dsimp only); (try simp only [Act.put]); (try simp only [List.setIfInBounds_toArray]); (try simp only [List.set_cons_succ]); (try simp only [List.set_cons_zero])
                    refine wpAnyH_take (i := 3) (oi := _) (v := ?_) rfl (by kernel_rfl) (by kernel_rfl) (by kernel_rfl) (fun _ _ _ h => h) (Or.inl ⟨by rfl, ?_⟩) (by assumption) ?_
                    rotate_left
                    · (intro w hSw; (try dsimp only at hSw); go_simp; try with_reducible rfl)
                    (try dsimp only); (try simp only [Act.put]); (try simp only [List.setIfInBounds_toArray]); (try simp only [List.set_cons_succ]); (try simp only [List.set_cons_zero])
                    refine wpAnyH_take (i := 4) (oi := _) (v := ?_) rfl (by kernel_rfl) (by kernel_rfl) (by kernel_rfl) (fun _ _ _ h => h) (Or.inl ⟨by rfl, ?_⟩) (by assumption) ?_
                    rotate_left
                    · (intro w hSw; (try dsimp only at hSw); go_simp; try with_reducible rfl)
                    (try dsimp only); (try simp only [Act.put]); (try simp only [List.setIfInBounds_toArray]); (try simp only [List.set_cons_succ]); (try simp only [List.set_cons_zero])
                    refine wpAnyH_take (i := 5) (oi := _) (v := ?_) rfl (by kernel_rfl) (by kernel_rfl) (by kernel_rfl) (fun _ _ _ h => h) (Or.inl ⟨by rfl, ?_⟩) (by assumption) ?_
                    rotate_left
                    · (intro w hSw; (try dsimp only at hSw); go_simp; try with_reducible rfl)
                    (try dsimp only); (try simp only [Act.put]); (try simp only [List.setIfInBounds_toArray]); (try simp only [List.set_cons_succ]); (try simp only [List.set_cons_zero])
                    refine wpAnyH_take (i := 6) (oi := _) (v := ?_) rfl (by kernel_rfl) (by kernel_rfl) (by kernel_rfl) (fun _ _ _ h => h) (Or.inl ⟨by rfl, ?_⟩) (by assumption) ?_
                    rotate_left
                    · (intro w hSw; (try dsimp only at hSw); go_simp; try with_reducible rfl)
                    (try dsimp only); (try simp only [Act.put]); (try simp only [List.setIfInBounds_toArray]); (try simp only [List.set_cons_succ]); (try simp only [List.set_cons_zero])
                    refine wpAnyH_take (i := 7) (oi := _) (v := ?_) rfl (by kernel_rfl) (by kernel_rfl) (by kernel_rfl) (fun _ _ _ h => h) (Or.inl ⟨by rfl, ?_⟩) (by assumption) ?_
                    rotate_left
                    · (intro w hSw; (try dsimp only at hSw); go_simp; try with_reducible rfl)
                    (try dsimp only); (try simp only [Act.put]); (try simp only [List.setIfInBounds_toArray]); (try simp only [List.set_cons_succ]); (try simp only [List.set_cons_zero])
                    refine wpAnyH_take (i := 8) (oi := _) (v := ?_) rfl (by kernel_rfl) (by kernel_rfl) (by kernel_rfl) (fun _ _ _ h => h) (Or.inl ⟨by rfl, ?_⟩) (by assumption) ?_
                    rotate_left
                    · (intro w hSw; (try dsimp only at hSw); go_simp; try with_reducible rfl)
                    (try dsimp only); (try simp only [Act.put]); (try simp only [List.setIfInBounds_toArray]); (try simp only [List.set_cons_succ]); (try simp only [List.set_cons_zero])
                    refine wpAnyH_take (i := 9) (oi := _) (v := ?_) rfl (by kernel_rfl) (by kernel_rfl) (by kernel_rfl) (fun _ _ _ h => h) (Or.inl ⟨by rfl, ?_⟩) (by assumption) ?_
                    rotate_left
                    · (intro w hSw; (try dsimp only at hSw); go_simp; try with_reducible rfl)
                    (try dsimp only); (try simp only [Act.put]); (try simp only [List.setIfInBounds_toArray]); (try simp only [List.set_cons_succ]); (try simp only [List.set_cons_zero])
                    refine wpAnyH_take (i := 10) (oi := _) (v := ?_) rfl (by kernel_rfl) (by kernel_rfl) (by kernel_rfl) (fun _ _ _ h => h) (Or.inl ⟨by rfl, ?_⟩) (by assumption) ?_
                    rotate_left
                    · (intro w hSw; (try dsimp only at hSw); go_simp; try with_reducible rfl)
                    (try dsimp only); (try simp only [Act.put]); (try simp only [List.setIfInBounds_toArray]); (try simp only [List.set_cons_succ]); (try simp only [List.set_cons_zero])
                    refine wpAnyH_take (i := 11) (oi := _) (v := ?_) rfl (by kernel_rfl) (by kernel_rfl) (by kernel_rfl) (fun _ _ _ h => h) (Or.inl ⟨by rfl, ?_⟩) (by assumption) ?_
                    rotate_left
                    · (intro w hSw; (try dsimp only at hSw); go_simp; try with_reducible rfl)
                    (try dsimp only); (try simp only [Act.put]); (try simp only [List.setIfInBounds_toArray]); (try simp only [List.set_cons_succ]); (try simp only [List.set_cons_zero])
                    refine wpAnyH_take (i := 12) (oi := _) (v := ?_) rfl (by kernel_rfl) (by kernel_rfl) (by kernel_rfl) (fun _ _ _ h => h) (Or.inl ⟨by rfl, ?_⟩) (by assumption) ?_
                    rotate_left
                    · (intro w hSw; (try dsimp only at hSw); go_simp; try with_reducible rfl)
                    (try dsimp only); (try simp only [Act.put]); (try simp only [List.setIfInBounds_toArray]); (try simp only [List.set_cons_succ]); (try simp only [List.set_cons_zero])
                    refine wpAnyH_take (i := 13) (oi := _) (v := ?_) rfl (by kernel_rfl) (by kernel_rfl) (by kernel_rfl) (fun _ _ _ h => h) (Or.inl ⟨by rfl, ?_⟩) (by assumption) ?_
                    rotate_left
                    · (intro w hSw; (try dsimp only at hSw); go_simp; try with_reducible rfl)
                    (try dsimp only); (try simp only [Act.put]); (try simp only [List.setIfInBounds_toArray]); (try simp only [List.set_cons_succ]); (try simp only [List.set_cons_zero])
                    refine wpAnyH_take (i := 15) (oi := _) (v := ?_) rfl (by kernel_rfl) (by kernel_rfl) (by kernel_rfl) (fun _ _ _ h => h) (Or.inl ⟨by rfl, ?_⟩) (by assumption) ?_
                    rotate_left
                    · (intro w hSw; (try dsimp only at hSw); go_simp; try with_reducible rfl)
                    (try dsimp only); (try simp only [Act.put]); (try simp only [List.setIfInBounds_toArray]); (try simp only [List.set_cons_succ]); (try simp only [List.set_cons_zero])
                    refine wpAnyH_take (i := 16) (oi := _) (v := ?_) rfl (by kernel_rfl) (by kernel_rfl) (by kernel_rfl) (fun _ _ _ h => h) (Or.inl ⟨by rfl, ?_⟩) (by assumption) ?_
                    rotate_left
                    · (intro w hSw; (try dsimp only at hSw); go_simp; try with_reducible rfl)
                    (try dsimp only); (try simp only [Act.put]); (try simp only [List.setIfInBounds_toArray]); (try simp only [List.set_cons_succ]); (try simp only [List.set_cons_zero])
                    refine wpAnyH_take (i := 17) (oi := _) (v := ?_) rfl (by kernel_rfl) (by kernel_rfl) (by kernel_rfl) (fun _ _ _ h => h) (Or.inl ⟨by rfl, ?_⟩) (by assumption) ?_
                    rotate_left
                    · (intro w hSw; (try dsimp only at hSw); go_simp; try with_reducible rfl)
                    (try dsimp only); (try simp only [Act.put]); (try simp only [List.setIfInBounds_toArray]); (try simp only [List.set_cons_succ]); (try simp only [List.set_cons_zero])
                    refine wpAnyH_ready (rs := [14]) (by kernel_rfl) (by simp) ?_
                    refine AllReadyH.cons (o := _) rfl (fun K hK => ?_) AllReadyH.nil
                    go_simp
                    refine hK.out _ _ (by (try dsimp only); exact hHeld) (fun hHeld => ?_)
                    clear hK K
                    (try dsimp only); (try simp only [Act.put]); (try simp only [List.setIfInBounds_toArray]); (try simp only [List.set_cons_succ]); (try simp only [List.set_cons_zero])
                    refine wpAnyH_ready (rs := [18]) (by kernel_rfl) (by simp) ?_
                    refine AllReadyH.cons (o := _) rfl (fun K hK => ?_) AllReadyH.nil
                    go_simp
                    with_reducible refine (moved_any cl.wl e n tn _ HIn.out ⟨he1, he2⟩ ⟨hn1, hn2⟩).mono ?_
                    rintro e' w6 ⟨rfl, hb6⟩
                    have hb7 : Below wr.heap.size wr w6 := over (show Below wr.heap.size wr _ from (by repeat (first | exact Below.refl _ _ | refine al ?_ _ | refine Below.drew ?_ | refine sc ?_ (by simp) _))) hb6
                    clear hb6
                    have d0 := (hb7.cell (p := ⟨g2, o2 + m * 8, none⟩) tg2).trans c0
                    have d1 := (hb7.cell (p := ⟨g2, o2 + m * 8 + 1, none⟩) tg2).trans c1
                    have d2 := (hb7.cell (p := ⟨g2, o2 + m * 8 + 2, none⟩) tg2).trans c2
                    have d3 := (hb7.cell (p := ⟨g2, o2 + m * 8 + 3, none⟩) tg2).trans c3
                    have d4 := (hb7.cell (p := ⟨g2, o2 + m * 8 + 4, none⟩) tg2).trans c4
                    have d5 := (hb7.cell (p := ⟨g2, o2 + m * 8 + 5, none⟩) tg2).trans c5
                    have fg7 := (HB2.out.later hb7).frozen
                    have tg7 := (HB2.out.later hb7).lt
                    try go_wp2_with fail
                    refine hK.out _ _ (by (try dsimp only); exact HS.out _ hb7) (fun hHeld => ?_)
                    clear hK K
                    (try dsimp only); (try simp only [Act.put]); (try simp only [List.setIfInBounds_toArray]); (try simp only [List.set_cons_succ]); (try simp only [List.set_cons_zero])
                    clear c0 c1 c2 c3 c4 c5 tg tg2
                    refine wpAnyH_take (i := 19) (oi := _) (v := ?_) rfl (by kernel_rfl) (by kernel_rfl) (by kernel_rfl) (fun _ _ _ h => h) (Or.inl ⟨by rfl, ?_⟩) (by assumption) ?_
                    rotate_left
                    · (intro w hSw; (try dsimp only at hSw); go_simp; try with_reducible rfl)
                    (try dsimp only); (try simp only [Act.put]); (try simp only [List.setIfInBounds_toArray]); (try simp only [List.set_cons_succ]); (try simp only [List.set_cons_zero])
                    refine wpAnyH_take (i := 20) (oi := _) (v := ?_) rfl (by kernel_rfl) (by kernel_rfl) (by kernel_rfl) (fun _ _ _ h => h) (Or.inl ⟨by rfl, ?_⟩) (by assumption) ?_
                    rotate_left
                    · (intro w hSw; (try dsimp only at hSw); go_simp; try with_reducible rfl)
                    (try dsimp only); (try simp only [Act.put]); (try simp only [List.setIfInBounds_toArray]); (try simp only [List.set_cons_succ]); (try simp only [List.set_cons_zero])
                    refine wpAnyH_ready (rs := [21]) (by kernel_rfl) (by simp) ?_
                    refine AllReadyH.cons (o := _) rfl (fun K hK => ?_) AllReadyH.nil
                    go_simp
                    refine hK.out _ _ (by (try dsimp only); exact ⟨(cell_aside6 ng2).trans hHeld.1, (cell_aside6 ng3).trans hHeld.2⟩) (fun hHeld => ?_)
                    clear hK K
                    (try dsimp only); (try simp only [Act.put]); (try simp only [List.setIfInBounds_toArray]); (try simp only [List.set_cons_succ]); (try simp only [List.set_cons_zero])
                    refine wpAnyH_done (by kernel_rfl) ?_ _
                    refine NoPanic.normal ?_
                    go_wp2_with fail
                    go_roundw
                    case rel =>
                      have ho := HO2.out
                      subst ho
                      simp only [Nat.zero_add]
                      refine ⟨m + 1, by omega, by go_num, ?_⟩
                      have h2 := HNext.out w6 hb7 (cl.wl.mv e n tn)
                      rw [setCs_setCs, show (⟨cl.wl.mv e n tn, cl.fr, cl.to⟩ : Cd) = cl.mv e n tn from rfl, stage_set HCl.out] at h2
                      exact h2
                    case measure => simp [intOf]; omega
                  · obtain rfl : m = cs.length := by omega
                    rw [hq2] at B13
                    rw [stage_full] at HN
                    clear hcell ho hq hq1 hq2 hget hN
                    have c13 := B13.cell; have t13 := B13.lt
                    go_wp2_with fail
                    go_roundw
                    case rel =>
                      refine ⟨k + 1, by omega, by go_num, ?_⟩
                      have h2 := HN.out
                      rw [HLK.out, stage_cs HCs.out] at h2
                      exact h2
                    case measure => simp [intOf]; omega
              · obtain rfl : k = L.cs.length := by omega
                rw [stage_full] at hM
                have HM4 := Lib.hid hM
                go_wp2_with fail
                clear HM c13 t13 B13 hM hlt hk HM3
                rename World => W8x
                obtain ⟨LC, hLC⟩ : ∃ LC : Land, LC = { LB with cs := L.cs.map (List.map (Cd.mv e n tn)) } := ⟨_, rfl⟩
                rw [show ({ st := LB.st, rd := LB.rd, cs := List.map (List.map (Cd.mv e n tn)) L.cs, sn := LB.sn } : Land) = LC from hLC.symm] at HM4
                have hsnl : LC.sn = L.sn := by rw [hLC, HLB.out, HLA.out]
                have HFin : Hid ({ LC with sn := L.sn.map (Sn.tn tn) } = L.mv e n tn) := by rw [Hid, hLC, HLB.out, HLA.out]; rfl
                clear hLC HLA HLB hrdl hcsl
                go_loopw [21] (fun i' wr => ∃ k : Nat, k ≤ L.sn.length ∧ i' = .int .i64 k ∧ Mid q q0 L { LC with sn := stage (Sn.tn tn) L.sn k } w n0 n13 wr) (fun i' _ => L.sn.length - (intOf i').toNat)
                case atStart => exact ⟨0, Nat.zero_le _, rfl, by rw [stage_zero, ← hsnl]; exact HM4.out⟩
                case round =>
                  obtain ⟨k, hk, rfl, hM⟩ := hrel
                  have B13 := hM.b13
                  have HM := Lib.hid hM
                  by_cases hlt : k < L.sn.length ∧ tn = true
                  · obtain ⟨hlt, rfl⟩ := hlt
                    have B5 := hM.b5
                    obtain ⟨a, ha⟩ := some_of hlt
                    have hget : ({ LC with sn := stage (Sn.tn true) L.sn k } : Land).sn[k]? = some a := by rw [← ha]; exact stage_get hlt
                    obtain ⟨g, cur, hq, hgn, hBg, hcell, _⟩ := hM.land.sun hget
                    obtain ⟨o, ho⟩ : ∃ o : Nat, o = 0 := ⟨_, rfl⟩
                    have hq2 : q0.a4 = some ⟨g, o, none⟩ := by rw [hq, ho]
                    have cx : wr.cell? ⟨g, o + k * 3, none⟩ = some (.int .i64 a.E) := by rw [ho, Nat.zero_add]; exact hcell 0 _ rfl
                    have cy : wr.cell? ⟨g, o + k * 3 + 1, none⟩ = some (.int .i64 a.N) := by rw [ho, Nat.zero_add]; exact hcell 1 _ rfl
                    have fg := hBg.frozen
                    have tg := hBg.lt
                    have ng : n13 ≠ g := box_ne B13 hBg (by decide)
                    have ng5 : w.heap.size ≠ g := box_ne B5 hBg (by decide)
                    obtain ⟨b4, o4, ea4, hC4⟩ := HL.out.sn.at hlt
                    obtain ⟨e0, e1, _⟩ := cells_sn hC4 ha
                    have z0 := block_lt_of_cell e0
                    have ng4 : b4 ≠ g := by
                      have : b4 < w.heap.size := z0
                      omega
                    have e0' := (hM.below.cell (p := ⟨b4, o4 + k * 3, none⟩) z0).trans e0
                    have e1' := (hM.below.cell (p := ⟨b4, o4 + k * 3 + 1, none⟩) z0).trans e1
                    have r1 : (0 : Int) ≤ (k : Int) := by omega
                    have r2 : (k : Int) < (L.sn.length : Int) := by omega
                    rw [hq2] at B13
                    rw [ea4] at B5
                    have zb : b4 < wr.heap.size := Nat.lt_of_lt_of_le z0 hM.below.size
                    have HA := Lib.hid ha
                    have HQ := Lib.hid hq
                    have HO := Lib.hid ho
                    have HGet := Lib.hid hget
                    clear ha hget hq hq2 hcell hBg ho hM e0 e1 z0 hC4 ea4
                    have c5 := B5.cell; have t5 := B5.lt; have c13 := B13.cell; have t13 := B13.lt
                    have HS : Hid (∀ w', Below wr.heap.size wr w' → w'.cell? ⟨n13, 3, none⟩ = some (.slice (some ⟨g, o, none⟩) L.sn.length q0.c4) ∧ w'.cell? ⟨w.heap.size, 3, none⟩ = some (.slice (some ⟨b4, o4, none⟩) L.sn.length q.c4) ∧ w'.cell? ⟨b4, o4 + k * 3, none⟩ = some (.int .i64 a.E) ∧ w'.cell? ⟨b4, o4 + k * 3 + 1, none⟩ = some (.int .i64 a.N)) := fun w' hb =>
                      ⟨(hb.cell (p := ⟨n13, 3, none⟩) t13).trans (B13.cell 3), (hb.cell (p := ⟨w.heap.size, 3, none⟩) t5).trans (B5.cell 3), (hb.cell (p := ⟨b4, o4 + k * 3, none⟩) zb).trans e0', (hb.cell (p := ⟨b4, o4 + k * 3 + 1, none⟩) zb).trans e1'⟩
                    have HS2 : Hid (∀ (W : World) (p : Nat) (v : Value), (W.cell? ⟨n13, 3, none⟩ = some (.slice (some ⟨g, o, none⟩) L.sn.length q0.c4) ∧ W.cell? ⟨w.heap.size, 3, none⟩ = some (.slice (some ⟨b4, o4, none⟩) L.sn.length q.c4) ∧ W.cell? ⟨b4, o4 + k * 3, none⟩ = some (.int .i64 a.E) ∧ W.cell? ⟨b4, o4 + k * 3 + 1, none⟩ = some (.int .i64 a.N)) →
                        ((W.setCell ⟨g, p, none⟩ v).cell? ⟨n13, 3, none⟩ = some (.slice (some ⟨g, o, none⟩) L.sn.length q0.c4) ∧ (W.setCell ⟨g, p, none⟩ v).cell? ⟨w.heap.size, 3, none⟩ = some (.slice (some ⟨b4, o4, none⟩) L.sn.length q.c4) ∧ (W.setCell ⟨g, p, none⟩ v).cell? ⟨b4, o4 + k * 3, none⟩ = some (.int .i64 a.E) ∧ (W.setCell ⟨g, p, none⟩ v).cell? ⟨b4, o4 + k * 3 + 1, none⟩ = some (.int .i64 a.N))) := fun W p v h => by
                      have k : ∀ b r, b ≠ g → (W.setCell ⟨g, p, none⟩ v).cell? ⟨b, r, none⟩ = W.cell? ⟨b, r, none⟩ := fun b r hne => World.cell?_of_block ((setCell_but W g p v).block b hne)
                      rw [k _ _ ng, k _ _ ng5, k _ _ ng4, k _ _ ng4]
                      exact h
                    go_wp2_with fail
                    refine wp_region_noPanic ?_
                    refine wp_region_held_drew (S := (fun w' => w'.cell? ⟨n13, 3, none⟩ = some (.slice (some ⟨g, o, none⟩) L.sn.length q0.c4) ∧ w'.cell? ⟨w.heap.size, 3, none⟩ = some (.slice (some ⟨b4, o4, none⟩) L.sn.length q.c4) ∧ w'.cell? ⟨b4, o4 + k * 3, none⟩ = some (.int .i64 a.E) ∧ w'.cell? ⟨b4, o4 + k * 3 + 1, none⟩ = some (.int .i64 a.N))) (by kernel_rfl) (by (try dsimp only); exact HS.out _ (by repeat (first | exact Below.refl _ _ | refine al ?_ _ | refine Below.drew ?_ | refine sc ?_ (by simp) _))) (fun hHeld => ?_)
                    refine wpAnyH_take (i := 0) (oi := _) (v := ?_) rfl (by kernel_rfl) (by kernel_rfl) (by kernel_rfl) (fun _ _ _ h => h) (Or.inl ⟨by rfl, ?_⟩) (by assumption) ?_
                    rotate_left
                    · (intro w hSw; (try dsimp only at hSw); go_simp; try with_reducible rfl)
                    (try dsimp only); (try simp only [Act.put]); (try simp only [List.setIfInBounds_toArray]); (try simp only [List.set_cons_succ]); (try simp only [List.set_cons_zero])
                    refine wpAnyH_take (i := 1) (oi := _) (v := ?_) rfl (by kernel_rfl) (by kernel_rfl) (by kernel_rfl) (fun _ _ _ h => h) (Or.inl ⟨by rfl, ?_⟩) (by assumption) ?_
                    rotate_left
                    · (intro w hSw; (try dsimp only at hSw); go_simp; try with_reducible rfl)
                    (try dsimp only); (try simp only [Act.put]); (try simp only [List.setIfInBounds_toArray]); (try simp only [List.set_cons_succ]); (try simp only [List.set_cons_zero])
                    refine wpAnyH_take (i := 2) (oi := _) (v := ?_) rfl (by kernel_rfl) (by kernel_rfl) (by kernel_rfl) (fun _ _ _ h => h) (Or.inl ⟨by rfl, ?_⟩) (by assumption) ?_
                    rotate_left
                    · (intro w hSw; (try dsimp only at hSw); go_simp; try with_reducible rfl)
                    (try dsimp only); (try simp only [Act.put]); (try simp only [List.setIfInBounds_toArray]); (try simp only [List.set_cons_succ]); (try simp only [List.set_cons_zero])
                    refine wpAnyH_take (i := 3) (oi := _) (v := ?_) rfl (by kernel_rfl) (by kernel_rfl) (by kernel_rfl) (fun _ _ _ h => h) (Or.inl ⟨by rfl, ?_⟩) (by assumption) ?_
                    rotate_left
                    · (intro w hSw; (try dsimp only at hSw); go_simp; try with_reducible rfl)
                    (try dsimp only); (try simp only [Act.put]); (try simp only [List.setIfInBounds_toArray]); (try simp only [List.set_cons_succ]); (try simp only [List.set_cons_zero])
                    refine wpAnyH_take (i := 4) (oi := _) (v := ?_) rfl (by kernel_rfl) (by kernel_rfl) (by kernel_rfl) (fun _ _ _ h => h) (Or.inl ⟨by rfl, ?_⟩) (by assumption) ?_
                    rotate_left
                    · (intro w hSw; (try dsimp only at hSw); go_simp; try with_reducible rfl)
                    (try dsimp only); (try simp only [Act.put]); (try simp only [List.setIfInBounds_toArray]); (try simp only [List.set_cons_succ]); (try simp only [List.set_cons_zero])
                    refine wpAnyH_take (i := 5) (oi := _) (v := ?_) rfl (by kernel_rfl) (by kernel_rfl) (by kernel_rfl) (fun _ _ _ h => h) (Or.inl ⟨by rfl, ?_⟩) (by assumption) ?_
                    rotate_left
                    · (intro w hSw; (try dsimp only at hSw); go_simp; try with_reducible rfl)
                    (try dsimp only); (try simp only [Act.put]); (try simp only [List.setIfInBounds_toArray]); (try simp only [List.set_cons_succ]); (try simp only [List.set_cons_zero])
                    refine wpAnyH_take (i := 6) (oi := _) (v := ?_) rfl (by kernel_rfl) (by kernel_rfl) (by kernel_rfl) (fun _ _ _ h => h) (Or.inl ⟨by rfl, ?_⟩) (by assumption) ?_
                    rotate_left
                    · (intro w hSw; (try dsimp only at hSw); go_simp; try with_reducible rfl)
                    (try dsimp only); (try simp only [Act.put]); (try simp only [List.setIfInBounds_toArray]); (try simp only [List.set_cons_succ]); (try simp only [List.set_cons_zero])
                    refine wpAnyH_take (i := 7) (oi := _) (v := ?_) rfl (by kernel_rfl) (by kernel_rfl) (by kernel_rfl) (fun _ _ _ h => h) (Or.inl ⟨by rfl, ?_⟩) (by assumption) ?_
                    rotate_left
                    · (intro w hSw; (try dsimp only at hSw); go_simp; try with_reducible rfl)
                    (try dsimp only); (try simp only [Act.put]); (try simp only [List.setIfInBounds_toArray]); (try simp only [List.set_cons_succ]); (try simp only [List.set_cons_zero])
                    refine wpAnyH_take (i := 8) (oi := _) (v := ?_) rfl (by kernel_rfl) (by kernel_rfl) (by kernel_rfl) (fun _ _ _ h => h) (Or.inl ⟨by rfl, ?_⟩) (by assumption) ?_
                    rotate_left
                    · (intro w hSw; (try dsimp only at hSw); go_simp; try with_reducible rfl)
                    (try dsimp only); (try simp only [Act.put]); (try simp only [List.setIfInBounds_toArray]); (try simp only [List.set_cons_succ]); (try simp only [List.set_cons_zero])
                    refine wpAnyH_take (i := 9) (oi := _) (v := ?_) rfl (by kernel_rfl) (by kernel_rfl) (by kernel_rfl) (fun _ _ _ h => h) (Or.inl ⟨by rfl, ?_⟩) (by assumption) ?_
                    rotate_left
                    · (intro w hSw; (try dsimp only at hSw); go_simp; try with_reducible rfl)
                    (try dsimp only); (try simp only [Act.put]); (try simp only [List.setIfInBounds_toArray]); (try simp only [List.set_cons_succ]); (try simp only [List.set_cons_zero])
                    refine wpAnyH_take (i := 10) (oi := _) (v := ?_) rfl (by kernel_rfl) (by kernel_rfl) (by kernel_rfl) (fun _ _ _ h => h) (Or.inl ⟨by rfl, ?_⟩) (by assumption) ?_
                    rotate_left
                    · (intro w hSw; (try dsimp only at hSw); go_simp; try with_reducible rfl)
                    (try dsimp only); (try simp only [Act.put]); (try simp only [List.setIfInBounds_toArray]); (try simp only [List.set_cons_succ]); (try simp only [List.set_cons_zero])
                    refine wpAnyH_take (i := 11) (oi := _) (v := ?_) rfl (by kernel_rfl) (by kernel_rfl) (by kernel_rfl) (fun _ _ _ h => h) (Or.inl ⟨by rfl, ?_⟩) (by assumption) ?_
                    rotate_left
                    · (intro w hSw; (try dsimp only at hSw); go_simp; try with_reducible rfl)
                    (try dsimp only); (try simp only [Act.put]); (try simp only [List.setIfInBounds_toArray]); (try simp only [List.set_cons_succ]); (try simp only [List.set_cons_zero])
                    refine wpAnyH_take (i := 12) (oi := _) (v := ?_) rfl (by kernel_rfl) (by kernel_rfl) (by kernel_rfl) (fun _ _ _ h => h) (Or.inl ⟨by rfl, ?_⟩) (by assumption) ?_
                    rotate_left
                    · (intro w hSw; (try dsimp only at hSw); go_simp; try with_reducible rfl)
                    (try dsimp only); (try simp only [Act.put]); (try simp only [List.setIfInBounds_toArray]); (try simp only [List.set_cons_succ]); (try simp only [List.set_cons_zero])
                    refine wpAnyH_take (i := 13) (oi := _) (v := ?_) rfl (by kernel_rfl) (by kernel_rfl) (by kernel_rfl) (fun _ _ _ h => h) (Or.inl ⟨by rfl, ?_⟩) (by assumption) ?_
                    rotate_left
                    · (intro w hSw; (try dsimp only at hSw); go_simp; try with_reducible rfl)
                    (try dsimp only); (try simp only [Act.put]); (try simp only [List.setIfInBounds_toArray]); (try simp only [List.set_cons_succ]); (try simp only [List.set_cons_zero])
                    refine wpAnyH_take (i := 14) (oi := _) (v := ?_) rfl (by kernel_rfl) (by kernel_rfl) (by kernel_rfl) (fun _ _ _ h => h) (Or.inl ⟨by rfl, ?_⟩) (by assumption) ?_
                    rotate_left
                    · (intro w hSw; (try dsimp only at hSw); go_simp; try with_reducible rfl)
                    (try dsimp only); (try simp only [Act.put]); (try simp only [List.setIfInBounds_toArray]); (try simp only [List.set_cons_succ]); (try simp only [List.set_cons_zero])
                    refine wpAnyH_take (i := 15) (oi := _) (v := ?_) rfl (by kernel_rfl) (by kernel_rfl) (by kernel_rfl) (fun _ _ _ h => h) (Or.inl ⟨by rfl, ?_⟩) (by assumption) ?_
                    rotate_left
                    · (intro w hSw; (try dsimp only at hSw); go_simp; try with_reducible rfl)
                    (try dsimp only); (try simp only [Act.put]); (try simp only [List.setIfInBounds_toArray]); (try simp only [List.set_cons_succ]); (try simp only [List.set_cons_zero])
                    refine wpAnyH_take (i := 16) (oi := _) (v := ?_) rfl (by kernel_rfl) (by kernel_rfl) (by kernel_rfl) (fun _ _ _ h => h) (Or.inl ⟨by rfl, ?_⟩) (by assumption) ?_
                    rotate_left
                    · (intro w hSw; (try dsimp only at hSw); go_simp; try with_reducible rfl)
                    (try dsimp only); (try simp only [Act.put]); (try simp only [List.setIfInBounds_toArray]); (try simp only [List.set_cons_succ]); (try simp only [List.set_cons_zero])
                    refine wpAnyH_take (i := 17) (oi := _) (v := ?_) rfl (by kernel_rfl) (by kernel_rfl) (by kernel_rfl) (fun _ _ _ h => h) (Or.inl ⟨by rfl, ?_⟩) (by assumption) ?_
                    rotate_left
                    · (intro w hSw; (try dsimp only at hSw); go_simp; try with_reducible rfl)
                    (try dsimp only); (try simp only [Act.put]); (try simp only [List.setIfInBounds_toArray]); (try simp only [List.set_cons_succ]); (try simp only [List.set_cons_zero])
                    refine wpAnyH_take (i := 18) (oi := _) (v := ?_) rfl (by kernel_rfl) (by kernel_rfl) (by kernel_rfl) (fun _ _ _ h => h) (Or.inl ⟨by rfl, ?_⟩) (by assumption) ?_
                    rotate_left
                    · (intro w hSw; (try dsimp only at hSw); go_simp; try with_reducible rfl)
                    (try dsimp only); (try simp only [Act.put]); (try simp only [List.setIfInBounds_toArray]); (try simp only [List.set_cons_succ]); (try simp only [List.set_cons_zero])
                    refine wpAnyH_take (i := 19) (oi := _) (v := ?_) rfl (by kernel_rfl) (by kernel_rfl) (by kernel_rfl) (fun _ _ _ h => h) (Or.inl ⟨by rfl, ?_⟩) (by assumption) ?_
                    rotate_left
                    · (intro w hSw; (try dsimp only at hSw); go_simp; try with_reducible rfl)
                    (try dsimp only); (try simp only [Act.put]); (try simp only [List.setIfInBounds_toArray]); (try simp only [List.set_cons_succ]); (try simp only [List.set_cons_zero])
                    refine wpAnyH_ready (rs := [20]) (by kernel_rfl) (by simp) ?_
                    refine AllReadyH.cons (o := _) rfl (fun K hK => ?_) AllReadyH.nil
                    go_simp
                    refine hK.out _ _ (by (try dsimp only); first | exact HS2.out _ _ _ hHeld | exact hHeld) (fun hHeld => ?_)
                    clear hK K
                    (try dsimp only); (try simp only [Act.put]); (try simp only [List.setIfInBounds_toArray]); (try simp only [List.set_cons_succ]); (try simp only [List.set_cons_zero])
                    refine wpAnyH_take (i := 21) (oi := _) (v := ?_) rfl (by kernel_rfl) (by kernel_rfl) (by kernel_rfl) (fun _ _ _ h => h) (Or.inl ⟨by rfl, ?_⟩) (by assumption) ?_
                    rotate_left
                    · (intro w hSw; (try dsimp only at hSw); go_simp; try with_reducible rfl)
                    (try dsimp only); (try simp only [Act.put]); (try simp only [List.setIfInBounds_toArray]); (try simp only [List.set_cons_succ]); (try simp only [List.set_cons_zero])
                    refine wpAnyH_take (i := 22) (oi := _) (v := ?_) rfl (by kernel_rfl) (by kernel_rfl) (by kernel_rfl) (fun _ _ _ h => h) (Or.inl ⟨by rfl, ?_⟩) (by assumption) ?_
                    rotate_left
                    · (intro w hSw; (try dsimp only at hSw); go_simp; try with_reducible rfl)
                    (try dsimp only); (try simp only [Act.put]); (try simp only [List.setIfInBounds_toArray]); (try simp only [List.set_cons_succ]); (try simp only [List.set_cons_zero])
                    refine wpAnyH_ready (rs := [23]) (by kernel_rfl) (by simp) ?_
                    refine AllReadyH.cons (o := _) rfl (fun K hK => ?_) AllReadyH.nil
                    go_simp
                    refine hK.out _ _ (by (try dsimp only); exact HS2.out _ _ _ hHeld) (fun hHeld => ?_)
                    clear hK K
                    (try dsimp only); (try simp only [Act.put]); (try simp only [List.setIfInBounds_toArray]); (try simp only [List.set_cons_succ]); (try simp only [List.set_cons_zero])
                    refine wpAnyH_done (by kernel_rfl) ?_ _
                    refine NoPanic.normal ?_
                    go_wp2_with fail
                    go_roundw
                    case rel =>
                      have ho := HO.out
                      subst ho
                      simp only [Nat.zero_add]
                      refine ⟨k + 1, by omega, by go_num, ?_⟩
                      have h2 := HM.out.sn HGet.out HQ.out (by omega) a.N a.E
                      rw [show (⟨a.N, a.E, a.U⟩ : Sn) = a.tn true from rfl, stage_sn HA.out] at h2
                      exact h2
                    case measure => simp [intOf]; omega
                  · have hend : Mid q q0 L (L.mv e n tn) w n0 n13 wr := by
                      rw [← HFin.out]
                      cases tn with
                      | false => rw [stage_id (f := Sn.tn false) (fun x => rfl)] at hM; exact hM
                      | true =>
                        have : k = L.sn.length := by
                          by_cases h : k < L.sn.length
                          · exact absurd ⟨h, rfl⟩ hlt
                          · omega
                        subst this
                        rw [stage_full] at hM
                        exact hM
                    obtain ⟨L', hL'⟩ : ∃ L', L' = L.mv e n tn := ⟨_, rfl⟩
                    rw [← hL'] at hend
                    have halike : Alike L L' i j := by rw [hL']; exact alike_mv L e n tn i j
                    have e1 : L'.st.length = L.st.length := by rw [hL']; simp [Land.mv]
                    have e2 : L'.rd.length = L.rd.length := by rw [hL']; simp [Land.mv]
                    have e3 : L'.cs.length = L.cs.length := by rw [hL']; simp [Land.mv]
                    have e4 : L'.sn.length = L.sn.length := by rw [hL']; simp [Land.mv]
                    have hsm : Small L' := by
                      refine ⟨by rw [e1]; omega, by rw [e2]; omega, by rw [e3]; omega, by rw [e4]; omega, fun c hc => ?_⟩
                      rw [hL'] at hc
                      unfold Land.mv at hc
                      obtain ⟨d, hd, rfl⟩ := List.mem_map.1 hc
                      rw [List.length_map]
                      exact HS.out.l5 d hd
                    have hLA := hend.land.at
                    have hflt := lfault_any q0 L' wr hLA hsm
                    rw [e1, e2, e3, e4] at hflt
                    have hlk : Hid (∀ W, Below wr.heap.size wr W → L'.chk = 0 → Calls Try.prog 44 #[.agg #[.slice q.a1 L.st.length q.c1, .slice q.a2 L.rd.length q.c2, .slice q.a3 L.cs.length q.c3, .slice q.a4 L.sn.length q.c4], .agg #[.slice q0.a1 L.st.length q0.c1, .slice q0.a2 L.rd.length q0.c2, .slice q0.a3 L.cs.length q0.c3, .slice q0.a4 L.sn.length q0.c4], .int .i64 i, .int .i64 j] W (Ret (.bool true) W)) := fun W hb hc => by
                      have h := alike_any q q0 L L' i j W (HL.out.later (over hend.below hb)) (hLA.later hb) HR.out (ready_chk hc (by rw [e1]; exact l1)) halike p1 p2 HIJ.out
                      unfold landV at h
                      rw [e1, e2, e3, e4] at h
                      exact h
                    obtain ⟨fv, hfv⟩ : ∃ fv, fv = L'.chk := ⟨_, rfl⟩
                    rw [← hfv] at hflt hlk
                    have HFlt := Lib.hid hflt
                    have hW := hend.below
                    have B5 := hend.b5
                    have V0 := Below.refl wr.heap.size wr
                    clear hflt hfv hend halike e1 e2 e3 e4 hsm hLA hL' hM HM HM4 HFin hsnl
                    have hor : (k < L.sn.length ∧ tn = false) ∨ ¬ k < L.sn.length := by
                      by_cases h : k < L.sn.length
                      · refine .inl ⟨h, ?_⟩
                        cases tn with
                        | false => rfl
                        | true => exact absurd ⟨h, rfl⟩ hlt
                      · exact .inr h
                    clear hlt
                    have c5 := B5.cell; have t5 := B5.lt; have c13 := B13.cell; have t13 := B13.lt
                    rcases hor with ⟨hlt, rfl⟩ | hlt
                    all_goals
                      go_wp2_with fail
                      refine HFlt.out.mono ?_
                      rintro e' w6 ⟨rfl, hb6⟩
                      replace V0 := over V0 hb6
                      replace hW := over hW hb6; (try clear c5 t5 c13 t13); replace B5 := B5.later hb6; replace B13 := B13.later hb6; have c5 := B5.cell; have t5 := B5.lt; have c13 := B13.cell; have t13 := B13.lt; clear hb6 HFlt
                      by_cases hf0 : fv = 0
                      · subst hf0
                        have HLk := Lib.hid (hlk.out w6 V0 rfl)
                        clear hlk V0
                        go_wp2_with fail
                        refine HLk.out.mono ?_
                        rintro e' w7 ⟨rfl, hb7⟩
                        replace hW := over hW hb7; clear hb7 HLk
                        go_wp2_with fail
                        refine (awake_any _).mono ?_
                        rintro e' w8 ⟨rfl, hbx⟩
                        replace hW := over hW hbx; clear hbx 
                        go_wp2_with fail
                        go_ret
                        exact ⟨rfl, hW⟩
                      · have hfb : (fv != 0) = true := by simpa using hf0
                        clear hf0 hlk V0
                        go_wp2_with fail
                        refine (awake_any _).mono ?_
                        rintro e' w7 ⟨rfl, hbx⟩
                        replace hW := over hW hbx; clear hbx 
                        go_wp2_with fail
                        go_ret
                        exact ⟨rfl, hW⟩
end Go.Proofs.Ytmfnkmmbihmjnaa
