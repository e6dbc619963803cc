/- The statement on walls that are too low or too high: its walk. -/
import Derived.Test.YtmfnkmmbihmjnaaSet2
import Derived.Test.YtmfnkmmbihmjnaaMore1
import Derived.Deep.DeepCutAuto
import Derived.Deep.CutBlock
import Derived.Deep.RegionHeld3
import Derived.Deep.DrawnRows
open Go.RowKit
namespace Go.Proofs.Ytmfnkmmbihmjnaa
open Go.Hill
attribute [local go_sem ↓] Go.wp_at_zero Go.wp_at_succ

theorem landR_setCs {W' : World} {n0 k : Nat} {q : LV} {L : Land} {c : List Cd} (hc : CasesR W' n0 (.slice q.a3 L.cs.length q.c3) (L.cs.set k c)) (hst : Own W' n0 64 4 (.slice q.a1 L.st.length q.c1) (L.st.map Stn.vs))
    (hrd : Own W' n0 55 6 (.slice q.a2 L.rd.length q.c2) (L.rd.map Wl.vs)) (hsn : Own W' n0 50 3 (.slice q.a4 L.sn.length q.c4) (L.sn.map Sn.vs)) : LandR W' n0 q (L.setCs k c) := by
  have hlen : (L.setCs k c).cs.length = L.cs.length := by simp [Land.setCs]
  exact ⟨hst, hrd, by rw [hlen]; exact hc, hsn⟩
/-- What lies elsewhere is there still when a case row has been appended to and stored back. -/
structure Kept (W W' : World) (n0 : Nat) : Prop where
  own : ∀ {m E size u xs}, Own W m E size u xs → E ≠ 61 → E ≠ 59 → Own W' m E size u xs
  box : ∀ {b cs T}, Box W b cs T → T ≠ 61 → T ≠ 59 → Box W' b cs T
  below : ∀ {w : World}, Below w.heap.size w W → w.heap.size ≤ n0 → Below w.heap.size w W'
theorem kept_case {W W1 W2 : World} {n0 g p : Nat} {v nv : Value} {xs : List (List Value)} {cur : Array Value} (hB : Box W g cur 59) (hg0 : n0 ≤ g) (hx : Own W n0 61 8 v xs) (hb : Below W.heap.size W W1) (hg : W1.grownBy W2 v.ownBlock) :
    Kept W (W2.setCell ⟨g, p, none⟩ nv) n0 := by
  have hbut := setCell_but W2 g p nv
  have hx1 := hx.later hb
  have hB2 : Box W2 g cur 59 := (hg.block g (Nat.lt_of_lt_of_le hB.lt hb.size) fun e => own_ne hx1 (hB.later hb) (by decide) e.symm).trans (hB.later hb)
  refine ⟨fun h h1 h2 => ((h.later hb).apart hx1 h1 hg).other hB2 (Ne.symm h2) hbut, fun {b cs T} h h1 h2 => ?_, fun {w0} hw hn => ?_⟩
  · have h3 : Box W2 b cs T := (hg.block b (Nat.lt_of_lt_of_le h.lt hb.size) fun e => own_ne hx1 (h.later hb) h1 e.symm).trans (h.later hb)
    refine hbut.box h3 fun e => ?_
    subst e
    unfold Box at h3 hB2
    rw [hB2] at h3
    cases h3; exact h2 rfl
  · exact hbut.below ((over hw hb).trans (below_grown hg (over hw hb).size fun k hk => Nat.le_trans hn (hx.1.lt k hk).1)) (by omega)
theorem own_row8 {W : World} {base : Nat} {E : TypeId} {v : Value} {xcs : List Cd} (h : Own W base E 8 v (xcs.map Cd.vs)) : W.ownsRow base E 8 v xcs.length (xcs.map Cd.vs).flatten := by
  have := h.1; rwa [List.length_map] at this
theorem own_snoc {W W' : World} {base m : Nat} {E : TypeId} {size : Nat} {v v' : Value} {xs : List (List Value)} {ys : List Value} (h : Own W base E size v xs) (hm : xs.length = m) (h2 : W'.ownsRow base E size v' (m + 1) (xs.flatten ++ ys)) (hl : ys.length = size) : Own W' base E size v' (xs ++ [ys]) := by
  subst hm
  refine ⟨by simpa using h2, fun y hy => ?_⟩
  rcases List.mem_append.1 hy with hy | hy
  · exact h.2 y hy
  · simp at hy; subst hy; exact hl
/-- The new index is among the clouds that block just where the new wall does. -/
theorem cb_new {L : Land} {i j k : Nat} {a b : Stn} {cs : List Cd} {x : Wl} {m : Int} (hi : L.st[i]? = some a) (hj : L.st[j]? = some b) (hk : L.cs[k]? = some cs) (hm : 0 ≤ m) :
    ((L.setCs k (cs ++ [⟨x, 0, m⟩])).cbs i j k 0).contains (cs.length : Int) = blk x a b := by
  have hkl : k < L.cs.length := (List.getElem?_eq_some_iff.1 hk).1
  have hka : (L.setCs k (cs ++ [⟨x, 0, m⟩])).kase k = cs ++ [⟨x, 0, m⟩] := by unfold Land.kase Land.setCs; simp [hkl]
  unfold Land.cbs
  rw [sel_contains, hka]
  have hcb : (L.setCs k (cs ++ [⟨x, 0, m⟩])).cb i j k 0 cs.length = blk x a b := by
    unfold Land.cb
    rw [hka, show (L.setCs k (cs ++ [⟨x, 0, m⟩])).st = L.st from rfl, hi, hj]
    simp [inB, hm]
  rw [hcb]
  simp

set_option maxRecDepth 100000 in
set_option maxHeartbeats 4000000 in
theorem HillOver_any (q : LV) (L : Land) (c kk : Nat) (x : Wl) (w : World) (hL : LandAt w q L) (hs : Sane L) (hcc : c < 256) (hkk : kk < 256) :
    Calls Try.prog 13 #[landV q L, .int .u8 c, .int .u8 kk, .agg #[.int .i64 x.X1, .int .i64 x.Y1, .int .i64 x.X2, .int .i64 x.Y2, .int .i64 x.B, .int .i64 x.T]] w (Ret (.bool true) w) := by
  obtain ⟨tv, htv⟩ : ∃ tv, tv = readyB L := ⟨_, rfl⟩
  have HReady : Hid (∀ W, Below w.heap.size w W → Calls Try.prog 30 #[landV q L] W (Ret (.bool tv) W)) := fun W hW => by rw [htv]; exact ready_any q L W (hL.later hW) hs
  have HL := Lib.hid hL
  have HTv := Lib.hid htv
  clear hL hs htv
  go_enter Try.func13, Try.ntmps13
  go_wp2_with fail
  refine named2 (p := fun W => Calls _ _ _ W _) ?_
  intro W hW B5 B7
  refine (HReady.out W hW).mono ?_
  rintro e w1 ⟨rfl, hb1⟩
  replace hW := over hW hb1
  (try clear c5 t5 c7 t7); replace B5 := B5.later hb1; replace B7 := B7.later hb1; have c5 := B5.cell; have t5 := B5.lt; have c7 := B7.cell; have t7 := B7.lt
  clear hb1 HReady
  cases tv with
  | false =>
    go_wp2_with fail
    refine (awake_any _).mono ?_
    rintro e w2 ⟨rfl, hb2⟩
    replace hW := over hW hb2
    clear hb2
    go_wp2_with fail
    go_ret
    exact ⟨rfl, hW⟩
  | true =>
    have R := ready_of HTv.out.symm
    have HR := Lib.hid R
    have HS := Lib.hid (small_of R.chk)
    obtain ⟨p1, p2, p3⟩ := pair_spec (c := c) R.st1
    have l1 := R.st1
    have l6 := R.st6
    have m4 := R.cs4
    have m1 := R.cs1
    have s1 := R.sn1
    have s12 := R.sn12
    clear R
    go_wp2_with fail
    refine (pair_any q L.st.length _ _ _ c _ l1 (by omega) hcc).mono ?_
    rintro e w2 ⟨rfl, hb2⟩
    replace hW := over hW hb2
    (try clear c5 t5 c7 t7); replace B5 := B5.later hb2; replace B7 := B7.later hb2; have c5 := B5.cell; have t5 := B5.lt; have c7 := B7.cell; have t7 := B7.lt
    clear hb2
    generalize pairA L.st.length c = i at *
    generalize pairB L.st.length c = j at *
    have HIJ := Lib.hid p3
    clear p3
    have hk1 : ((kk % L.cs.length : Nat) : Int) = (kk : Int) % (L.cs.length : Int) := by simp
    have hk3 := Nat.mod_lt kk (show 0 < L.cs.length by omega)
    have hz2 : IntKind.i64.wrap (kk : Int) = (kk : Int) := IntWalk.i64_in _ (by omega)
    have hk5 : (0 : Int) ≤ (kk : Int) % (L.cs.length : Int) ∧ (kk : Int) % (L.cs.length : Int) < 12 := by omega
    go_wp2_with fail
    rw [← hk1]
    clear hk1 hz2 hk5
    generalize kk % L.cs.length = k at *
    have hlt3 : w.heap.size + 1 < w2.heap.size := t7
    refine (copied_any q L w2 (HL.out.later hW) HS.out).mono ?_
    rintro e w4 ⟨q0, rfl, hb4, hR4⟩
    replace hW := over hW hb4
    (try clear c5 t5 c7 t7); replace B5 := B5.later hb4; replace B7 := B7.later hb4; have c5 := B5.cell; have t5 := B5.lt; have c7 := B7.cell; have t7 := B7.lt
    have HR4 := Lib.hid hR4
    have hsz4 := hb4.size
    clear hb4 hR4
    go_upto_region 6 with fail
    refine named1 (p := Code.wp _ _ _ _) ?_
    intro W5 hb5 B13
    have hsz13 : w2.heap.size ≤ w4.heap.size := hsz4
    replace hW := over hW hb5
    (try clear c5 t5 c7 t7); replace B5 := B5.later hb5; replace B7 := B7.later hb5; have c5 := B5.cell; have t5 := B5.lt; have c7 := B7.cell; have t7 := B7.lt
    obtain ⟨cs, hkc⟩ := some_of hk3
    have hR5 := HR4.out.later hb5
    obtain ⟨g, cc, ⟨xa, xc, xcs⟩, cur, hq, hgn, hBg, hxcs, hcell, hown, hset⟩ := hR5.cs.case hkc
    simp only at hxcs
    subst hxcs
    obtain ⟨x1, y1, x2, y2, x3, y3, x4, y4⟩ := q0
    simp only at hq B13
    injection hq with hq1 hq2 hq3
    clear hq2
    subst hq3
    have hxl := HS.out.l5 xcs (List.mem_of_getElem? hkc)
    obtain ⟨o, ho⟩ : ∃ o : Nat, o = 0 := ⟨_, rfl⟩
    have hq4 : x3 = some ⟨g, o, none⟩ := by rw [hq1, ho]
    have cg : W5.cell? ⟨g, o + k, none⟩ = some (.slice xa xcs.length xc) := by rw [ho, Nat.zero_add]; exact hcell
    have tg := hBg.lt
    have HSet := Lib.hid hset
    have HOwn := Lib.hid (show Own W5 w2.heap.size 61 8 (.slice xa xcs.length xc) (xcs.map Cd.vs) from hown)
    have HKc := Lib.hid hkc
    have r7 : (0 : Int) ≤ (k : Int) := by omega
    have r8 : (k : Int) < (L.cs.length : Int) := by omega
    have HQ := Lib.hid hq1
    rw [hq4] at B13 ⊢
    have HHo := Lib.hid ho
    have HBg := Lib.hid hBg
    have HR5 := Lib.hid hR5
    have hn5 : w2.heap.size ≤ W5.heap.size := by omega
    have hs0 : (0 : Int) ≤ (L.sn.length : Int) - 1 := by omega
    have c13 := B13.cell; have t13 := B13.lt
    have hgw : w.heap.size + 1 < g := by omega
    clear hq1 hq4 hcell hset hown HR4 hkc hb5 ho hR5 hBg
    generalize w4.heap.size = n13 at *
    have hbx : ∀ {b cs T}, Box W5 b cs T → T ≠ 61 → (Value.slice xa xcs.length xc).ownBlock ≠ some b := fun h hne => own_ne HOwn.out h hne
    have a13 := hbx B13 (by decide)
    have a5 := hbx B5 (by decide)
    have a7 := hbx B7 (by decide)
    have ag := hbx HBg.out (by decide)
    have hxy : xcs.length + 1 ≤ maxLen := by unfold maxLen; omega
    have hxz : (xcs.length + 1) * 64 ≤ 140737488355328 := by omega
    have HK5 : Hid (∀ A B : World, Below W5.heap.size W5 A → A.grownBy B (Value.slice xa xcs.length xc).ownBlock → ∀ b o, b < W5.heap.size → (Value.slice xa xcs.length xc).ownBlock ≠ some b → B.cell? ⟨b, o, none⟩ = W5.cell? ⟨b, o, none⟩ ∧ B.frozen? ⟨b, o, none⟩ = W5.frozen? ⟨b, o, none⟩) := fun A B hA hg b o hlt hne =>
      ⟨(hg.cell_far ⟨b, o, none⟩ (Nat.lt_of_lt_of_le hlt hA.size) (fun e => hne e.symm)).trans (hA.cell (p := ⟨b, o, none⟩) hlt), (hg.frozen_far ⟨b, o, none⟩ (Nat.lt_of_lt_of_le hlt hA.size) (fun e => hne e.symm)).trans (hA.frozen (p := ⟨b, o, none⟩) hlt)⟩
    have fg := HBg.out.frozen (o + k)
    have HA := Lib.hid (And.intro a13 (And.intro a5 (And.intro a7 ag)))
    have n1 : n13 ≠ g := fun e => by subst e; exact absurd B13 (fun h => by have h' := HBg.out; unfold Box at h h'; rw [h'] at h; cases h)
    clear a13 a5 a7 ag hbx
    obtain ⟨i0, z0, hi0, hz0, hz1, hz2, hz3⟩ := elem_rcd.get
    have hu := elem_rcd.ht
    have nw : w.heap.size ≠ g := by omega
    have nw1 : w.heap.size + 1 ≠ g := by omega
    have HS0 : Hid (∀ A B : World, Below W5.heap.size W5 A → A.grownBy B (Value.slice xa xcs.length xc).ownBlock → B.cell? ⟨n13, 2, none⟩ = some (.slice (some ⟨g, o, none⟩) L.cs.length y3) ∧ B.cell? ⟨w.heap.size, 3, none⟩ = some (.slice q.a4 L.sn.length q.c4) ∧ B.cell? ⟨w.heap.size + 1, 0, none⟩ = some (.int .i64 x.X1) ∧ B.cell? ⟨w.heap.size + 1, 1, none⟩ = some (.int .i64 x.Y1) ∧ B.cell? ⟨w.heap.size + 1, 2, none⟩ = some (.int .i64 x.X2) ∧ B.cell? ⟨w.heap.size + 1, 3, none⟩ = some (.int .i64 x.Y2) ∧ B.cell? ⟨w.heap.size + 1, 4, none⟩ = some (.int .i64 x.B) ∧ B.cell? ⟨w.heap.size + 1, 5, none⟩ = some (.int .i64 x.T)) := fun A B hA hg => by
      obtain ⟨a13, a5, a7, _⟩ := HA.out
      have k7 := fun o => (HK5.out A B hA hg (w.heap.size + 1) o t7 a7).1
      rw [(HK5.out A B hA hg n13 2 t13 a13).1, (HK5.out A B hA hg w.heap.size 3 t5 a5).1, k7, k7, k7, k7, k7, k7]
      exact ⟨B13.cell 2, B5.cell 3, B7.cell 0, B7.cell 1, B7.cell 2, B7.cell 3, B7.cell 4, B7.cell 5⟩
    have HG0 : Hid (∀ A B : World, Below W5.heap.size W5 A → A.grownBy B (Value.slice xa xcs.length xc).ownBlock → B.cell? ⟨g, o + k, none⟩ = some (.slice xa xcs.length xc) ∧ B.frozen? ⟨g, o + k, none⟩ = false ∧ g < B.heap.size) := fun A B hA hg => by
      obtain ⟨_, _, _, ag⟩ := HA.out
      have h := HK5.out A B hA hg g (o + k) tg ag
      exact ⟨h.1.trans cg, h.2.trans fg, Nat.lt_of_lt_of_le tg (Nat.le_trans hA.size hg.size)⟩
    have HS1 : Hid (∀ (B : World) (v : Value), B.cell? ⟨n13, 2, none⟩ = some (.slice (some ⟨g, o, none⟩) L.cs.length y3) ∧ B.cell? ⟨w.heap.size, 3, none⟩ = some (.slice q.a4 L.sn.length q.c4) ∧ B.cell? ⟨w.heap.size + 1, 0, none⟩ = some (.int .i64 x.X1) ∧ B.cell? ⟨w.heap.size + 1, 1, none⟩ = some (.int .i64 x.Y1) ∧ B.cell? ⟨w.heap.size + 1, 2, none⟩ = some (.int .i64 x.X2) ∧ B.cell? ⟨w.heap.size + 1, 3, none⟩ = some (.int .i64 x.Y2) ∧ B.cell? ⟨w.heap.size + 1, 4, none⟩ = some (.int .i64 x.B) ∧ B.cell? ⟨w.heap.size + 1, 5, none⟩ = some (.int .i64 x.T) → (B.setCell ⟨g, o + k, none⟩ v).cell? ⟨n13, 2, none⟩ = some (.slice (some ⟨g, o, none⟩) L.cs.length y3) ∧ (B.setCell ⟨g, o + k, none⟩ v).cell? ⟨w.heap.size, 3, none⟩ = some (.slice q.a4 L.sn.length q.c4) ∧ (B.setCell ⟨g, o + k, none⟩ v).cell? ⟨w.heap.size + 1, 0, none⟩ = some (.int .i64 x.X1) ∧ (B.setCell ⟨g, o + k, none⟩ v).cell? ⟨w.heap.size + 1, 1, none⟩ = some (.int .i64 x.Y1) ∧ (B.setCell ⟨g, o + k, none⟩ v).cell? ⟨w.heap.size + 1, 2, none⟩ = some (.int .i64 x.X2) ∧ (B.setCell ⟨g, o + k, none⟩ v).cell? ⟨w.heap.size + 1, 3, none⟩ = some (.int .i64 x.Y2) ∧ (B.setCell ⟨g, o + k, none⟩ v).cell? ⟨w.heap.size + 1, 4, none⟩ = some (.int .i64 x.B) ∧ (B.setCell ⟨g, o + k, none⟩ v).cell? ⟨w.heap.size + 1, 5, none⟩ = some (.int .i64 x.T)) := fun B v hS => by
      have c : ∀ b p, b ≠ g → (B.setCell ⟨g, o + k, none⟩ v).cell? ⟨b, p, none⟩ = B.cell? ⟨b, p, none⟩ := fun b p h => World.cell?_of_block ((setCell_but B g (o + k) v).block b h)
      rw [c n13 2 n1, c w.heap.size 3 nw, c _ 0 nw1, c _ 1 nw1, c _ 2 nw1, c _ 3 nw1, c _ 4 nw1, c _ 5 nw1]
      exact hS
    have hwr : IntKind.i64.wrap ((L.sn.length : Int) - 1) = (L.sn.length : Int) - 1 := IntWalk.i64_in _ (by omega)
    clear HK5 HA
    go_cut [53] (fun _ wx => ∃ (W1 W2 : World) (a' : Option Addr) (c' : Nat), Below W5.heap.size W5 W1 ∧ W1.grownBy W2 (Value.slice xa xcs.length xc).ownBlock ∧ Own W2 w2.heap.size 61 8 (.slice a' (xcs.length + 1) c') ((xcs ++ [(⟨x, 0, (L.sn.length : Int) - 1⟩ : Cd)]).map Cd.vs) ∧ (∀ b, (Value.slice a' (xcs.length + 1) c').ownBlock = some b → (Value.slice xa xcs.length xc).ownBlock = some b ∨ W1.heap.size ≤ b) ∧
      wx = W2.setCell ⟨g, o + k, none⟩ (.slice a' (xcs.length + 1) c'))
    case first =>
      refine wp_region_noPanic ?_
      refine wp_region_held_drew (S := (fun w' => w'.cell? ⟨n13, 2, none⟩ = some (.slice (some ⟨g, o, none⟩) L.cs.length y3) ∧ w'.cell? ⟨w.heap.size, 3, none⟩ = some (.slice q.a4 L.sn.length q.c4) ∧ w'.cell? ⟨w.heap.size + 1, 0, none⟩ = some (.int .i64 x.X1) ∧ w'.cell? ⟨w.heap.size + 1, 1, none⟩ = some (.int .i64 x.Y1) ∧ w'.cell? ⟨w.heap.size + 1, 2, none⟩ = some (.int .i64 x.X2) ∧ w'.cell? ⟨w.heap.size + 1, 3, none⟩ = some (.int .i64 x.Y2) ∧ w'.cell? ⟨w.heap.size + 1, 4, none⟩ = some (.int .i64 x.B) ∧ w'.cell? ⟨w.heap.size + 1, 5, none⟩ = some (.int .i64 x.T))) (by kernel_rfl) (by (try dsimp only); go_keep) (fun hHeld => ?_)
      refine wpAnyH_take (i := 0) (oi := _) (v := ?_) rfl (by kernel_rfl) (by kernel_rfl) (by kernel_rfl) (fun _ _ _ h => h) (Or.inl ⟨by rfl, ?_⟩) (by assumption) ?_
      rotate_left
      · (intro w hSw; (try dsimp only at hSw); go_simp; try with_reducible rfl)
      (try dsimp only); (try simp only [Act.put]); (try simp only [List.setIfInBounds_toArray]); (try simp only [List.set_cons_succ]); (try simp only [List.set_cons_zero])
      refine wpAnyH_take (i := 1) (oi := _) (v := ?_) rfl (by kernel_rfl) (by kernel_rfl) (by kernel_rfl) (fun _ _ _ h => h) (Or.inl ⟨by rfl, ?_⟩) (by assumption) ?_
      rotate_left
      · (intro w hSw; (try dsimp only at hSw); go_simp; try with_reducible rfl)
      (try dsimp only); (try simp only [Act.put]); (try simp only [List.setIfInBounds_toArray]); (try simp only [List.set_cons_succ]); (try simp only [List.set_cons_zero])
      refine wpAnyH_take (i := 2) (oi := _) (v := ?_) rfl (by kernel_rfl) (by kernel_rfl) (by kernel_rfl) (fun _ _ _ h => h) (Or.inl ⟨by rfl, ?_⟩) (by assumption) ?_
      rotate_left
      · (intro w hSw; (try dsimp only at hSw); go_simp; try with_reducible rfl)
      (try dsimp only); (try simp only [Act.put]); (try simp only [List.setIfInBounds_toArray]); (try simp only [List.set_cons_succ]); (try simp only [List.set_cons_zero])
      refine wpAnyH_take (i := 3) (oi := _) (v := ?_) rfl (by kernel_rfl) (by kernel_rfl) (by kernel_rfl) (fun _ _ _ h => h) (Or.inl ⟨by rfl, ?_⟩) (by assumption) ?_
      rotate_left
      · (intro w hSw; (try dsimp only at hSw); go_simp; try with_reducible rfl)
      (try dsimp only); (try simp only [Act.put]); (try simp only [List.setIfInBounds_toArray]); (try simp only [List.set_cons_succ]); (try simp only [List.set_cons_zero])
      refine wpAnyH_take (i := 4) (oi := _) (v := ?_) rfl (by kernel_rfl) (by kernel_rfl) (by kernel_rfl) (fun _ _ _ h => h) (Or.inl ⟨by rfl, ?_⟩) (by assumption) ?_
      rotate_left
      · (intro w hSw; (try dsimp only at hSw); go_simp; try with_reducible rfl)
      (try dsimp only); (try simp only [Act.put]); (try simp only [List.setIfInBounds_toArray]); (try simp only [List.set_cons_succ]); (try simp only [List.set_cons_zero])
      refine wpAnyH_take (i := 5) (oi := _) (v := ?_) rfl (by kernel_rfl) (by kernel_rfl) (by kernel_rfl) (fun _ _ _ h => h) (Or.inl ⟨by rfl, ?_⟩) (by assumption) ?_
      rotate_left
      · (intro w hSw; (try dsimp only at hSw); go_simp; try with_reducible rfl)
      (try dsimp only); (try simp only [Act.put]); (try simp only [List.setIfInBounds_toArray]); (try simp only [List.set_cons_succ]); (try simp only [List.set_cons_zero])
      refine wpAnyH_take (i := 6) (oi := _) (v := ?_) rfl (by kernel_rfl) (by kernel_rfl) (by kernel_rfl) (fun _ _ _ h => h) (Or.inl ⟨by rfl, ?_⟩) (by assumption) ?_
      rotate_left
      · (intro w hSw; (try dsimp only at hSw); go_simp; try with_reducible rfl)
      (try dsimp only); (try simp only [Act.put]); (try simp only [List.setIfInBounds_toArray]); (try simp only [List.set_cons_succ]); (try simp only [List.set_cons_zero])
      refine wpAnyH_take (i := 8) (oi := _) (v := ?_) rfl (by kernel_rfl) (by kernel_rfl) (by kernel_rfl) (fun _ _ _ h => h) (Or.inl ⟨by rfl, ?_⟩) (by assumption) ?_
      rotate_left
      · (intro w hSw; (try dsimp only at hSw); go_simp; try with_reducible rfl)
      (try dsimp only); (try simp only [Act.put]); (try simp only [List.setIfInBounds_toArray]); (try simp only [List.set_cons_succ]); (try simp only [List.set_cons_zero])
      refine wpAnyH_take (i := 9) (oi := _) (v := ?_) rfl (by kernel_rfl) (by kernel_rfl) (by kernel_rfl) (fun _ _ _ h => h) (Or.inl ⟨by rfl, ?_⟩) (by assumption) ?_
      rotate_left
      · (intro w hSw; (try dsimp only at hSw); go_simp; try with_reducible rfl)
      (try dsimp only); (try simp only [Act.put]); (try simp only [List.setIfInBounds_toArray]); (try simp only [List.set_cons_succ]); (try simp only [List.set_cons_zero])
      refine wpAnyH_take (i := 10) (oi := _) (v := ?_) rfl (by kernel_rfl) (by kernel_rfl) (by kernel_rfl) (fun _ _ _ h => h) (Or.inl ⟨by rfl, ?_⟩) (by assumption) ?_
      rotate_left
      · (intro w hSw; (try dsimp only at hSw); go_simp; try with_reducible rfl)
      (try dsimp only); (try simp only [Act.put]); (try simp only [List.setIfInBounds_toArray]); (try simp only [List.set_cons_succ]); (try simp only [List.set_cons_zero])
      refine wpAnyH_take (i := 11) (oi := _) (v := ?_) rfl (by kernel_rfl) (by kernel_rfl) (by kernel_rfl) (fun _ _ _ h => h) (Or.inl ⟨by rfl, ?_⟩) (by assumption) ?_
      rotate_left
      · (intro w hSw; (try dsimp only at hSw); go_simp; try with_reducible rfl)
      (try dsimp only); (try simp only [Act.put]); (try simp only [List.setIfInBounds_toArray]); (try simp only [List.set_cons_succ]); (try simp only [List.set_cons_zero])
      refine wpAnyH_take (i := 12) (oi := _) (v := ?_) rfl (by kernel_rfl) (by kernel_rfl) (by kernel_rfl) (fun _ _ _ h => h) (Or.inl ⟨by rfl, ?_⟩) (by assumption) ?_
      rotate_left
      · (intro w hSw; (try dsimp only at hSw); go_simp; try with_reducible rfl)
      (try dsimp only); (try simp only [Act.put]); (try simp only [List.setIfInBounds_toArray]); (try simp only [List.set_cons_succ]); (try simp only [List.set_cons_zero])
      refine wpAnyH_take (i := 13) (oi := _) (v := ?_) rfl (by kernel_rfl) (by kernel_rfl) (by kernel_rfl) (fun _ _ _ h => h) (Or.inl ⟨by rfl, ?_⟩) (by assumption) ?_
      rotate_left
      · (intro w hSw; (try dsimp only at hSw); go_simp; try with_reducible rfl)
      (try dsimp only); (try simp only [Act.put]); (try simp only [List.setIfInBounds_toArray]); (try simp only [List.set_cons_succ]); (try simp only [List.set_cons_zero])
      refine wpAnyH_ready (rs := [7, 14]) (by kernel_rfl) (by simp) ?_
      refine AllReadyH.cons (o := _) rfl (fun K hK => ?_) (AllReadyH.cons (o := _) rfl (fun K hK => ?_) AllReadyH.nil)
      · go_simp
        refine hK.out _ _ (by (try dsimp only); assumption) (fun hHeld => ?_)
        clear hK K
        (try dsimp only); (try simp only [Act.put]); (try simp only [List.setIfInBounds_toArray]); (try simp only [List.set_cons_succ]); (try simp only [List.set_cons_zero])
        refine wpAnyH_ready (rs := [14]) (by kernel_rfl) (by simp) ?_
        refine AllReadyH.cons (o := _) rfl (fun K hK => ?_) AllReadyH.nil
        go_simp
        refine hK.out _ _ (by (try dsimp only); go_keep) (fun hHeld => ?_)
        clear hK K
        (try dsimp only); (try simp only [Act.put]); (try simp only [List.setIfInBounds_toArray]); (try simp only [List.set_cons_succ]); (try simp only [List.set_cons_zero])
        refine wpAnyH_ready (rs := [15]) (by kernel_rfl) (by simp) ?_
        refine AllReadyH.cons (o := _) rfl (fun K hK => ?_) AllReadyH.nil
        refine step_append_lies _ (by rfl) _ _ _ (by rfl) w2.heap.size 61 i0 z0 8 64 hu hi0 hz0 hz1 hz2 hz3 (by omega) (.slice xa xcs.length xc) xcs.length (xcs.map Cd.vs).flatten (by rfl) (by exact own_row8 (HOwn.out.later (show Below W5.heap.size W5 _ from (by repeat (first | exact Below.refl _ _ | refine al ?_ _ | refine Below.drew ?_ | refine sc ?_ (by simp) _))))) ⟨W5.heap.size, 0, none⟩ 1 1 [.int .i64 x.X1, .int .i64 x.Y1, .int .i64 x.X2, .int .i64 x.Y2, .int .i64 x.B, .int .i64 x.T, .int .i64 0, .int .i64 ((L.sn.length : Int) - 1)] (by rfl) (by rfl) (World.news_of_block (cs := #[.int .i64 x.X1, .int .i64 x.Y1, .int .i64 x.X2, .int .i64 x.Y2, .int .i64 x.B, .int .i64 x.T, .int .i64 0, .int .i64 ((L.sn.length : Int) - 1)]) (t := 61) (fr := (0, 0)) (by exact heap_alloc_new W5 _)) (by simp [Value.oneCell']) (by omega) hxy hxz (by simp; omega) (W5.heap.size + 1) (by simp) ?_
        intro g3 cap3 w6 hown6 hgrow hat hlt6
        have hg6 := HG0.out _ _ (by repeat (first | exact Below.refl _ _ | refine al ?_ _ | refine Below.drew ?_ | refine sc ?_ (by simp) _)) hgrow
        obtain ⟨hg6a, hg6b, hg6c⟩ := hg6
        refine hK.out _ _ (by (try dsimp only); exact HS0.out _ _ (by repeat (first | exact Below.refl _ _ | refine al ?_ _ | refine Below.drew ?_ | refine sc ?_ (by simp) _)) hgrow) (fun hHeld => ?_)
        clear hK K
        (try dsimp only); (try simp only [Act.put]); (try simp only [List.setIfInBounds_toArray]); (try simp only [List.set_cons_succ]); (try simp only [List.set_cons_zero])
        refine wpAnyH_take (i := 16) (oi := _) (v := ?_) rfl (by kernel_rfl) (by kernel_rfl) (by kernel_rfl) (fun _ _ _ h => h) (Or.inl ⟨by rfl, ?_⟩) (by assumption) ?_
        rotate_left
        · (intro w hSw; (try dsimp only at hSw); go_simp; try with_reducible rfl)
        (try dsimp only); (try simp only [Act.put]); (try simp only [List.setIfInBounds_toArray]); (try simp only [List.set_cons_succ]); (try simp only [List.set_cons_zero])
        refine wpAnyH_ready (rs := [17]) (by kernel_rfl) (by simp) ?_
        refine AllReadyH.cons (o := _) rfl (fun K hK => ?_) AllReadyH.nil
        go_simp
        refine hK.out _ _ (by (try dsimp only); exact HS1.out _ _ (by assumption)) (fun hHeld => ?_)
        clear hK K
        (try dsimp only); (try simp only [Act.put]); (try simp only [List.setIfInBounds_toArray]); (try simp only [List.set_cons_succ]); (try simp only [List.set_cons_zero])
        refine wpAnyH_done (by kernel_rfl) ?_ _
        refine NoPanic.normal ?_
        go_wp2_with fail
        go_meet
        refine ⟨_, w6, _, cap3, ?_, hgrow, ?_, ?_, rfl⟩
        · exact (by repeat (first | exact Below.refl _ _ | refine al ?_ _ | refine Below.drew ?_ | refine sc ?_ (by simp) _))
        · rw [List.map_append]
          exact own_snoc HOwn.out (by simp) hown6 rfl
        · intro b hb
          cases hb
          rcases hat with h | h
          · exact .inl h
          · subst h
            exact .inr (by simp)
      · go_simp
        refine hK.out _ _ (by (try dsimp only); go_keep) (fun hHeld => ?_)
        clear hK K
        (try dsimp only); (try simp only [Act.put]); (try simp only [List.setIfInBounds_toArray]); (try simp only [List.set_cons_succ]); (try simp only [List.set_cons_zero])
        refine wpAnyH_ready (rs := [7]) (by kernel_rfl) (by simp) ?_
        refine AllReadyH.cons (o := _) rfl (fun K hK => ?_) AllReadyH.nil
        go_simp
        refine hK.out _ _ (by (try dsimp only); assumption) (fun hHeld => ?_)
        clear hK K
        (try dsimp only); (try simp only [Act.put]); (try simp only [List.setIfInBounds_toArray]); (try simp only [List.set_cons_succ]); (try simp only [List.set_cons_zero])
        refine wpAnyH_ready (rs := [15]) (by kernel_rfl) (by simp) ?_
        refine AllReadyH.cons (o := _) rfl (fun K hK => ?_) AllReadyH.nil
        refine step_append_lies _ (by rfl) _ _ _ (by rfl) w2.heap.size 61 i0 z0 8 64 hu hi0 hz0 hz1 hz2 hz3 (by omega) (.slice xa xcs.length xc) xcs.length (xcs.map Cd.vs).flatten (by rfl) (by exact own_row8 (HOwn.out.later (show Below W5.heap.size W5 _ from (by repeat (first | exact Below.refl _ _ | refine al ?_ _ | refine Below.drew ?_ | refine sc ?_ (by simp) _))))) ⟨W5.heap.size, 0, none⟩ 1 1 [.int .i64 x.X1, .int .i64 x.Y1, .int .i64 x.X2, .int .i64 x.Y2, .int .i64 x.B, .int .i64 x.T, .int .i64 0, .int .i64 ((L.sn.length : Int) - 1)] (by rfl) (by rfl) (World.news_of_block (cs := #[.int .i64 x.X1, .int .i64 x.Y1, .int .i64 x.X2, .int .i64 x.Y2, .int .i64 x.B, .int .i64 x.T, .int .i64 0, .int .i64 ((L.sn.length : Int) - 1)]) (t := 61) (fr := (0, 0)) (by exact heap_alloc_new W5 _)) (by simp [Value.oneCell']) (by omega) hxy hxz (by simp; omega) (W5.heap.size + 1) (by simp) ?_
        intro g3 cap3 w6 hown6 hgrow hat hlt6
        have hg6 := HG0.out _ _ (by repeat (first | exact Below.refl _ _ | refine al ?_ _ | refine Below.drew ?_ | refine sc ?_ (by simp) _)) hgrow
        obtain ⟨hg6a, hg6b, hg6c⟩ := hg6
        refine hK.out _ _ (by (try dsimp only); exact HS0.out _ _ (by repeat (first | exact Below.refl _ _ | refine al ?_ _ | refine Below.drew ?_ | refine sc ?_ (by simp) _)) hgrow) (fun hHeld => ?_)
        clear hK K
        (try dsimp only); (try simp only [Act.put]); (try simp only [List.setIfInBounds_toArray]); (try simp only [List.set_cons_succ]); (try simp only [List.set_cons_zero])
        refine wpAnyH_take (i := 16) (oi := _) (v := ?_) rfl (by kernel_rfl) (by kernel_rfl) (by kernel_rfl) (fun _ _ _ h => h) (Or.inl ⟨by rfl, ?_⟩) (by assumption) ?_
        rotate_left
        · (intro w hSw; (try dsimp only at hSw); go_simp; try with_reducible rfl)
        (try dsimp only); (try simp only [Act.put]); (try simp only [List.setIfInBounds_toArray]); (try simp only [List.set_cons_succ]); (try simp only [List.set_cons_zero])
        refine wpAnyH_ready (rs := [17]) (by kernel_rfl) (by simp) ?_
        refine AllReadyH.cons (o := _) rfl (fun K hK => ?_) AllReadyH.nil
        go_simp
        refine hK.out _ _ (by (try dsimp only); exact HS1.out _ _ (by assumption)) (fun hHeld => ?_)
        clear hK K
        (try dsimp only); (try simp only [Act.put]); (try simp only [List.setIfInBounds_toArray]); (try simp only [List.set_cons_succ]); (try simp only [List.set_cons_zero])
        refine wpAnyH_done (by kernel_rfl) ?_ _
        refine NoPanic.normal ?_
        go_wp2_with fail
        go_meet
        refine ⟨_, w6, _, cap3, ?_, hgrow, ?_, ?_, rfl⟩
        · exact (by repeat (first | exact Below.refl _ _ | refine al ?_ _ | refine Below.drew ?_ | refine sc ?_ (by simp) _))
        · rw [List.map_append]
          exact own_snoc HOwn.out (by simp) hown6 rfl
        · intro b hb
          cases hb
          rcases hat with h | h
          · exact .inl h
          · subst h
            exact .inr (by simp)
    case rest =>
      obtain ⟨W1, W2, a', c', hb1, hg, ho', hn', hcut⟩ := hcut
      have hwx : wc = W2.setCell ⟨g, k, none⟩ (.slice a' (xcs.length + 1) c') := by rw [hcut, HHo.out, Nat.zero_add]
      clear hcut HS0 HS1 HG0 hwr
      have hK : Kept W5 wc w2.heap.size := by rw [hwx]; exact kept_case HBg.out hgn HOwn.out hb1 hg
      have hcl : (xcs ++ [(⟨x, 0, (L.sn.length : Int) - 1⟩ : Cd)]).length = xcs.length + 1 := by simp
      have hC := HSet.out W1 W2 ⟨a', c', xcs ++ [(⟨x, 0, (L.sn.length : Int) - 1⟩ : Cd)]⟩ hb1 hg (by unfold CV.val; rw [hcl]; exact ho') (fun b hb => hn' b (by unfold CV.val at hb; rw [hcl] at hb; exact hb))
      rw [show CV.val ⟨a', c', xcs ++ [(⟨x, 0, (L.sn.length : Int) - 1⟩ : Cd)]⟩ = .slice a' (xcs.length + 1) c' by unfold CV.val; rw [hcl], ← hwx] at hC
      have ho := HHo.out
      subst ho
      have hq := HQ.out
      subst hq
      have hR := landR_setCs (q := ⟨x1, y1, x2, y2, some ⟨g, 0, none⟩, y3, x4, y4⟩) hC (hK.own HR5.out.st (by decide) (by decide)) (hK.own HR5.out.rd (by decide) (by decide)) (hK.own HR5.out.sn (by decide) (by decide))
      have hxlen : xcs.length ≤ 4 := HR.out.cd4 xcs (List.mem_of_getElem? HKc.out)
      simp only at hR
      obtain ⟨a, hsti⟩ := some_of p1
      obtain ⟨b, hstj⟩ := some_of p2
      have hnew := cb_new (x := x) hsti hstj HKc.out hs0
      obtain ⟨L', hL'⟩ : ∃ L', L' = L.setCs k (xcs ++ [(⟨x, 0, (L.sn.length : Int) - 1⟩ : Cd)]) := ⟨_, rfl⟩
      rw [← hL'] at hR hnew
      have e1 : L'.st.length = L.st.length := by rw [hL']; rfl
      have e2 : L'.rd.length = L.rd.length := by rw [hL']; rfl
      have e3 : L'.cs.length = L.cs.length := by rw [hL']; simp [Land.setCs]
      have e4 : L'.sn.length = L.sn.length := by rw [hL']; rfl
      have hsm : Small L' := by
        refine ⟨by rw [e1]; omega, by rw [e2]; exact HS.out.l2, by rw [e3]; omega, by rw [e4]; omega, fun c hc => ?_⟩
        rw [hL'] at hc
        rcases List.mem_or_eq_of_mem_set hc with hc | rfl
        · exact HS.out.l5 c hc
        · rw [hcl]; omega
      have hLA := hR.at
      have hflt := lfault_any _ L' wc hLA hsm
      rw [e1, e2, e3, e4] at hflt
      have D5 := hK.box B5 (by decide) (by decide)
      have D7 := hK.box B7 (by decide) (by decide)
      have D13 := hK.box B13 (by decide) (by decide)
      replace hW := hK.below hW (show w.heap.size ≤ w2.heap.size by omega)
      have HSm := Lib.hid hsm
      have HLA := Lib.hid hLA
      have HFlt := Lib.hid hflt
      have HNew := Lib.hid hnew
      have HSti := Lib.hid hsti
      have HStj := Lib.hid hstj
      have HE := Lib.hid (And.intro e1 (And.intro e2 (And.intro e3 e4)))
      clear hK hC hg ho' hn' hb1 hR hwx hcl hflt hnew hLA hsm e1 e2 e3 e4 HSet HOwn HBg HR5 HQ HHo hsti hstj B5 B7 B13 c5 t5 c7 t7 c13 t13 cg tg fg hxy hxz hi0 hz0 hz1 hz2 hz3 hu hL'
      have B5 := D5
      have B7 := D7
      have B13 := D13
      clear D5 D7 D13
      have c5 := B5.cell; have t5 := B5.lt; have c7 := B7.cell; have t7 := B7.lt; have c13 := B13.cell; have t13 := B13.lt
      obtain ⟨fv, hfv⟩ : ∃ fv, fv = L'.chk := ⟨_, rfl⟩
      rw [← hfv] at HFlt
      have HFv := Lib.hid hfv
      clear hfv
      go_wp2_with fail
      refine HFlt.out.mono ?_
      rintro e w6 ⟨rfl, hb6⟩
      replace HLA := Lib.hid (HLA.out.later hb6)
      replace hW := over hW hb6; (try clear c5 t5 c7 t7 c13 t13); replace B5 := B5.later hb6; replace B7 := B7.later hb6; replace B13 := B13.later hb6; have c5 := B5.cell; have t5 := B5.lt; have c7 := B7.cell; have t7 := B7.lt; have c13 := B13.cell; have t13 := B13.lt; clear hb6 HFlt
      by_cases hf0 : fv = 0
      case neg =>
        have hfb : (fv != 0) = true := by simpa using hf0
        clear hf0
        go_wp2_with fail
        refine (awake_any _).mono ?_
        rintro e w7 ⟨rfl, hbx⟩
        replace hW := over hW hbx
        clear hbx
        go_wp2_with fail
        go_ret
        exact ⟨rfl, hW⟩
      subst hf0
      have HR' := Lib.hid (ready_chk HFv.out.symm (by rw [HE.out.1]; exact l1))
      clear HFv
      go_wp2_with fail
      have hland := land_any _ L' w6 HLA.out HSm.out
      rw [HE.out.1, HE.out.2.1, HE.out.2.2.1, HE.out.2.2.2] at hland
      have HLand := Lib.hid hland
      clear hland
      refine HLand.out.mono ?_
      rintro e w7 ⟨q7, rfl, hb7, hl7⟩
      have HL7 := Lib.hid hl7
      replace hW := over hW hb7; (try clear c5 t5 c7 t7 c13 t13); replace B5 := B5.later hb7; replace B7 := B7.later hb7; replace B13 := B13.later hb7; have c5 := B5.cell; have t5 := B5.lt; have c7 := B7.cell; have t7 := B7.lt; have c13 := B13.cell; have t13 := B13.lt; clear hb7 hl7 HLand HLA
      have hwl := Walls_any q7 L' i j k 0 w7 HL7.out HSm.out
      have hwE := wallsE_at (k := k) (t := 0) HR'.out (by rw [HE.out.1]; exact p1) (by rw [HE.out.1]; exact p2) (by rw [HE.out.2.2.1]; exact hk3) (by rw [HE.out.2.2.2]; omega) HIJ.out
      rw [show ((0 : Nat) : Int) = 0 from rfl] at hwE
      rw [hwE] at hwl
      have HWl := Lib.hid hwl
      have hcl : (L'.cbs i j k 0).length ≤ 1000 := Nat.le_trans (sel_len _ _) (kase_len HSm.out k)
      obtain ⟨hv, hhv⟩ : ∃ hv, hv = blk x a b := ⟨_, rfl⟩
      rw [← hhv] at HNew
      have HHv := Lib.hid hhv
      clear hwl hwE hhv
      generalize L'.cbs i j k 0 = cl at *
      go_wp2_with fail
      refine HWl.out.mono ?_
      rintro e w8 ⟨ra, rc, qa, qc, rfl, hb8, _, hq8⟩
      have HQ8 := Lib.hid (show IntsAt w8 qa cl from hq8)
      replace hW := over hW hb8; (try clear c5 t5 c7 t7 c13 t13); replace B5 := B5.later hb8; replace B7 := B7.later hb8; replace B13 := B13.later hb8; have c5 := B5.cell; have t5 := B5.lt; have c7 := B7.cell; have t7 := B7.lt; have c13 := B13.cell; have t13 := B13.lt; clear hb8 hq8 HWl HL7
      obtain ⟨bs, os, ea1, hC1⟩ := HL.out.st.at p1
      obtain ⟨f0, f1, f2, f3⟩ := cells_st (hC1.later hW) HSti.out
      obtain ⟨g0, g1, g2, g3⟩ := cells_st (hC1.later hW) HStj.out
      have z1 := block_lt_of_cell f2
      have z2 := block_lt_of_cell g2
      have r9 : (0 : Int) ≤ (i : Int) := by omega
      have r10 : (i : Int) < (L.st.length : Int) := by omega
      have r11 : (0 : Int) ≤ (j : Int) := by omega
      have r12 : (j : Int) < (L.st.length : Int) := by omega
      rw [ea1] at c5
      clear f0 f1 f3 g0 g1 g3 hC1
      go_wp2_with fail
      refine Fat.wp_region_tail 28 (by kernel_rfl) (by kernel_rfl) ?_
      simp only [List.take_succ_cons, List.drop_succ_cons, List.take_nil, List.drop_nil]
      repeat (go_big_quiet_step (fail))
      refine wpQuiet_nil ?_
      intro w9 hb9
      replace HQ8 := Lib.hid (HQ8.out.later hb9)
      obtain ⟨lo, hlo⟩ : ∃ lo : Int, (if b.Z < a.Z then b.Z else a.Z) = lo := ⟨_, rfl⟩
      obtain ⟨hi, hhi⟩ : ∃ hi : Int, (if a.Z < b.Z then b.Z else a.Z) = hi := ⟨_, rfl⟩
      rw [hlo, hhi]
      have HLo : Hid (hv = true → lo ≤ x.T ∧ x.B ≤ hi) := fun h => by
        have hb : blk x a b = true := by rw [← HHv.out, h]
        constructor
        · by_cases h1 : x.T < a.Z ∧ x.T < b.Z
          · rw [blk_low h1.1 h1.2] at hb; cases hb
          · split at hlo <;> omega
        · by_cases h1 : a.Z < x.B ∧ b.Z < x.B
          · rw [blk_high h1.1 h1.2] at hb; cases hb
          · split at hhi <;> omega
      clear hlo hhi f2 g2 z1 z2 r9 r10 r11 r12 c5 t5
      have hea := ea1
      replace hW := over hW hb9
      replace B5 := B5.later hb9
      replace B7 := B7.later hb9
      clear hb9 B13 c13 t13 c7 t7 ea1
      obtain ⟨cl0, hcl0, hrow, _⟩ := HL.out.cs
      have hcll : cl0.length = L.cs.length := by rw [← hcl0]; simp
      obtain ⟨b3, o3, ea3, hC3⟩ := RowAt.at (k := k) hrow (by rw [hcll]; exact hk3)
      obtain ⟨xx, hx⟩ : ∃ xx, cl0[k]? = some xx := ⟨cl0[k]'(by rw [hcll]; exact hk3), by simp⟩
      have hxc : xx.cs = xcs := by
        have h := HKc.out
        rw [← hcl0, List.getElem?_map, hx] at h
        exact Option.some.inj h
      have e0 := cells_one (hC3.later hW) hx
      unfold CV.val at e0
      rw [hxc] at e0
      have z3 := block_lt_of_cell e0
      clear hcl0 hrow hcll hC3 hx hxc
      rw [ea3] at B5
      clear ea3 hea
      have c5 := B5.cell; have t5 := B5.lt; have c7 := B7.cell; have t7 := B7.lt
      go_wp2_with fail
      refine named1 (p := fun W => Calls _ _ _ W _) ?_
      intro w10 hb10 B14
      have hwt := within_any2 [(xcs.length : Int)] cl _ qa 1 qc w10 (ints_one B14) (HQ8.out.later hb10) (by simp) hcl
      rw [withinB_one, HNew.out] at hwt
      have HWt := Lib.hid hwt
      replace hW := over hW hb10; (try clear c5 t5 c7 t7); replace B5 := B5.later hb10; replace B7 := B7.later hb10; have c5 := B5.cell; have t5 := B5.lt; have c7 := B7.cell; have t7 := B7.lt; clear hb10 hwt B14 HQ8 e0 z3
      refine HWt.out.mono ?_
      rintro e w11 ⟨rfl, hb11⟩
      replace hW := over hW hb11; (try clear c5 t5 c7 t7); replace B5 := B5.later hb11; replace B7 := B7.later hb11; have c5 := B5.cell; have t5 := B5.lt; have c7 := B7.cell; have t7 := B7.lt; clear hb11 HWt
      cases hv with
      | false =>
        go_wp2_with fail
        refine (awake_any _).mono ?_
        rintro e w12 ⟨rfl, hbx⟩
        replace hW := over hW hbx
        clear hbx
        go_wp2_with fail
        go_ret
        exact ⟨rfl, hW⟩
      | true =>
        obtain ⟨v1, v2⟩ := HLo.out rfl
        go_wp2_with fail
        refine (awake_any _).mono ?_
        rintro e w12 ⟨rfl, hbx⟩
        replace hW := over hW hbx
        clear hbx
        go_wp2_with fail
        go_ret
        exact ⟨rfl, hW⟩
end Go.Proofs.Ytmfnkmmbihmjnaa
