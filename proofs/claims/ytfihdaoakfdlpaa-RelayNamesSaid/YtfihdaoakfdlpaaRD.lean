import Derived.Test.YtfihdaoakfdlpaaRC
import Derived.Sort.CutIn
import Derived.Test.YtfihdaoakfdlpaaRPl
import Derived.Lib.SliceRun
import Derived.Shelf.Slices.In.Clone
section
/- Layer 3, the walks: the best path, found by the closure. -/
open Go.RowKit Go.Shelf
namespace Go.Proofs.Ytfihdaoakfdlpaa
open Go.Hill
attribute [local go_sem] Oper.semAt_some

set_option maxRecDepth 100000 in
set_option maxHeartbeats 8000000 in
theorem find_any (x : FV) (r : RV) (q : LV) (L : Land) (ta u : Nat) (hc : L.chk = 0) (hu : u ≤ L.sn.length) : ∀ (d i t : Nat) (w : World), Env w x r q L ta u → i < L.st.length → t ≤ u → u - t = d →
    Calls Try.prog 48 #[pairV i t, .pointer (some ⟨x.b1, 0, none⟩), .pointer (some ⟨x.b2, 0, none⟩), .pointer (some ⟨x.b3, 0, none⟩), .pointer (some ⟨x.b4, 0, none⟩), .pointer (some ⟨x.b5, 0, none⟩)] w (RetFind (bestF L.alws L.st.length ta u d i) x r L ta u w) := by
  have h12 := st_six hc
  have hu12 : u ≤ 12 := by omega
  intro d
  induction d with
  | zero =>
    intro i t w hE hi ht hd
    by_cases hit : i = ta
    · rw [show bestF L.alws L.st.length ta u 0 i = some [] from if_pos hit]
      have HEnv := Lib.hid hE
      have B1 := hE.B1
      have B2 := hE.B2
      have r1 : (0 : Int) ≤ (i : Int) := by omega
      have r2 : (0 : Int) ≤ (t : Int) := by omega
      clear hE
      have c1 := B1.cell; have t1 := B1.lt; have c2 := B2.cell; have t2 := B2.lt
      refine (callsIn_wide (n := 6)).1 ?_
      refine callsIn_of_wp_marks Try.func48 rfl trivial ?_ rfl
      simp only [Try.ntmps48, List.size_toArray, List.length_cons, List.length_nil, Nat.reduceAdd, Nat.reduceSub, Array.replicate_succ, Array.replicate_zero, List.push_toArray, List.append_toArray, List.nil_append, List.cons_append]
      gi_upto_region 1 with fail
      refine named2 (p := Code.wpIn _ _ _ _ _ _) ?_
      intro W hW B6 B7
      (try clear c1 t1 c2 t2); replace B1 := B1.later hW; replace B2 := B2.later hW; have c1 := B1.cell; have t1 := B1.lt; have c2 := B2.cell; have t2 := B2.lt
      have c6 := B6.cell; have t6 := B6.lt; have c7 := B7.cell; have t7 := B7.lt
      have f7 := B7.frozen
      have hb1 : ((i : Int) == (ta : Int)) = true := by simp [hit]
      have hset := setCells_box (cells := #[.slice none 0 0, .bool true]) B7 rfl
      have HSet := Lib.hid hset
      have HSt := Lib.hid (HEnv.out.st.later hW)
      have HB7 := Lib.hid B7
      clear hset B1 B2 B6 B7
      gi_wp2
      change bodyPostM _ _ _ _ _ _ _ (World.setCells _ (w.heap.size + 1) 0 [.slice none 0 0, .bool true])
      obtain ⟨hSB, hSBut⟩ := HSet.out
      generalize World.setCells _ (w.heap.size + 1) 0 [.slice none 0 0, .bool true] = Wf at hSB hSBut ⊢
      exact find_end (o := some []) (n := 0) hSB (Marks.nil _ _) (HSt.out.but HB7.out hSBut (by omega)) rfl rfl (.inl rfl) rfl
    · have hb1 : ((i : Int) == (ta : Int)) = false := by simp; omega
      have hge : (u : Int) ≤ (t : Int) := by omega
      rw [show bestF L.alws L.st.length ta u 0 i = none from if_neg hit]
      have HEnv := Lib.hid hE
      have B1 := hE.B1
      have B2 := hE.B2
      have r1 : (0 : Int) ≤ (i : Int) := by omega
      have r2 : (0 : Int) ≤ (t : Int) := by omega
      clear hE
      have c1 := B1.cell; have t1 := B1.lt; have c2 := B2.cell; have t2 := B2.lt
      refine (callsIn_wide (n := 6)).1 ?_
      refine callsIn_of_wp_marks Try.func48 rfl trivial ?_ rfl
      simp only [Try.ntmps48, List.size_toArray, List.length_cons, List.length_nil, Nat.reduceAdd, Nat.reduceSub, Array.replicate_succ, Array.replicate_zero, List.push_toArray, List.append_toArray, List.nil_append, List.cons_append]
      gi_upto_region 1 with fail
      refine named2 (p := Code.wpIn _ _ _ _ _ _) ?_
      intro W hW B6 B7
      (try clear c1 t1 c2 t2); replace B1 := B1.later hW; replace B2 := B2.later hW; have c1 := B1.cell; have t1 := B1.lt; have c2 := B2.cell; have t2 := B2.lt
      have c6 := B6.cell; have t6 := B6.lt; have c7 := B7.cell; have t7 := B7.lt
      have f7 := B7.frozen
      have hset := setCells_box (cells := #[.slice none 0 0, .bool false]) B7 rfl
      have HSet := Lib.hid hset
      have HSt := Lib.hid (HEnv.out.st.later hW)
      have HB7 := Lib.hid B7
      clear hset B1 B2 B6 B7
      gi_wp2
      change bodyPostM _ _ _ _ _ _ _ (World.setCells _ (w.heap.size + 1) 0 [.slice none 0 0, .bool false])
      obtain ⟨hSB, hSBut⟩ := HSet.out
      generalize World.setCells _ (w.heap.size + 1) 0 [.slice none 0 0, .bool false] = Wf at hSB hSBut ⊢
      exact find_end (o := none) (n := 0) hSB (Marks.nil _ _) (HSt.out.but HB7.out hSBut (by omega)) rfl rfl (.inl rfl) rfl
  | succ d ih =>
    intro i t w hE hi ht hd
    by_cases hit : i = ta
    · rw [show bestF L.alws L.st.length ta u (d + 1) i = some [] from if_pos hit]
      have HEnv := Lib.hid hE
      have B1 := hE.B1
      have B2 := hE.B2
      have r1 : (0 : Int) ≤ (i : Int) := by omega
      have r2 : (0 : Int) ≤ (t : Int) := by omega
      clear hE
      have c1 := B1.cell; have t1 := B1.lt; have c2 := B2.cell; have t2 := B2.lt
      refine (callsIn_wide (n := 6)).1 ?_
      refine callsIn_of_wp_marks Try.func48 rfl trivial ?_ rfl
      simp only [Try.ntmps48, List.size_toArray, List.length_cons, List.length_nil, Nat.reduceAdd, Nat.reduceSub, Array.replicate_succ, Array.replicate_zero, List.push_toArray, List.append_toArray, List.nil_append, List.cons_append]
      gi_upto_region 1 with fail
      refine named2 (p := Code.wpIn _ _ _ _ _ _) ?_
      intro W hW B6 B7
      (try clear c1 t1 c2 t2); replace B1 := B1.later hW; replace B2 := B2.later hW; have c1 := B1.cell; have t1 := B1.lt; have c2 := B2.cell; have t2 := B2.lt
      have c6 := B6.cell; have t6 := B6.lt; have c7 := B7.cell; have t7 := B7.lt
      have f7 := B7.frozen
      have hb1 : ((i : Int) == (ta : Int)) = true := by simp [hit]
      have hset := setCells_box (cells := #[.slice none 0 0, .bool true]) B7 rfl
      have HSet := Lib.hid hset
      have HSt := Lib.hid (HEnv.out.st.later hW)
      have HB7 := Lib.hid B7
      clear hset B1 B2 B6 B7
      gi_wp2
      change bodyPostM _ _ _ _ _ _ _ (World.setCells _ (w.heap.size + 1) 0 [.slice none 0 0, .bool true])
      obtain ⟨hSB, hSBut⟩ := HSet.out
      generalize World.setCells _ (w.heap.size + 1) 0 [.slice none 0 0, .bool true] = Wf at hSB hSBut ⊢
      exact find_end (o := some []) (n := 0) hSB (Marks.nil _ _) (HSt.out.but HB7.out hSBut (by omega)) rfl rfl (.inl rfl) rfl
    · have hb1 : ((i : Int) == (ta : Int)) = false := by simp; omega
      have hge : ¬ ((u : Int) ≤ (t : Int)) := by omega
      obtain ⟨es, clock, hm, hp, hes⟩ := hE.M
      obtain ⟨g, hg⟩ : ∃ g, g = bestF L.alws L.st.length ta u d := ⟨_, rfl⟩
      have hud : u - (d + 1) = t := by omega
      have HG : Hid (bestF L.alws L.st.length ta u (d + 1) i = bestL g i t (Hill.selN (fun b => L.alws i b t) L.st.length)) := by
        show _ = _
        rw [bestL_all, hg, bestF, if_neg hit, hud]
      rw [← hg] at ih
      have HGl : Hid (∀ b l, g b = some l → l.length ≤ d) := fun b l hb => by rw [hg] at hb; exact best_len _ _ _ hb
      clear hg hud
      have hl := look_spot Try.underlying117 (z := .agg #[.slice none 0 0, .bool false]) (fun W => by kernel_rfl) hp i t
      rcases hl with ⟨hlook, hfresh⟩ | ⟨e, he, hkey, hlook⟩
      case inr =>
        have hpv := hes e he i t hkey
        rw [hd] at hpv
        generalize bestF L.alws L.st.length ta u (d + 1) i = o at *
        obtain ⟨a, c, hv, hr⟩ := hpv
        rw [hv] at hlook
        have HR := Lib.hid hr
        have HM := Lib.hid hm
        have HLook := Lib.hid hlook
        have B3 := hE.B3
        clear hes hm hp he hkey hlook hr hv
        have HEnv := Lib.hid hE
        have B1 := hE.B1
        have B2 := hE.B2
        have r1 : (0 : Int) ≤ (i : Int) := by omega
        have r2 : (0 : Int) ≤ (t : Int) := by omega
        clear hE
        have c1 := B1.cell; have t1 := B1.lt; have c2 := B2.cell; have t2 := B2.lt
        refine (callsIn_wide (n := 6)).1 ?_
        refine callsIn_of_wp_marks Try.func48 rfl trivial ?_ rfl
        simp only [Try.ntmps48, List.size_toArray, List.length_cons, List.length_nil, Nat.reduceAdd, Nat.reduceSub, Array.replicate_succ, Array.replicate_zero, List.push_toArray, List.append_toArray, List.nil_append, List.cons_append]
        gi_upto_region 1 with fail
        refine named2 (p := Code.wpIn _ _ _ _ _ _) ?_
        intro W hW B6 B7
        (try clear c1 t1 c2 t2); replace B1 := B1.later hW; replace B2 := B2.later hW; have c1 := B1.cell; have t1 := B1.lt; have c2 := B2.cell; have t2 := B2.lt
        have c6 := B6.cell; have t6 := B6.lt; have c7 := B7.cell; have t7 := B7.lt
        have f7 := B7.frozen
        replace B3 := B3.later hW
        have c3 := B3.cell; have t3 := B3.lt
        have hlk := HLook.out W x.bp clock (HM.out.later hW)
        clear HLook
        gi_upto_region 6 with fail
        refine named1 (p := Code.wpIn _ _ _ _ _ _) ?_
        intro W2 hb2 B8
        have hW2 := over hW hb2
        replace B7 := B7.later hb2
        clear c7 t7 f7
        have c7 := B7.cell; have t7 := B7.lt; have c8 := B8.cell; have t8 := B8.lt
        have hset := setCells_box (cells := pathC a (ol o).length c o.isSome) B7 rfl
        have HSet := Lib.hid hset
        have HSt := Lib.hid (HEnv.out.st.later hW2)
        have HB7 := Lib.hid B7
        have f7 := B7.frozen
        clear hset B1 c1 t1 B2 c2 t2 B3 c3 t3 hlk B6 c6 t6 hb2 hW
        gi_wp2
        change bodyPostM _ _ _ _ _ _ _ (World.setCells _ (w.heap.size + 1) 0 (pathC a (ol o).length c o.isSome).toList)
        obtain ⟨hSB, hSBut⟩ := HSet.out
        generalize World.setCells _ (w.heap.size + 1) 0 (pathC a (ol o).length c o.isSome).toList = Wf at hSB hSBut ⊢
        exact find_end hSB (Marks.nil _ _) (HSt.out.but HB7.out hSBut (by omega)) rfl rfl (HopsAt.but (RowAt.later HR.out hW2) HB7.out hSBut) rfl
      have HM := Lib.hid hm
      have HP := Lib.hid hp
      have HEs := Lib.hid hes
      have HFr := Lib.hid hfresh
      have HLook := Lib.hid hlook
      have B3 := hE.B3
      have B4 := hE.B4
      have B5 := hE.B5
      clear hes hm hp hfresh hlook
      have HEnv := Lib.hid hE
      have B1 := hE.B1
      have B2 := hE.B2
      have r1 : (0 : Int) ≤ (i : Int) := by omega
      have r2 : (0 : Int) ≤ (t : Int) := by omega
      clear hE
      have c1 := B1.cell; have t1 := B1.lt; have c2 := B2.cell; have t2 := B2.lt
      refine (callsIn_wide (n := 6)).1 ?_
      refine callsIn_of_wp_marks Try.func48 rfl trivial ?_ rfl
      simp only [Try.ntmps48, List.size_toArray, List.length_cons, List.length_nil, Nat.reduceAdd, Nat.reduceSub, Array.replicate_succ, Array.replicate_zero, List.push_toArray, List.append_toArray, List.nil_append, List.cons_append]
      gi_upto_region 1 with fail
      refine named2 (p := Code.wpIn _ _ _ _ _ _) ?_
      intro W hW B6 B7
      (try clear c1 t1 c2 t2); replace B1 := B1.later hW; replace B2 := B2.later hW; have c1 := B1.cell; have t1 := B1.lt; have c2 := B2.cell; have t2 := B2.lt
      have c6 := B6.cell; have t6 := B6.lt; have c7 := B7.cell; have t7 := B7.lt
      have f7 := B7.frozen
      replace B3 := B3.later hW
      have c3 := B3.cell; have t3 := B3.lt
      have hlk := HLook.out W x.bp clock (HM.out.later hW)
      clear HLook
      gi_upto_region 6 with fail
      refine named1 (p := Code.wpIn _ _ _ _ _ _) ?_
      intro W2 hb2 B8
      have hW2 := over hW hb2
      have HSt2 := Lib.hid (HEnv.out.st.later hW2)
      have HLt : Hid (w.heap.size + 1 < W.heap.size) := t7
      replace B3 := B3.later hb2
      replace B4 := (B4.later hW).later hb2
      replace B5 := (B5.later hW).later hb2
      clear B1 B2 c3 t3 c7 t7 f7 c1 t1 c2 t2 c6 t6
      replace B6 := B6.later hb2; replace B7 := B7.later hb2
      have c4 := B4.cell; have t4 := B4.lt; have c6 := B6.cell; have t6 := B6.lt; have c8 := B8.cell; have t8 := B8.lt
      have f8 := B8.frozen
      have HIh : Hid (Calls Try.prog 48 #[pairV i ((t + 1 : Nat) : Int), .pointer (some ⟨x.b1, 0, none⟩), .pointer (some ⟨x.b2, 0, none⟩), .pointer (some ⟨x.b3, 0, none⟩), .pointer (some ⟨x.b4, 0, none⟩), .pointer (some ⟨x.b5, 0, none⟩)] W2 (RetFind (g i) x r L ta u W2)) := ih i (t + 1) W2 (HEnv.out.at' HSt2.out) hi (by omega) (by omega)
      rw [show ((t + 1 : Nat) : Int) = (t : Int) + 1 by push_cast; rfl] at HIh
      have hd1 : u - (t + 1) = d := by omega
      clear hlk hb2 hW hd
      gi_wp2
      refine ⟨trivial, ?_⟩
      refine (callsIn_wide.2 HIh.out).mono ?_
      rintro e w3 ⟨v, rfl, ⟨a0, k0, rfl, hr0⟩, hst3⟩
      have HSt3 := Lib.hid (HSt2.out.trans hst3)
      replace B3 := hst3.T.box0 B3
      replace B4 := hst3.T.box0 B4
      replace B5 := hst3.T.box0 B5
      replace B6 := hst3.T.box0 B6
      replace B7 := hst3.T.box0 B7
      replace B8 := hst3.T.box0 B8
      clear c4 t4 c6 t6 c8 t8 f8 HIh
      have c8 := B8.cell; have t8 := B8.lt
      have f8 := B8.frozen
      have hset := setCells_box (cells := pathC a0 (ol (g i)).length k0 (g i).isSome) B8 rfl
      have HSet := Lib.hid hset
      have HB8 := Lib.hid B8
      have HR0 := Lib.hid hr0
      clear hset hr0 hst3
      gi_upto_region 9 with fail
      change Code.wpIn _ _ _ _ _ _ (World.setCells _ W.heap.size 0 (pathC a0 (ol (g i)).length k0 (g i).isSome).toList)
      obtain ⟨hSB, hSBut⟩ := HSet.out
      generalize World.setCells _ W.heap.size 0 (pathC a0 (ol (g i)).length k0 (g i).isSome).toList = w4 at hSB hSBut ⊢
      have hszW := hW2.size
      have hn8 : w.heap.size + 1 < W.heap.size := HLt.out
      have hW6 : w.heap.size < W.heap.size := by omega
      have HR4 := Lib.hid (HopsAt.but HR0.out HB8.out hSBut)
      have HSt4 := Lib.hid (HSt3.out.but HB8.out hSBut (by omega))
      replace B3 := hSBut.box B3 (by have := HEnv.out.B3.lt; omega)
      replace B4 := hSBut.box B4 (by have := HEnv.out.B4.lt; omega)
      replace B5 := hSBut.box B5 (by have := HEnv.out.B5.lt; omega)
      replace B6 := hSBut.box B6 (by omega)
      replace B7 := hSBut.box B7 (by omega)
      have hRel := (HEnv.out.at' HSt4.out).R
      have HAl := Lib.hid (always_any r q L i t w4 hRel hc hi (by omega))
      clear c8 t8 f8 B8 HB8 HR0 HSet HSt3 hRel hSBut
      have c5 := B5.cell; have t5 := B5.lt; have c6 := B6.cell; have t6 := B6.lt
      gi_wp2
      refine ⟨trivial, ?_⟩
      refine (callsIn_wide.2 HAl.out).mono ?_
      rintro e w5 ⟨rfl, hT5, hR5⟩
      have HSt5 := Lib.hid (HSt4.out.turned hT5 hR5.kn HEnv.out.ne)
      have HR5 := Lib.hid (hT5.row HR4.out)
      replace hSB := hT5.box0 hSB
      replace B3 := hT5.box0 B3
      replace B4 := hT5.box0 B4
      replace B6 := hT5.box0 B6
      replace B7 := hT5.box0 B7
      clear c5 t5 c6 t6 B5 HAl HSt4 HR4 hT5 hR5
      gi_wp2
      refine ⟨trivial, ?_⟩
      refine (callsIn_wide.2 (each_mk _ w5)).mono ?_
      rintro e w6 ⟨b1, rfl, hb6, hb1, BE⟩
      have t85 := hSB.lt
      have HSt6 := Lib.hid (HSt5.out.later hb6)
      have HR6 := Lib.hid (RowAt.later HR5.out hb6)
      replace hSB := hSB.later hb6
      replace B3 := B3.later hb6
      replace B4 := B4.later hb6
      replace B6 := B6.later hb6
      replace B7 := B7.later hb6
      have HB3 := Lib.hid B3
      have HB4 := Lib.hid B4
      have HB6 := Lib.hid B6
      have HB7 := Lib.hid B7
      have kE := BE.lt
      have t8 := hSB.lt
      have hsz6 := HSt6.out.T.size
      have HSq := Lib.hid (each_stops 4 b1 (fun j => L.alws i j t) L.st.length w6 BE (by omega))
      have HNx : Hid (Next w x r L ta u w6 W.heap.size (bestL g i t (([] : List (Mem (fun j => L.alws i j t) L.st.length)).map (·.1))) w6) := ⟨HSt6.out, Turn.refl _ _ _, a0, k0, hSB, HR6.out⟩
      have hne1 : b1 ≠ W.heap.size := by omega
      have h86 : W.heap.size < w6.heap.size := t8
      have HSt6s : Hid (w.heap.size ≤ w6.heap.size) := hsz6
      clear B3 B4 B6 B7 hSB HSt5 HR5 hb6 HSt6 HR6
      gi_wp2
      refine wpIn_rangeFunc_ownG (α := Mem (fun j => L.alws i j t) L.st.length) rfl (by omega) (gf := 54) (lb := #[.pointer (some ⟨b1, 0, none⟩)]) rfl trivial enters_each HSq.out (fun h k => k.trans h) (keep_one kE) (Below.refl _ _) (fun _ => rfl)
        (fun pre W1 => Next w x r L ta u w6 W.heap.size (bestL g i t (pre.map (·.1))) W1) (fun _ _ _ => False) (next_own HEnv.out.low hsz6) (fun _ _ _ _ _ h _ _ => h) HNx.out ?a1 ?assign ?body ?done ?stop
      case assign =>
        intro l z W1 K hK
        gi_wp2
        exact hK
      case body =>
        rintro l pre z W1 hN hlen
        obtain ⟨zn, hzn⟩ : ∃ zn : Nat, zn = z.1 := ⟨_, rfl⟩
        obtain ⟨hz1, hz2⟩ := z.2
        rw [← hzn] at hz1 ⊢
        have HN := Lib.hid hN
        have HIh : Hid (Calls Try.prog 48 #[pairV zn ((t + 1 : Nat) : Int), .pointer (some ⟨x.b1, 0, none⟩), .pointer (some ⟨x.b2, 0, none⟩), .pointer (some ⟨x.b3, 0, none⟩), .pointer (some ⟨x.b4, 0, none⟩), .pointer (some ⟨x.b5, 0, none⟩)] W1 (RetFind (g zn) x r L ta u W1)) := ih zn (t + 1) W1 (HEnv.out.at' hN.S) hz1 (by omega) hd1
        rw [show ((t + 1 : Nat) : Int) = (t : Int) + 1 by push_cast; rfl] at HIh
        have hx4 := HEnv.out.B4.lt
        have B4 := hN.T.box HB4.out (by simp; omega)
        have B6 := hN.T.box HB6.out (by simp; omega)
        have HL : Hid (bestL g i t ((pre ++ [z]).map (·.1)) = bestT g i t (bestL g i t (pre.map (·.1))) zn) := by
          show _ = _
          rw [List.map_append, hzn]
          exact bestL_snoc _ _ _ _ _
        generalize bestL g i t (pre.map (·.1)) = ob at *
        have hk1 := HSt6s.out
        have c4 := B4.cell; have t4 := B4.lt; have c6 := B6.cell; have t6 := B6.lt
        clear hN hz2 hzn
        gi_wp2
        refine ⟨trivial, ?_⟩
        refine ((callsIn_wide.2 HIh.out).inRound l).mono ?_
        rintro e w7 ⟨v, rfl, ⟨a1, k1, rfl, hr1⟩, hst7⟩
        have HSt7 := Lib.hid (HN.out.S.trans hst7)
        have HT7 : Hid (Turn (x.ex r) (some W.heap.size) W1 w7) := hst7.T.any
        obtain ⟨a8, k8, hB8, hr8⟩ := HN.out.B
        have B8 := hst7.T.box0 hB8
        have HR8 := Lib.hid (hst7.T.row hr8)
        have HR1 := Lib.hid hr1
        replace B6 := hst7.T.box0 B6
        clear c4 t4 c6 t6 B4 HIh hr1 hr8 hB8 hst7
        gi_upto_region 12 with fail
        refine named1 (p := Code.wpIn _ _ _ _ _ _) ?_
        intro w8 hb8 B11
        have hs7 := HT7.out.size
        have HS8 := Lib.hid (HSt7.out.later hb8)
        have HT8 := Lib.hid (HT7.out.next hb8)
        replace HR8 := Lib.hid (RowAt.later HR8.out hb8)
        replace HR1 := Lib.hid (RowAt.later HR1.out hb8)
        replace B8 := B8.later hb8
        replace B6 := B6.later hb8
        have hs6 := HN.out.T.size
        have hs8 := hb8.size
        have hlow1 : w.heap.size ≤ b1 := by omega
        clear hb8 HSt7 HT7
        obtain ⟨gz, hgz⟩ : ∃ gz, gz = g zn := ⟨_, rfl⟩
        have HGz := Lib.hid hgz
        rw [← hgz] at HR1 B11
        clear hgz
        cases gz with
        | none =>
          have HO : Hid (bestL g i t ((pre ++ [z]).map (·.1)) = ob) := by
            show _ = _
            rw [HL.out, bestT, ← HGz.out]
          replace B11 : Box w8 w7.heap.size #[.slice a1 0 k1, .bool false] 90 := B11
          have c11 := B11.cell; have t11 := B11.lt
          clear HL
          gi_wp2
          obtain ⟨hk1', hk2'⟩ := body_keeps HT8.out HEnv.out.low hsz6 h86 (by omega) hne1 hlow1
          refine ⟨hk1', hk2', ?_⟩
          show Next w x r L ta u w6 W.heap.size (bestL g i t ((pre ++ [z]).map (·.1))) w8
          rw [HO.out]
          exact ⟨HS8.out, HN.out.T.trans HT8.out, a8, k8, B8, HR8.out⟩
        | some xs =>
          replace B11 : Box w8 w7.heap.size (pathC a1 xs.length k1 true) 90 := B11
          have hxl : xs.length ≤ 12 := by have := HGl.out zn xs HGz.out.symm; omega
          replace HR1 : Hid (RowAt w8 a1 3 (xs.map Hp.vs)) := HR1
          have HOb : Hid (bestL g i t ((pre ++ [z]).map (·.1)) = if bettR (some (⟨i, zn, t⟩ :: xs)) ob then some (⟨i, zn, t⟩ :: xs) else ob) := by
            show _ = _
            rw [HL.out, bestT, ← HGz.out]
          have c6 := B6.cell; have t6 := B6.lt; have c11 := B11.cell; have t11 := B11.lt
          clear HL
          gi_upto_region 13 with fail
          gi_wp2_with (gi_at_builtin; refine named1 (p := wpListIn _ _ _ _ _ _ _) ?_)
          intro w9 hb9 B58
          have hs9 := hb9.size
          refine wpListIn_append_row rfl (.tmp 58) (.tmp 60) 56 rfl elem_hop (by decide) hs9 rfl (own_one3 B58 rfl (Nat.le_refl _)) (xs.map Hp.vs) (hops_three _) (hops_cell _) rfl (by simp) (RowAt.later HR1.out hb9) (by simp; omega) (by decide) ?_
          intro v' w10 hb10 hg10 ho10
          obtain ⟨ra, rc, rfl, _, hrow⟩ := ho10.row
          rw [show ([[Value.int .i64 (i : Int), .int .i64 zn, .int .i64 t]] ++ xs.map Hp.vs).length = xs.length + 1 by simp]
          have HRow : Hid (RowAt w10 ra 3 ((⟨i, zn, t⟩ :: xs : List Hp).map Hp.vs)) := hrow
          have hb8 := hb9.trans hb10
          have HS10 := Lib.hid (HS8.out.later hb8)
          have HT10 := Lib.hid (HT8.out.next hb8)
          replace HR8 := Lib.hid (RowAt.later HR8.out hb8)
          replace B8 := B8.later hb8
          replace B11 := B11.later hb8
          clear hb8 hb9 hb10 hg10 ho10 hrow B58 c6 t6 c11 t11 B6
          have c11 := B11.cell
          have t11 := B11.lt
          have f11 := B11.frozen
          have HN11 : Hid (Box (w10.setCell ⟨w7.heap.size, 0, none⟩ (.slice ra (xs.length + 1) rc)) w7.heap.size (pathC ra (xs.length + 1) rc true) 90 ∧ But w7.heap.size w10 (w10.setCell ⟨w7.heap.size, 0, none⟩ (.slice ra (xs.length + 1) rc))) := ⟨setCell_box B11 0 _, setCell_but _ _ _ _⟩
          have HB11 := Lib.hid B11
          clear B11
          gi_upto_region 14 with fail
          obtain ⟨B11, hBut⟩ := HN11.out
          generalize w10.setCell ⟨w7.heap.size, 0, none⟩ (.slice ra (xs.length + 1) rc) = w11 at B11 hBut ⊢
          have HRow11 : Hid (HopsAt w11 ra (⟨i, zn, t⟩ :: xs)) := HopsAt.but HRow.out HB11.out hBut
          have HS11 := Lib.hid (HS10.out.but HB11.out hBut (by omega))
          have HT11 := Lib.hid (HT10.out.but hBut (.inl (by omega)))
          replace HR8 := Lib.hid (HopsAt.but HR8.out HB11.out hBut)
          replace B8 := hBut.box B8 (by omega)
          have HBet := Lib.hid (better_any (some (⟨i, zn, t⟩ :: xs)) ob (.agg (pathC ra (xs.length + 1) rc true)) (.agg (pathC a8 (ol ob).length k8 ob.isSome)) w11 ⟨ra, rc, rfl, HRow11.out⟩ ⟨a8, k8, rfl, HR8.out⟩ (by simp [ol]; omega))
          obtain ⟨bv, hbv⟩ : ∃ bv, bv = bettR (some (⟨i, zn, t⟩ :: xs)) ob := ⟨_, rfl⟩
          rw [← hbv] at HBet HOb
          clear hbv HN11 HB11 HS10 HT10 HRow hBut c11 t11 f11
          have c8 := B8.cell; have t8 := B8.lt; have c11 := B11.cell; have t11 := B11.lt
          have f8 := B8.frozen
          gi_wp2
          refine ⟨trivial, ?_⟩
          refine ((callsIn_wide.2 HBet.out).inRound l).mono ?_
          rintro e w12 ⟨rfl, hb12⟩
          have HS12 := Lib.hid (HS11.out.later hb12)
          have HT12 := Lib.hid (HT11.out.next hb12)
          replace HR8 := Lib.hid (RowAt.later HR8.out hb12)
          replace HRow11 := Lib.hid (RowAt.later HRow11.out hb12)
          replace B8 := B8.later hb12
          replace B11 := B11.later hb12
          clear c8 t8 f8 c11 t11 hb12 HS11 HT11 HBet
          cases bv with
          | false =>
            clear B11
            gi_wp2
            obtain ⟨hk1', hk2'⟩ := body_keeps HT12.out HEnv.out.low hsz6 h86 (by omega) hne1 hlow1
            refine ⟨hk1', hk2', ?_⟩
            show Next w x r L ta u w6 W.heap.size (bestL g i t ((pre ++ [z]).map (·.1))) w12
            rw [HOb.out]
            exact ⟨HS12.out, HN.out.T.trans HT12.out, a8, k8, B8, HR8.out⟩
          | true =>
            have hset := setCells_box (cells := pathC ra (xs.length + 1) rc true) B8 rfl
            have HSet := Lib.hid hset
            have HB8 := Lib.hid B8
            have c8 := B8.cell; have t8 := B8.lt; have c11 := B11.cell; have t11 := B11.lt
            have f8 := B8.frozen
            clear hset B8
            have HE : Hid (KeepsFrom w6.heap.size W1 (w12.setCells W.heap.size 0 (pathC ra (xs.length + 1) rc true).toList) ∧ (w12.setCells W.heap.size 0 (pathC ra (xs.length + 1) rc true).toList).heap[b1]? = W1.heap[b1]? ∧
                Next w x r L ta u w6 W.heap.size (bestL g i t ((pre ++ [z]).map (·.1))) (w12.setCells W.heap.size 0 (pathC ra (xs.length + 1) rc true).toList)) := by
              obtain ⟨hB, hBut⟩ := HSet.out
              have hT := HT12.out.but hBut (.inr rfl)
              obtain ⟨hk1', hk2'⟩ := body_keeps hT HEnv.out.low hsz6 h86 (by omega) hne1 hlow1
              refine ⟨hk1', hk2', ?_⟩
              rw [HOb.out]
              exact ⟨HS12.out.but HB8.out hBut (by omega), HN.out.T.trans hT, ra, rc, hB, HopsAt.but HRow11.out HB8.out hBut⟩
            gi_wp2
            exact HE.out
      case done =>
        rintro D ys W1 hD hys hN hK
        rw [hys] at hN
        replace hN : Next w x r L ta u w6 W.heap.size (bestF L.alws L.st.length ta u (u - t) i) W1 := by
          rw [show u - t = d + 1 by omega, HG.out]; exact hN
        have HO : Hid (bestF L.alws L.st.length ta u (u - t) i = bestF L.alws L.st.length ta u (d + 1) i) := by show _ = _; rw [show u - t = d + 1 by omega]
        obtain ⟨a8, k8, hB8, hr8⟩ := hN.B
        obtain ⟨es', c', hm', hp', hes'⟩ := hN.S.M
        obtain ⟨W9, es9, c9, hrun, hm9, hg9, hp9, hmem9⟩ := put_any Try.underlying117 hp' i t (.agg (pathC a8 (ol (bestF L.alws L.st.length ta u (u - t) i)).length k8 (bestF L.alws L.st.length ta u (u - t) i).isSome)) hm'
        obtain ⟨hS9, hT9⟩ := hN.S.put' hm' hes' ⟨a8, k8, rfl, hr8⟩ hm9 hp9 hmem9 hg9 HEnv.out.ne
        have hx3 := HEnv.out.B3.lt
        have B3 := hN.T.box HB3.out (by simp; omega)
        have B6 := hN.T.box HB6.out (by simp; omega)
        have B7 := hN.T.box HB7.out (by simp; omega)
        have HMk : Hid (Marks w.heap.size [markOf D] W1) := (Marks.nil _ _).cons (by omega) hK (by simp)
        clear HG hes'
        generalize bestF L.alws L.st.length ta u (u - t) i = o at *
        have HS9 := Lib.hid hS9
        have B8 := hB8
        have B89 := hT9.box0 hB8
        have B79 := hT9.box0 B7
        have HMk9 := Lib.hid (hT9.marks HMk.out (by simp))
        have HR9 := Lib.hid (hT9.row hr8)
        have hs9 := hS9.T.size
        clear BE kE t8 t85 hm' hp' hm9 hg9 hp9 hmem9 hS9 hT9 hr8 hN hys hK HMk HSq HNx hB8 B7
        have c3 := B3.cell; have t3 := B3.lt; have c6 := B6.cell; have t6 := B6.lt; have c8 := B8.cell; have t8 := B8.lt
        gi_upto_region 17 with fail
        clear hrun c3 t3 c6 t6 c8 t8 B3 B6 B8
        have c8 := B89.cell
        have t8 := B89.lt
        have c7 := B79.cell
        have t7 := B79.lt
        have f7 := B79.frozen
        have hset := setCells_box (cells := pathC a8 (ol o).length k8 o.isSome) B79 rfl
        have HSet := Lib.hid hset
        have HB79 := Lib.hid B79
        clear hset B79 B89
        gi_wp2
        change bodyPostM _ _ _ _ _ _ _ (World.setCells _ (w.heap.size + 1) 0 (pathC a8 (ol o).length k8 o.isSome).toList)
        obtain ⟨hSB, hSBut⟩ := HSet.out
        generalize World.setCells _ (w.heap.size + 1) 0 (pathC a8 (ol o).length k8 o.isSome).toList = Wf at hSB hSBut ⊢
        rw [← HO.out]
        exact find_end hSB (HMk9.out.but HB79.out hSBut) (HS9.out.but HB79.out hSBut (by omega)) rfl rfl (HopsAt.but HR9.out HB79.out hSBut) rfl
      case stop =>
        rintro D c pre W1 hD _ h
        exact h.elim
end Go.Proofs.Ytfihdaoakfdlpaa
end

section
/- Layer 3, the walks: the best path from a spot; a copy of a path. -/
open Go.RowKit Go.Shelf
namespace Go.Proofs.Ytfihdaoakfdlpaa
open Go.Hill
attribute [local go_sem] Oper.semAt_some

/-- It returns a list of hops. -/
def RetHops (l : List Hp) (w : World) (e : Ending) (w' : World) : Prop := ∃ a c, e = .returned (.slice a l.length c) ∧ Below w.heap.size w w' ∧ HopsAt w' a l
set_option maxRecDepth 100000 in
theorem clone_hops (l : List Hp) (a : Option Addr) (c : Nat) (w : World) (h : HopsAt w a l) (hl : l.length ≤ 100) :
    Calls Try.prog 34 #[.slice a l.length c] w (RetHops l w) := by
  have q22 : ∀ (w : World) (a : Option Addr) (n c n' c' : Nat), (binOp .eql 56 (.slice a n c) (.slice none n' c')).run Try.prog w = .ok (.bool a.isNone) w := fun w a n c n' c' => Lib.run_eql_slice_nil w _ _ a n c n' c' Try.underlying56
  cases a with
  | none =>
    have h0 : l = [] := by
      rcases h with h | ⟨b, o, h1, _⟩
      · simpa using h
      · cases h1
    subst h0
    go_enter Try.func34, Try.ntmps34
    go_wp2_with fail
    go_ret
    exact ⟨none, 0, rfl, Below.refl _ _, .inl rfl⟩
  | some ad =>
    have HI := Lib.hid h
    obtain ⟨n, hn⟩ : ∃ n, n = l.length := ⟨_, rfl⟩
    rw [← hn]
    have HN := Lib.hid hn
    clear h hn
    go_enter Try.func34, Try.ntmps34
    go_wp2_with (at_builtin; refine named1 (p := wpList _ _ _ _ _) ?_)
    intro W hW B5
    have hs := hW.size
    refine wpList_append_row rfl (.tmp 5) (.tmp 6) 56 rfl elem_hop (by decide) hs (v := .slice (some ⟨w.heap.size, 0, none⟩) 0 0) (xs := []) rfl ?_ (l.map Hp.vs) (hops_three _) (hops_cell _) rfl (by simp [HN.out]) (RowAt.later HI.out hW) (by simp; omega) (by decide) ?_
    · exact ⟨⟨by simp, .inr ⟨w.heap.size, 0, #[], rfl, Nat.le_refl _, B5, Nat.le_refl _, by unfold maxLen; omega, by simp, by simp⟩⟩, by simp⟩
    intro v' w1 hb1 hg1 ho1
    obtain ⟨ra, rc, rfl, _, hr⟩ := ho1.row
    have HR := Lib.hid hr
    have HB := Lib.hid (hW.trans hb1)
    clear hW hb1 hg1 ho1 hr
    go_wp2_with fail
    go_ret
    exact ⟨ra, rc, by simp, HB.out, by simpa using HR.out⟩

theorem named_route {w : World} {c1 c2 c3 c4 c5 c6 c7 : Array Value} {t1 t2 t3 t4 t5 t6 t7 : TypeId} {p : World → Prop} (h : ∀ W, Below w.heap.size w W → Box W w.heap.size c1 t1 → Box W (w.heap.size + 1) c2 t2 → Box W (w.heap.size + 1 + 1) c3 t3 → Box W (w.heap.size + 1 + 1 + 1) c4 t4 → Box W (w.heap.size + 1 + 1 + 1 + 1) c5 t5 →
    MapIs W (w.heap.size + 1 + 1 + 1 + 1 + 1) #[] 0 → Box W (w.heap.size + 1 + 1 + 1 + 1 + 1 + 1) c6 t6 → Box W (w.heap.size + 1 + 1 + 1 + 1 + 1 + 1 + 1) c7 t7 → p W) :
    p ((((((((w.alloc (.cells c1 t1)).alloc (.cells c2 t2)).alloc (.cells c3 t3)).alloc (.cells c4 t4)).alloc (.cells c5 t5)).alloc (.map #[] 0)).alloc (.cells c6 t6)).alloc (.cells c7 t7)) := by
  refine h _ (al (al (al (al (al (al (al (al (Below.refl _ _) _) _) _) _) _) _) _) _) ?_ ?_ ?_ ?_ ?_ ?_ ?_ ?_
  all_goals try (repeat (first | exact Box.newAt _ _ (by simp) | refine Box.alloc ?_ _))
  have h3 : MapIs ((((((w.alloc (.cells c1 t1)).alloc (.cells c2 t2)).alloc (.cells c3 t3)).alloc (.cells c4 t4)).alloc (.cells c5 t5)).alloc (.map #[] 0)) (w.heap.size + 1 + 1 + 1 + 1 + 1) #[] 0 := by
    have h := heap_alloc_new (((((w.alloc (.cells c1 t1)).alloc (.cells c2 t2)).alloc (.cells c3 t3)).alloc (.cells c4 t4)).alloc (.cells c5 t5)) (.map #[] 0)
    simpa [MapIs] using h
  exact h3.later (al (al (Below.refl _ _) _) _)
theorem Turn.shed {A B C : World} {ex ex' : Nat → Prop} {g : Option Nat} (h0 : Below A.heap.size A B) (h : Turn ex g B C) (he : ∀ k, ex k → ex' k ∨ A.heap.size ≤ k) : Turn ex' g A C :=
  ⟨h.os.trans h0.os, h.tape.trans h0.tape, h.output.trans h0.output, Nat.le_trans h0.size h.size, fun k h1 h2 h3 => (h.block k (Nat.lt_of_lt_of_le h1 h0.size) h2 fun e => (he k e).elim (fun e' es c => by rw [h0.block k h1]; exact h3 e' es c) (fun h => absurd h1 (by omega))).trans (h0.block k h1)⟩
def RetPath (o : Option (List Hp)) (r : RV) (L : Land) (w : World) (e : Ending) (w' : World) : Prop := ∃ v, e = .returned v ∧ PathAt w' v o ∧ Turn r.ex none w w' ∧ KnAt w' r L
set_option maxRecDepth 100000 in
set_option maxHeartbeats 4000000 in
theorem route_any (r : RV) (q : LV) (L : Land) (f t s u : Nat) (w : World) (hr : RelAt w r q L) (hc : L.chk = 0) (hf : f < L.st.length) (hs : s ≤ u) (hu : u ≤ L.sn.length) :
    Calls Try.prog 33 #[.pointer (some ⟨r.bw, 0, none⟩), pairV f s, .int .i64 t, .int .i64 u] w (RetPath (L.best f t s u) r L w) := by
  have HR := Lib.hid hr
  have HC := Lib.hid hc
  have HKn : Hid (w.heap.size ∉ r.kn ∧ ∀ k ∈ r.kn, k < w.heap.size) := ⟨fun h => by have := hr.kn.lt h; omega, fun k h => hr.kn.lt h⟩
  clear hr hc
  have hmm := @run_makeMap Try.prog
  go_enter Try.func33, Try.ntmps33
  go_wp2_with fail
  refine named_route (p := fun W => Calls _ _ _ W _) ?_
  intro W hW B4 B5 B6 B7 B8 hM B9 B10
  have hE : Env W ⟨w.heap.size + 1 + 1, w.heap.size + 1 + 1 + 1, w.heap.size + 1 + 1 + 1 + 1 + 1 + 1, w.heap.size + 1 + 1 + 1 + 1 + 1 + 1 + 1, w.heap.size, w.heap.size + 1 + 1 + 1 + 1 + 1⟩ r q L t u :=
    ⟨HR.out.later hW, B6, B7, B9, B10, B4, ⟨#[], 0, hM, fun e he => by simp at he, fun e he => by simp at he⟩, fun h => by have := HKn.out.2 _ h; simp at this; omega⟩
  refine (find_any _ r q L t u HC.out hu (u - s) f s W hE hf hs rfl).mono ?_
  rintro e w' ⟨v, rfl, hp, hst⟩
  have HB : Hid (L.best f t s u = bestF L.alws L.st.length t u (u - s) f) := rfl
  generalize bestF L.alws L.st.length t u (u - s) f = o at *
  obtain ⟨a0, k0, rfl, hr0⟩ := hp
  replace B8 := hst.T.box0 B8
  have hT : Turn r.ex none w w' := Turn.shed hW hst.T fun k hk => by
    rcases hk with hk | rfl
    · exact .inl hk
    · right; simp only; omega
  have HT := Lib.hid hT
  have HK := Lib.hid hst.K
  have HR0 := Lib.hid hr0
  have hset := setCells_box (cells := pathC a0 (ol o).length k0 o.isSome) B8 rfl
  have HSet := Lib.hid hset
  have HB8 := Lib.hid B8
  have c8 := B8.cell; have t8 := B8.lt
  have f8 := B8.frozen
  clear hE hst hT hr0 hset B4 B5 B6 B7 B9 B10 hM hW hmm B8
  go_wp2_with fail
  change bodyPost _ _ _ _ _ (World.setCells w' (w.heap.size + 1 + 1 + 1 + 1) 0 (pathC a0 (ol o).length k0 o.isSome).toList)
  obtain ⟨hSB, hSBut⟩ := HSet.out
  generalize World.setCells w' (w.heap.size + 1 + 1 + 1 + 1) 0 (pathC a0 (ol o).length k0 o.isSome).toList = Wf at hSB hSBut ⊢
  rw [HB.out]
  exact bodyPost_ret (results_cell_row rfl _ _ (w.heap.size + 1 + 1 + 1 + 1) 90 (pathC a0 (ol o).length k0 o.isSome) (0, 0) _ rfl hSB Try.underlying90 rfl (by kernel_rfl)) rfl
    ⟨_, rfl, ⟨a0, k0, rfl, HopsAt.but HR0.out HB8.out hSBut⟩, HT.out.but hSBut (.inl (by omega)), HK.out.but HB8.out hSBut⟩

def Land.routeE (L : Land) (fr ta st : Int) : List Hp × Int × Int := if L.askr fr ta st 0 = 0 then (match L.route fr.toNat ta.toNat st.toNat with | some (l, u) => (l, (u : Int), 0) | none => ([], 0, 10)) else ([], 0, L.askr fr ta st 0)
theorem route_at {L : Land} {f t s j : Nat} {l : List Hp} (hs : s ≤ L.sn.length) (hj : s + j ≤ L.sn.length) (hb : L.best f t s (s + j) = some l) (hno : ∀ i, i < j → L.best f t s (s + i) = none) : L.route f t s = some (l, s + j) := by
  rcases route_cases (L := L) (f := f) (t := t) hs with ⟨_, h⟩ | ⟨l', u, h1, h2, h3, h4, h5⟩
  · rw [h (s + j) (by omega) hj] at hb; cases hb
  · obtain ⟨i, rfl⟩ : ∃ i, u = s + i := ⟨u - s, by omega⟩
    rcases Nat.lt_trichotomy i j with h | h | h
    · rw [hno i h] at h4; cases h4
    · subst h; rw [hb] at h4; cases h4; exact h1
    · rw [h5 (s + j) (by omega) (by omega)] at hb; cases hb
theorem route_miss {L : Land} {f t s : Nat} (hs : s ≤ L.sn.length) (hno : ∀ i, i < L.sn.length + 1 - s → L.best f t s (s + i) = none) : L.route f t s = none := by
  rcases route_cases (L := L) (f := f) (t := t) hs with ⟨h, _⟩ | ⟨l', u, h1, h2, h3, h4, h5⟩
  · exact h
  · have := hno (u - s) (by omega)
    rw [show s + (u - s) = u by omega, h4] at this; cases this
def RetRoute (x : List Hp × Int × Int) (w : World) (e : Ending) (w' : World) : Prop := ∃ a c, e = .returned (.tuple #[.slice a x.1.length c, .int .i64 x.2.1, .int .i64 x.2.2]) ∧ Below w.heap.size w w' ∧ HopsAt w' a x.1
set_option maxRecDepth 100000 in
set_option maxHeartbeats 4000000 in
theorem Route_any (q : LV) (L : Land) (fr ta st : Int) (w : World) (hL : LandAt w q L) (hs : Small L) :
    Calls Try.prog 17 #[landV q L, .int .i64 fr, .int .i64 ta, .int .i64 st] w (RetRoute (Land.routeE L fr ta st) w) := by
  have HL := Lib.hid hL
  clear hL
  by_cases hc : L.chk = 0
  case neg =>
    have h1 : Land.routeE L fr ta st = ([], 0, L.chk) := by unfold Land.routeE; rw [askr_bad hc, if_neg hc]
    rw [h1]
    clear h1
    go_enter Try.func17, Try.ntmps17
    go_wp2_with fail
    refine named3 (p := fun W => Calls _ _ _ W _) ?_
    intro W hW B4 B20 B22
    have HNo := Lib.hid (open_bad q L (.slice (some ⟨w.heap.size + 1, 0, none⟩) 2 2) (.slice (some ⟨w.heap.size + 1 + 1, 0, none⟩) 1 1) 0 W (HL.out.later hW) hs hc)
    have hcb : (L.chk != 0) = true := by simpa using hc
    generalize L.chk = c at *
    clear hc
    refine HNo.out.mono ?_
    rintro e w1 ⟨rfl, hb1⟩
    replace hW := over hW hb1
    clear hb1 HNo B4 B20 B22
    go_wp2_with fail
    go_ret3
    exact ⟨none, 0, rfl, hW, .inl rfl⟩
  have HC := Lib.hid hc
  obtain ⟨v, hv⟩ : ∃ v, v = Land.routeE L fr ta st := ⟨_, rfl⟩
  rw [← hv]
  rw [Land.routeE, askr_two hc] at hv
  have HV := Lib.hid hv
  have h12 := st_six hc
  clear hv hc
  go_enter Try.func17, Try.ntmps17
  go_wp2_with fail
  refine named3 (p := fun W => Calls _ _ _ W _) ?_
  intro W hW B4 B20 B22
  have hB20 : Box W (w.heap.size + 1) #[.int .i64 fr, .int .i64 ta] 3 := B20
  have hB22 : Box W (w.heap.size + 1 + 1) #[.int .i64 st] 3 := B22
  have hsz0 := hW.size
  refine (open_any q L [fr, ta] [st] _ _ 2 1 0 W (HL.out.later hW) HC.out (ints_two_box hB20) (ints_one_box hB22) (by simp) (by simp)).mono ?_
  rintro e w1 (⟨hno, rfl, hb1⟩ | ⟨hyes, r, rfl, hb1, hR1, hn0⟩)
  · have h1 := HV.out
    rw [hno] at h1
    simp only [Bool.false_eq_true, if_false] at h1
    rw [if_neg (by decide)] at h1
    have H1 := Lib.hid h1
    replace hW := over hW hb1
    clear hb1 B4 B20 B22 hB20 hB22 hno h1 HV
    go_wp2_with fail
    go_ret3
    rw [H1.out]
    exact ⟨none, 0, rfl, hW, .inl rfl⟩
  · obtain ⟨f, t, s, c0, rfl, rfl, rfl, hz, hf, ht, hs', hc0⟩ := okr_two hyes
    have h1 := HV.out
    rw [hyes] at h1
    simp only [if_true, Int.toNat_natCast] at h1
    have H1 := Lib.hid h1
    replace hW := over hW hb1
    have B4 := B4.later hb1
    have HR1 := Lib.hid hR1
    have HN0 : Hid (w.heap.size ≤ r.n0) := by show _ ≤ _; rw [hn0]; exact hsz0
    clear hb1 B20 B22 hB20 hB22 hyes h1 HV hR1 hn0 hz hc0 c0
    have HW := Lib.hid hW
    clear hW B4
    go_wp2_with fail
    go_loopw [12] (fun i' wr => ∃ j : Nat, s + j ≤ L.sn.length + 1 ∧ i' = .int .i64 ((s + j : Nat) : Int) ∧ Turn r.ex none w1 wr ∧ KnAt wr r L ∧ ∀ i, i < j → L.best f t s (s + i) = none) (fun i' _ => L.sn.length + 1 - (intOf i').toNat)
    case atStart => exact ⟨0, by omega, by simp, Turn.refl _ _ _, HR1.out.kn, fun j hj => by omega⟩
    case round =>
      obtain ⟨j, hj, rfl, hT, hK, hno⟩ := hrel
      have HNo := Lib.hid hno
      have HRw := Lib.hid (HR1.out.turn hT hK)
      have HT := Lib.hid hT
      have hbx := (HR1.out.turn hT hK).box
      clear hno hT hK
      go_wp2_with fail
      refine (end_any wr hbx).mono ?_
      rintro e w2 ⟨rfl, hb2⟩
      by_cases hlt : s + j ≤ L.sn.length
      · have HP := Lib.hid (route_any r q L f t s (s + j) w2 (HRw.out.later hb2) HC.out hf (by omega) hlt)
        have HT2 := Lib.hid (HT.out.next hb2)
        have HBd : Hid (∀ l, L.best f t s (s + j) = some l → l.length ≤ 12) := fun l hl => by have := best_len _ _ _ hl; omega
        have HB := Lib.hid (rfl : L.best f t s (s + j) = L.best f t s (s + j))
        generalize hbe : L.best f t s (s + j) = o at HP HBd
        have HBe := Lib.hid hbe
        have r1 : ((s + j : Nat) : Int) ≤ (L.sn.length : Int) := by omega
        clear hbe HB hb2 hbx HRw HT
        go_wp2_with fail
        refine HP.out.mono ?_
        rintro e w3 ⟨v0, rfl, ⟨a0, k0, rfl, hr0⟩, hT3, hK3⟩
        have HT3 := Lib.hid (HT2.out.trans hT3)
        have HK3 := Lib.hid hK3
        have HR0 := Lib.hid hr0
        clear HT2 hT3 hK3 hr0 HP
        cases o with
        | none =>
          have HN : Hid (∀ i, i < j + 1 → L.best f t s (s + i) = none) := fun i hi => by
            rcases Nat.lt_succ_iff_lt_or_eq.1 hi with h | rfl
            · exact HNo.out i h
            · exact HBe.out
          clear HNo HBe HBd HR0
          simp only [Option.isSome_none]
          go_wp2_with fail
          go_roundw
          case rel => exact ⟨j + 1, by omega, by go_num, HT3.out.next (al (Below.refl _ _) _), HK3.out.later (al (Below.refl _ _) _), HN.out⟩
          case measure =>
            show L.sn.length + 1 - ((s : Int) + j + 1).toNat < L.sn.length + 1 - (((s + j : Nat) : Int)).toNat
            omega
        | some l =>
          have hll := HBd.out l rfl
          have hv := H1.out
          rw [route_at hs' hlt HBe.out HNo.out] at hv
          have HV2 := Lib.hid hv
          clear hv H1 HNo HBd HBe
          simp only [Option.isSome_some]
          go_wp2_with fail
          refine named1 (p := fun W => Calls _ _ _ W _) ?_
          intro w4 hb4 B13
          refine (clone_hops l a0 k0 w4 (RowAt.later HR0.out hb4) (by omega)).mono ?_
          rintro e w5 ⟨a, c, rfl, hb5, hr5⟩
          have HW5 := Lib.hid (over (over_turn HW.out (HT3.out.next hb4) (HK3.out.later hb4) HN0.out) hb5)
          have HR5 := Lib.hid hr5
          clear hb4 hb5 hr5 B13 HR0 HT3 HK3
          go_wp2_with fail
          go_ret3
          rw [HV2.out]
          exact ⟨a, c, by simp, HW5.out, HR5.out⟩
      · obtain rfl : j = L.sn.length + 1 - s := by omega
        have r1 : (((s + (L.sn.length + 1 - s) : Nat) : Int) ≤ (L.sn.length : Int)) = False := by simp only [eq_iff_iff, iff_false]; omega
        have hv := H1.out
        rw [route_miss hs' HNo.out] at hv
        have HV2 := Lib.hid hv
        have HW5 := Lib.hid (over_turn HW.out (HT.out.next hb2) ((HRw.out.later hb2).kn) HN0.out)
        clear hv H1 HNo HRw HT hb2 hbx
        go_wp2_with fail
        go_ret3
        rw [HV2.out]
        exact ⟨none, 0, rfl, HW5.out, .inl rfl⟩
end Go.Proofs.Ytfihdaoakfdlpaa
end
