/- Layer 3, the walks: where a route sticks; the exported functions Stick, ProveRoute. -/
import Derived.Test.YtfihdaoakfdlpaaR21
import Derived.Test.YtfihdaoakfdlpaaRA
open Go.RowKit Go.Shelf
namespace Go.Proofs.Ytfihdaoakfdlpaa
open Go.Hill

def stkT (x : Int × Int × Bool) : Value := .tuple #[.int .i64 x.1, .int .i64 x.2.1, .bool x.2.2]
def RetStk (x : Int × Int × Bool) (r : RV) (L : Land) (w : World) (e : Ending) (w' : World) : Prop := e = .returned (stkT x) ∧ Turn r.ex none w w' ∧ KnAt w' r L
set_option maxRecDepth 100000 in
set_option maxHeartbeats 8000000 in
theorem stick3_any (r : RV) (q : LV) (L : Land) (l : List Hp) (a : Option Addr) (c : Nat) (w : World) (hr : RelAt w r q L) (hc : L.chk = 0) (hl : HopsAt w a l) (hll : l.length ≤ 1000) (hm : ∀ p ∈ l, p.fr < L.st.length ∧ p.ta < L.st.length ∧ p.hr < L.sn.length) :
    Calls Try.prog 38 #[.pointer (some ⟨r.bw, 0, none⟩), .slice a l.length c] w (RetStk (stkV L l) r L w) := by
  have HR := Lib.hid hr
  have HC := Lib.hid hc
  have HL := Lib.hid hl
  have HM := Lib.hid hm
  obtain ⟨n6, n0, e12, e0, m4, m0⟩ := st_six hc
  clear hr hl hc hm
  go_enter Try.func38, Try.ntmps38
  go_wp2_with fail
  go_loopw [12] (fun i' wr => ∃ i : Nat, i ≤ l.length ∧ i' = .int .i64 i ∧ Turn r.ex none w wr ∧ KnAt wr r L ∧ ∀ x p, x < i → l[x]? = some p → L.stick p.fr p.ta p.hr = L.cs.length) (fun i' _ => l.length - (intOf i').toNat)
  case atStart => exact ⟨0, Nat.zero_le _, rfl, Turn.refl _ _ _, HR.out.kn, fun x p hx => by omega⟩
  case round =>
    obtain ⟨i, hi, rfl, hT, hK, hno⟩ := hrel
    have HNo := Lib.hid hno
    have HT := Lib.hid hT
    have HRw := Lib.hid (HR.out.turn hT hK)
    clear hno hK
    by_cases hlt : i < l.length
    · obtain ⟨p1, o1, rfl, hC1⟩ := RowAt.at (hT.row HL.out) hlt
      obtain ⟨p, hp⟩ : ∃ p, l[i]? = some p := ⟨l[i], by simp⟩
      obtain ⟨e0', e1, e2⟩ := cells_hp hC1 hp
      have z1 := block_lt_of_cell e0'
      have HP := Lib.hid hp
      obtain ⟨hp1, hp2, hp3⟩ := HM.out p (List.mem_of_getElem? hp)
      have r1 : (0 : Int) ≤ (i : Int) := by omega
      have r2 : (i : Int) < (l.length : Int) := by omega
      obtain ⟨pf, pt, ph⟩ := p
      simp only at e0' e1 e2 hp1 hp2 hp3
      clear hC1 hp hT
      go_upto_region 4 with fail
      refine named1 (p := Code.wp _ _ _ _) ?_
      intro W4 hb4 B8
      obtain ⟨b8, hb8⟩ : ∃ b, b = wr.heap.size := ⟨_, rfl⟩
      rw [← hb8] at B8 ⊢
      clear hb8
      have HT4 := Lib.hid (HT.out.next hb4)
      have HR4 := Lib.hid (HRw.out.later hb4)
      have B1 := HR4.out.box
      clear e0' e1 e2 z1 hb4 HT HRw
      have HB8 := Lib.hid B8
      have c1 := B1.cell; have t1 := B1.lt
      clear B8
      go_wp2_with fail
      clear c1 t1 B1
      go_loopw [23] (fun k' wr => ∃ k : Nat, k ≤ L.cs.length ∧ k' = .int .i64 k ∧ Turn r.ex none w wr ∧ KnAt wr r L ∧ Box wr b8 #[.int .i64 pf, .int .i64 pt, .int .i64 ph] 63 ∧ ∀ x, x < k → L.can pf pt x ph = true) (fun k' _ => L.cs.length - (intOf k').toNat)
      case atStart => exact ⟨0, Nat.zero_le _, rfl, HT4.out, HR4.out.kn, HB8.out, fun x hx => by omega⟩
      case round =>
        obtain ⟨k, hk, rfl, hT, hK, B8, hcan⟩ := hrel
        have HCan := Lib.hid hcan
        have HTr := Lib.hid hT
        have HRr := Lib.hid (HR.out.turn hT hK)
        have HB8r := Lib.hid B8
        have hbx := HRr.out.box
        clear hcan hT hK HR4 HT4
        by_cases hltk : k < L.cs.length
        · have HCall : Hid (∀ W, Below wr.heap.size wr W → Calls Try.prog 42 #[.pointer (some ⟨r.bw, 0, none⟩), .int .i64 k, pairV pf ph] W (RetR (setV L pf k ph) r q L W)) := fun W hb => from_any r q L k pf ph W (HRr.out.later hb) HC.out hp1 hltk hp3
          have hbit := bit_and (fun j => L.can pf j k ph) n6 pt
          rw [decide_eq_true hp2, Bool.true_and] at hbit
          obtain ⟨bt, hbt⟩ : ∃ bt : Nat, bt = bitN (fun j => L.can pf j k ph) L.st.length := ⟨_, rfl⟩
          rw [← hbt] at hbit
          have HSet : Hid (setV L pf k ph = flV bt) := by show _ = _; rw [hbt]
          rw [HSet.out] at HCall
          clear hbt HSet
          have HBit := Lib.hid hbit
          have r3 : (k : Int) < (L.cs.length : Int) := by omega
          have r4 : (pt : Int) < 64 := by omega
          have r5 : (0 : Int) ≤ (pt : Int) := by omega
          clear hbit
          have c8 := B8.cell; have t8 := B8.lt
          have HS : Hid (∀ W, Turn r.ex none wr W → W.cell? ⟨b8, 0, none⟩ = some (.int .i64 pf) ∧ W.cell? ⟨b8, 1, none⟩ = some (.int .i64 pt) ∧ W.cell? ⟨b8, 2, none⟩ = some (.int .i64 ph)) := fun W hT => ⟨hT.cell (c8 0), hT.cell (c8 1), hT.cell (c8 2)⟩
          go_upto_region 7 with fail
          refine wp_region_noPanic ?_
          refine wp_region_held_drew (S := (fun w' => w'.cell? ⟨b8, 0, none⟩ = some (.int .i64 pf) ∧ w'.cell? ⟨b8, 1, none⟩ = some (.int .i64 pt) ∧ w'.cell? ⟨b8, 2, none⟩ = some (.int .i64 ph))) (by kernel_rfl) (by (try dsimp only); exact HS.out _ (Below.turn (by repeat (first | exact Below.refl _ _ | refine al ?_ _ | refine Below.drew ?_ | refine sc ?_ (by simp) _)))) (fun hHeld => ?_)
          refine wpAnyH_take (i := 0) (oi := _) (v := ?_) rfl (by kernel_rfl) (by kernel_rfl) (by kernel_rfl) (fun _ _ _ h => h) (Or.inl ⟨by rfl, ?_⟩) (by assumption) ?_
          rotate_left
          · (intro w hSw; (try dsimp only at hSw); go_simp; try with_reducible rfl)
          (try dsimp only); (try simp only [Act.put]); (try simp only [List.setIfInBounds_toArray]); (try simp only [List.set_cons_succ]); (try simp only [List.set_cons_zero])
          refine wpAnyH_take (i := 1) (oi := _) (v := ?_) rfl (by kernel_rfl) (by kernel_rfl) (by kernel_rfl) (fun _ _ _ h => h) (Or.inl ⟨by rfl, ?_⟩) (by assumption) ?_
          rotate_left
          · (intro w hSw; (try dsimp only at hSw); go_simp; try with_reducible rfl)
          (try dsimp only); (try simp only [Act.put]); (try simp only [List.setIfInBounds_toArray]); (try simp only [List.set_cons_succ]); (try simp only [List.set_cons_zero])
          refine wpAnyH_take (i := 2) (oi := _) (v := ?_) rfl (by kernel_rfl) (by kernel_rfl) (by kernel_rfl) (fun _ _ _ h => h) (Or.inl ⟨by rfl, ?_⟩) (by assumption) ?_
          rotate_left
          · (intro w hSw; (try dsimp only at hSw); go_simp; try with_reducible rfl)
          (try dsimp only); (try simp only [Act.put]); (try simp only [List.setIfInBounds_toArray]); (try simp only [List.set_cons_succ]); (try simp only [List.set_cons_zero])
          refine wpAnyH_take (i := 3) (oi := _) (v := ?_) rfl (by kernel_rfl) (by kernel_rfl) (by kernel_rfl) (fun _ _ _ h => h) (Or.inl ⟨by rfl, ?_⟩) (by assumption) ?_
          rotate_left
          · (intro w hSw; (try dsimp only at hSw); go_simp; try with_reducible rfl)
          (try dsimp only); (try simp only [Act.put]); (try simp only [List.setIfInBounds_toArray]); (try simp only [List.set_cons_succ]); (try simp only [List.set_cons_zero])
          refine wpAnyH_take (i := 4) (oi := _) (v := ?_) rfl (by kernel_rfl) (by kernel_rfl) (by kernel_rfl) (fun _ _ _ h => h) (Or.inl ⟨by rfl, ?_⟩) (by assumption) ?_
          rotate_left
          · (intro w hSw; (try dsimp only at hSw); go_simp; try with_reducible rfl)
          (try dsimp only); (try simp only [Act.put]); (try simp only [List.setIfInBounds_toArray]); (try simp only [List.set_cons_succ]); (try simp only [List.set_cons_zero])
          refine wpAnyH_take (i := 5) (oi := _) (v := ?_) rfl (by kernel_rfl) (by kernel_rfl) (by kernel_rfl) (fun _ _ _ h => h) (Or.inl ⟨by rfl, ?_⟩) (by assumption) ?_
          rotate_left
          · (intro w hSw; (try dsimp only at hSw); go_simp; try with_reducible rfl)
          (try dsimp only); (try simp only [Act.put]); (try simp only [List.setIfInBounds_toArray]); (try simp only [List.set_cons_succ]); (try simp only [List.set_cons_zero])
          refine wpAnyH_take (i := 6) (oi := _) (v := ?_) rfl (by kernel_rfl) (by kernel_rfl) (by kernel_rfl) (fun _ _ _ h => h) (Or.inl ⟨by rfl, ?_⟩) (by assumption) ?_
          rotate_left
          · (intro w hSw; (try dsimp only at hSw); go_simp; try with_reducible rfl)
          (try dsimp only); (try simp only [Act.put]); (try simp only [List.setIfInBounds_toArray]); (try simp only [List.set_cons_succ]); (try simp only [List.set_cons_zero])
          refine wpAnyH_take (i := 8) (oi := _) (v := ?_) rfl (by kernel_rfl) (by kernel_rfl) (by kernel_rfl) (fun _ _ _ h => h) (Or.inl ⟨by rfl, ?_⟩) (by assumption) ?_
          rotate_left
          · (intro w hSw; (try dsimp only at hSw); go_simp; try with_reducible rfl)
          (try dsimp only); (try simp only [Act.put]); (try simp only [List.setIfInBounds_toArray]); (try simp only [List.set_cons_succ]); (try simp only [List.set_cons_zero])
          refine wpAnyH_take (i := 9) (oi := _) (v := ?_) rfl (by kernel_rfl) (by kernel_rfl) (by kernel_rfl) (fun _ _ _ h => h) (Or.inl ⟨by rfl, ?_⟩) (by assumption) ?_
          rotate_left
          · (intro w hSw; (try dsimp only at hSw); go_simp; try with_reducible rfl)
          (try dsimp only); (try simp only [Act.put]); (try simp only [List.setIfInBounds_toArray]); (try simp only [List.set_cons_succ]); (try simp only [List.set_cons_zero])
          refine wpAnyH_ready (rs := [7]) (by kernel_rfl) (by simp) ?_
          refine AllReadyH.cons (o := _) rfl (fun K hK => ?_) AllReadyH.nil
          go_simp
          refine (HCall.out _ (by repeat (first | exact Below.refl _ _ | refine al ?_ _ | refine Below.drew ?_ | refine sc ?_ (by simp) _))).mono ?_
          rintro e w2 ⟨rfl, hT2, hR2⟩
          refine hK.out _ _ (by (try dsimp only); exact HS.out _ ((Below.turn (show Below wr.heap.size wr wr.drew from (by repeat (first | exact Below.refl _ _ | refine al ?_ _ | refine Below.drew ?_ | refine sc ?_ (by simp) _)))).trans hT2)) (fun hHeld => ?_)
          clear hK K
          (try dsimp only); (try simp only [Act.put]); (try simp only [List.setIfInBounds_toArray]); (try simp only [List.set_cons_succ]); (try simp only [List.set_cons_zero])
          refine wpAnyH_take (i := 10) (oi := _) (v := ?_) rfl (by kernel_rfl) (by kernel_rfl) (by kernel_rfl) (fun _ _ _ h => h) (Or.inl ⟨by rfl, ?_⟩) (by assumption) ?_
          rotate_left
          · (intro w hSw; (try dsimp only at hSw); go_simp; try with_reducible rfl)
          (try dsimp only); (try simp only [Act.put]); (try simp only [List.setIfInBounds_toArray]); (try simp only [List.set_cons_succ]); (try simp only [List.set_cons_zero])
          refine wpAnyH_take (i := 11) (oi := _) (v := ?_) rfl (by kernel_rfl) (by kernel_rfl) (by kernel_rfl) (fun _ _ _ h => h) (Or.inl ⟨by rfl, ?_⟩) (by assumption) ?_
          rotate_left
          · (intro w hSw; (try dsimp only at hSw); go_simp; try with_reducible rfl)
          (try dsimp only); (try simp only [Act.put]); (try simp only [List.setIfInBounds_toArray]); (try simp only [List.set_cons_succ]); (try simp only [List.set_cons_zero])
          refine wpAnyH_take (i := 12) (oi := _) (v := ?_) rfl (by kernel_rfl) (by kernel_rfl) (by kernel_rfl) (fun _ _ _ h => h) (Or.inl ⟨by rfl, ?_⟩) (by assumption) ?_
          rotate_left
          · (intro w hSw; (try dsimp only at hSw); go_simp; try with_reducible rfl)
          (try dsimp only); (try simp only [Act.put]); (try simp only [List.setIfInBounds_toArray]); (try simp only [List.set_cons_succ]); (try simp only [List.set_cons_zero])
          refine wpAnyH_done (by kernel_rfl) ?_ _
          refine NoPanic.normal ?_
          have hT3 : Turn r.ex none wr w2 := (Below.turn (show Below wr.heap.size wr wr.drew from (by repeat (first | exact Below.refl _ _ | refine al ?_ _ | refine Below.drew ?_ | refine sc ?_ (by simp) _)))).trans hT2
          have HT3 := Lib.hid (HTr.out.trans hT3)
          have HK3 := Lib.hid hR2.kn
          have HB3 := Lib.hid (hT3.box0 HB8r.out)
          repeat (clear hHeld)
          clear hT3 hT2 hR2 HS HCall c8 t8 B8 HB8r HTr HRr hbx
          obtain ⟨b, hb⟩ : ∃ b, L.can pf pt k ph = b := ⟨_, rfl⟩
          have hbb := HBit.out
          rw [hb] at hbb
          have HB := Lib.hid hb
          cases b with
          | false =>
            have d9 : (bits .and .u64 ((bt : Int) / 2 ^ pt) 1 == 0) = true := by rw [hbb]; rfl
            have HV : Hid (stkV L l = ((i : Int), (k : Int), true)) := by
              show _ = _
              have hs : L.stick pf pt ph = k := firstNot_at hltk HB.out HCan.out
              unfold stkV
              rw [stkF_at HP.out HNo.out (by show L.stick pf pt ph ≠ _; omega)]
              show ((i : Int), ((L.stick pf pt ph : Nat) : Int), true) = _
              rw [hs]
            clear hb hbb HBit HB
            go_wp2_with fail
            go_ret3
            rw [HV.out]
            exact ⟨rfl, HT3.out, HK3.out⟩
          | true =>
            have d9 : (bits .and .u64 ((bt : Int) / 2 ^ pt) 1 == 0) = false := by rw [hbb]; rfl
            have HN : Hid (∀ x, x < k + 1 → L.can pf pt x ph = true) := fun x hx => by
              rcases Nat.lt_succ_iff_lt_or_eq.1 hx with h | rfl
              · exact HCan.out x h
              · exact HB.out
            clear hb hbb HBit HB
            go_wp2_with fail
            go_roundw
            case rel => exact ⟨k + 1, by omega, by go_num, HT3.out, HK3.out, HB3.out, HN.out⟩
            case measure => simp [intOf]; omega
        · obtain rfl : k = L.cs.length := by omega
          have HN : Hid (∀ x p, x < i + 1 → l[x]? = some p → L.stick p.fr p.ta p.hr = L.cs.length) := fun x p hx hxp => by
            rcases Nat.lt_succ_iff_lt_or_eq.1 hx with h | rfl
            · exact HNo.out x p h hxp
            · have := HP.out
              rw [hxp] at this
              cases this
              exact firstNot_all HCan.out
          clear HCan HNo HB8r hbx B8
          go_wp2_with fail
          go_roundw
          case rel => exact ⟨i + 1, by omega, by go_num, HTr.out, HRr.out.kn, HN.out⟩
          case measure => simp [intOf]; omega
    · obtain rfl : i = l.length := by omega
      have HV : Hid (stkV L l = (0, 0, false)) := by
        show _ = _
        unfold stkV
        rw [stkF_none HNo.out]
      have HKr := Lib.hid HRw.out.kn
      clear hT HNo HRw
      go_wp2_with fail
      go_ret3
      rw [HV.out]
      exact ⟨rfl, HT.out, HKr.out⟩
end Go.Proofs.Ytfihdaoakfdlpaa
