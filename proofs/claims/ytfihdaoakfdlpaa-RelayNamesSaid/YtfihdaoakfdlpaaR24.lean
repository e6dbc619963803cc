/- Layer 3, the walks: the exported function ProveRoute. -/
import Derived.Test.YtfihdaoakfdlpaaR23
open Go.RowKit Go.Shelf
namespace Go.Proofs.Ytfihdaoakfdlpaa
open Go.Hill

set_option maxRecDepth 100000 in
set_option maxHeartbeats 8000000 in
theorem ProveRoute_any (q : LV) (L : Land) (fr ta st : Int) (l : List Hi) (a : Option Addr) (c : Nat) (u : Int) (w : World) (hL : LandAt w q L) (hs : Small L) (hl : HisAt w a l) (hll : l.length ≤ 1000) :
    Calls Try.prog 24 #[landV q L, .int .i64 fr, .int .i64 ta, .int .i64 st, .slice a l.length c, .int .i64 u] w (Ret (.bool (Land.prvR L fr ta st l u)) w) := by
  have HL := Lib.hid hL
  have HI := Lib.hid hl
  obtain ⟨n, hn⟩ : ∃ n, n = l.length := ⟨_, rfl⟩
  have HN := Lib.hid hn
  rw [← hn] at hll ⊢
  clear hL hl hn
  by_cases hc : L.chk = 0
  case neg =>
    have h1 : Land.prvR L fr ta st l u = false := by unfold Land.prvR; rw [decide_eq_false hc]; rfl
    rw [h1]
    clear h1
    go_enter Try.func24, Try.ntmps24
    go_wp2_with fail
    refine named3 (p := fun W => Calls _ _ _ W _) ?_
    intro W hW B4 B20 B22
    have HNo := Lib.hid (open_bad q L (.slice (some ⟨w.heap.size + 1, 0, none⟩) 2 2) (.slice (some ⟨w.heap.size + 1 + 1, 0, none⟩) 2 2) 0 W (HL.out.later hW) hs hc)
    have hcb : (L.chk != 0) = true := by simpa using hc
    generalize L.chk = c at *
    clear hc
    refine HNo.out.mono ?_
    rintro e w1 ⟨rfl, hb1⟩
    replace hW := over hW hb1
    clear hb1 HNo B4 B20 B22
    go_wp2_with fail
    go_ret
    exact ⟨rfl, hW⟩
  have HC := Lib.hid hc
  obtain ⟨v, hv⟩ : ∃ v, v = Land.prvR L fr ta st l u := ⟨_, rfl⟩
  rw [← hv]
  rw [Land.prvR, decide_eq_true hc, Bool.true_and] at hv
  have HV := Lib.hid hv
  have h12 := st_six hc
  clear hv hc
  go_enter Try.func24, Try.ntmps24
  go_wp2_with fail
  refine named3 (p := fun W => Calls _ _ _ W _) ?_
  intro W hW B4 B20 B22
  have hB20 : Box W (w.heap.size + 1) #[.int .i64 fr, .int .i64 ta] 3 := B20
  have hB22 : Box W (w.heap.size + 1 + 1) #[.int .i64 st, .int .i64 u] 3 := B22
  have hsz0 := hW.size
  refine (open_any q L [fr, ta] [st, u] _ _ 2 2 0 W (HL.out.later hW) HC.out (ints_two_box hB20) (ints_two_box hB22) (by simp) (by simp)).mono ?_
  rintro e w1 (⟨hno, rfl, hb1⟩ | ⟨hyes, r, rfl, hb1, hR1, hn0⟩)
  · have h1 := HV.out
    rw [hno, Bool.false_and] at h1
    subst h1
    replace hW := over hW hb1
    clear hb1 B4 B20 B22 hB20 hB22 hno HV
    go_wp2_with fail
    go_ret
    exact ⟨rfl, hW⟩
  · obtain ⟨f, t, s, u', rfl, rfl, rfl, rfl, hf, ht, hs', hu'⟩ := okr_four hyes
    have h1 := HV.out
    rw [hyes, Bool.true_and, ← HN.out] at h1
    replace hW := over hW hb1
    have HR1 := Lib.hid hR1
    have HN0 : Hid (w.heap.size ≤ r.n0) := by show _ ≤ _; rw [hn0]; exact hsz0
    have HI1 := Lib.hid (HI.out.later hW)
    clear hb1 B4 B20 B22 hB20 hB22 hyes HV hR1 hn0
    by_cases h12' : 12 < n
    · rw [decide_eq_false (show ¬ n ≤ 12 by omega), Bool.false_and] at h1
      subst h1
      have d1 := lenY h12'
      clear h12' h12
      go_wp2_with fail
      go_ret
      exact ⟨rfl, hW⟩
    rw [decide_eq_true (show n ≤ 12 by omega), Bool.true_and] at h1
    have d1 := lenN h12'
    have HLe := Lib.hid (leads_any r q L f s l a c w1 HR1.out HC.out HI1.out (by have := HN.out; omega))
    rw [← HN.out] at HLe
    obtain ⟨o, ho⟩ : ∃ o, o = leadF L.st.length L.sn.length f s l := ⟨_, rfl⟩
    rw [← ho] at HLe h1
    have H1 := Lib.hid h1
    have HO := Lib.hid ho
    clear h1 h12' h12 ho
    go_wp2_with fail
    refine HLe.out.mono ?_
    clear HLe
    cases o with
    | none =>
      rintro e w2 ⟨rfl, hb2⟩
      rw [show ledV none = .tuple #[.int .i64 0, .bool false] from rfl]
      replace hW := over hW hb2
      have h1 := H1.out
      rw [decide_eq_false (by simp), Bool.false_and] at h1
      subst h1
      clear hb2 H1
      go_wp2_with fail
      go_ret
      exact ⟨rfl, hW⟩
    | some g =>
      rintro e w2 ⟨rfl, hb2⟩
      rw [show ledV (some g) = .tuple #[.int .i64 g, .bool true] from rfl]
      by_cases hgt : g = (t : Int)
      case neg =>
        have d2 : (g != (t : Int)) = true := by simpa using hgt
        have h1 := H1.out
        rw [decide_eq_false (by simpa using hgt), Bool.false_and] at h1
        subst h1
        replace hW := over hW hb2
        clear hb2 H1 hgt
        go_wp2_with fail
        go_ret
        exact ⟨rfl, hW⟩
      subst hgt
      obtain ⟨hl, rfl, hch, hg⟩ := lead_chain HO.out.symm
      have h1 := H1.out
      rw [decide_eq_true rfl, Bool.true_and, hp_hi] at h1
      have hmem := chain_mem hf hch
      have HSt := Lib.hid (stick3_any r q L hl a c w2 (HR1.out.later hb2) HC.out (his_hops (HI1.out.later hb2)) (by have := HN.out; rw [List.length_map] at this; omega) hmem)
      rw [show hl.length = n by have := HN.out; rw [List.length_map] at this; omega] at HSt
      have HW2 := Lib.hid (over hW hb2)
      have HI2 := Lib.hid (HI1.out.later hb2)
      obtain ⟨x, hx⟩ : ∃ x, stkV L hl = x := ⟨_, rfl⟩
      rw [hx] at HSt
      cases hsk : stkF L hl 0 with
      | some ik =>
        obtain ⟨i, k⟩ := ik
        rw [hsk] at h1
        rw [stkV_yes hsk] at hx
        subst hx
        have h2 : v = false := h1
        subst h2
        clear h1 hsk hmem hch hg hb2 hW H1
        go_wp2_with fail
        refine HSt.out.mono ?_
        rintro e w3 ⟨rfl, hT3, hK3⟩
        have HW3 := Lib.hid (over_turn HW2.out hT3 hK3 HN0.out)
        rw [show stkT ((i : Int), (k : Int), true) = .tuple #[.int .i64 i, .int .i64 k, .bool true] from rfl]
        clear hT3 hK3 HSt
        go_wp2_with fail
        go_ret
        exact ⟨rfl, HW3.out⟩
      | none =>
        rw [hsk] at h1
        rw [stkV_no hsk] at hx
        subst hx
        have h2 : v = decide (arrF (s : Int) (hl.map Hp.hi) ≤ (u' : Int)) := by rw [h1]; rfl
        have HV2 := Lib.hid h2
        have hhr : ∀ p ∈ hl.map Hp.hi, 0 ≤ p.hr ∧ p.hr ≤ 1000 := fun p hp => by
          obtain ⟨y, hy, rfl⟩ := List.mem_map.1 hp
          have := (hmem y hy).2.2
          show (0 : Int) ≤ (y.hr : Int) ∧ (y.hr : Int) ≤ 1000
          have := (st_six HC.out).2.2
          omega
        have HHr := Lib.hid hhr
        clear h1 h2 hsk hmem hch hg hb2 hW H1 hhr HO
        generalize hl.map Hp.hi = l at *
        go_wp2_with fail
        refine HSt.out.mono ?_
        rintro e w3 ⟨rfl, hT3, hK3⟩
        have HW3 := Lib.hid (over_turn HW2.out hT3 hK3 HN0.out)
        have HI3 := Lib.hid (hT3.row HI2.out)
        rw [show stkT (0, 0, false) = .tuple #[.int .i64 0, .int .i64 0, .bool false] from rfl]
        clear hT3 hK3 HSt
        by_cases h0 : l = []
        · subst h0
          obtain rfl : n = 0 := HN.out
          rw [arrF_nil] at HV2
          clear HN HI HI1 HI2 HI3 HHr hll d1
          go_wp2_with fail
          go_ret
          exact ⟨ret_bool (by rw [HV2.out]; exact decide_eq_decide.2 (by omega)), HW3.out⟩
        · have hpos : 0 < l.length := List.length_pos_iff.2 h0
          have hnl := HN.out
          obtain ⟨p1, o1, rfl, hC1⟩ := RowAt.at HI3.out (show l.length - 1 < l.length by omega)
          obtain ⟨p, hp⟩ : ∃ p, l[l.length - 1]? = some p := ⟨l[l.length - 1], by simp⟩
          obtain ⟨e0, e1, e2⟩ := cells_hi hC1 hp
          have z1 := block_lt_of_cell e0
          obtain ⟨hb1, hb2⟩ := HHr.out p (List.mem_of_getElem? hp)
          have hv2 := HV2.out
          rw [arrF_last hp] at hv2
          have HV3 := Lib.hid hv2
          obtain ⟨m, hm⟩ : ∃ m, m = l.length - 1 := ⟨_, rfl⟩
          rw [← hm] at e0 e1 e2
          have r0 : (n : Int) - 1 = (m : Int) := by omega
          have r1 : (0 : Int) ≤ (m : Int) := by omega
          have r2 : (m : Int) < (n : Int) := by omega
          have r3 : (0 : Int) < (n : Int) := by omega
          clear hC1 hp h0 HHr hm hv2 HV2 HI HI1 HI2 HI3 hnl hpos HN d1
          go_wp2_with fail
          go_ret
          exact ⟨ret_bool HV3.out.symm, HW3.out⟩
end Go.Proofs.Ytfihdaoakfdlpaa
