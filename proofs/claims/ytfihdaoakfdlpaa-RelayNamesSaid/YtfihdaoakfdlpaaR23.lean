/- Layer 3, the walks: the exported functions Stick, ProveRoute. -/
import Derived.Test.YtfihdaoakfdlpaaR22
import Derived.Test.YtfihdaoakfdlpaaRB
import Derived.Test.YtfihdaoakfdlpaaRPlain10
open Go.RowKit Go.Shelf
namespace Go.Proofs.Ytfihdaoakfdlpaa
open Go.Hill

/-- What Stick returns. -/
def Land.sticE (L : Land) (fr st : Int) (l : List Hi) : Int × Int × Int :=
  if L.askr fr fr st 0 = 0 then (if 12 < l.length then (0, 0, 3) else if leadF L.st.length L.sn.length fr st l = none then (0, 0, 2) else (match stkF L (l.map Hi.hp) 0 with | some (i, k) => ((i : Int), (k : Int), 0) | none => (0, 0, 7))) else (0, 0, L.askr fr fr st 0)
/-- What ProveRoute returns. -/
def Land.prvR (L : Land) (fr ta st : Int) (l : List Hi) (b : Int) : Bool :=
  decide (L.chk = 0) && (okr L [fr, ta] [st, b] 0 && (decide (l.length ≤ 12) && (decide (leadF L.st.length L.sn.length fr st l = some ta) && ((stkF L (l.map Hi.hp) 0).isNone && decide (arrF st l ≤ b)))))
theorem prvR_home {L : Land} {f s : Nat} (hc : L.chk = 0) (hf : f < L.st.length) (hs : s ≤ L.sn.length) (hm : 0 < L.cs.length) : Land.prvR L f f s [] s = true := by
  unfold Land.prvR okr
  simp [hc, leadF, stkF, arrF, inB]
  omega
theorem okr_four {L : Land} {fr ta st u k : Int} (h : okr L [fr, ta] [st, u] k = true) : ∃ f t s b : Nat, fr = f ∧ ta = t ∧ st = s ∧ u = b ∧ f < L.st.length ∧ t < L.st.length ∧ s ≤ L.sn.length ∧ b ≤ L.sn.length := by
  unfold okr at h
  simp only [List.all_cons, List.all_nil, Bool.and_true, Bool.and_eq_true, inB_iff] at h
  exact ⟨fr.toNat, ta.toNat, st.toNat, u.toNat, by omega, by omega, by omega, by omega, by omega, by omega, by omega, by omega⟩
theorem lenN {n : Nat} : ¬ 12 < n → decide ((12 : Int) < (n : Int)) = false := fun h => by simp; omega
theorem lenY {n : Nat} : 12 < n → decide ((12 : Int) < (n : Int)) = true := fun h => by simp; omega
theorem stkV_no {L : Land} {l : List Hp} (h : stkF L l 0 = none) : stkV L l = (0, 0, false) := by unfold stkV; rw [h]
theorem stkV_yes {L : Land} {l : List Hp} {i k : Nat} (h : stkF L l 0 = some (i, k)) : stkV L l = ((i : Int), (k : Int), true) := by unfold stkV; rw [h]
set_option maxRecDepth 100000 in
set_option maxHeartbeats 8000000 in
theorem Stick_any (q : LV) (L : Land) (fr st : Int) (l : List Hi) (a : Option Addr) (c : Nat) (w : World) (hL : LandAt w q L) (hs : Small L) (hl : HisAt w a l) (hll : l.length ≤ 1000) :
    Calls Try.prog 21 #[landV q L, .int .i64 fr, .int .i64 st, .slice a l.length c] w (Ret (.tuple #[.int .i64 (Land.sticE L fr st l).1, .int .i64 (Land.sticE L fr st l).2.1, .int .i64 (Land.sticE L fr st l).2.2]) w) := by
  have HL := Lib.hid hL
  have HI := Lib.hid hl
  obtain ⟨n, hn⟩ : ∃ n, n = l.length := ⟨_, rfl⟩
  have HN := Lib.hid hn
  rw [← hn] at hll ⊢
  clear hL hl hn
  by_cases hc : L.chk = 0
  case neg =>
    have h1 : Land.sticE L fr st l = (0, 0, L.chk) := by unfold Land.sticE; rw [askr_bad hc, if_neg hc]
    rw [h1]
    simp only
    clear h1
    go_enter Try.func21, Try.ntmps21
    go_wp2_with fail
    refine named3 (p := fun W => Calls _ _ _ W _) ?_
    intro W hW B4 B20 B22
    have HNo := Lib.hid (open_bad q L (.slice (some ⟨w.heap.size + 1, 0, none⟩) 1 1) (.slice (some ⟨w.heap.size + 1 + 1, 0, none⟩) 1 1) 0 W (HL.out.later hW) hs hc)
    have hcb : (L.chk != 0) = true := by simpa using hc
    generalize L.chk = c at *
    clear hc
    refine HNo.out.mono ?_
    rintro e w1 ⟨rfl, hb1⟩
    replace hW := over hW hb1
    clear hb1 HNo B4 B20 B22
    go_wp2_with fail
    go_ret3
    exact ⟨rfl, hW⟩
  have HC := Lib.hid hc
  obtain ⟨v, hv⟩ : ∃ v, v = Land.sticE L fr st l := ⟨_, rfl⟩
  rw [← hv]
  rw [Land.sticE, askr_one hc] at hv
  have HV := Lib.hid hv
  have h12 := st_six hc
  clear hv hc
  go_enter Try.func21, Try.ntmps21
  go_wp2_with fail
  refine named3 (p := fun W => Calls _ _ _ W _) ?_
  intro W hW B4 B20 B22
  have hB20 : Box W (w.heap.size + 1) #[.int .i64 fr] 3 := B20
  have hB22 : Box W (w.heap.size + 1 + 1) #[.int .i64 st] 3 := B22
  have hsz0 := hW.size
  refine (open_any q L [fr] [st] _ _ 1 1 0 W (HL.out.later hW) HC.out (ints_one_box hB20) (ints_one_box hB22) (by simp) (by simp)).mono ?_
  rintro e w1 (⟨hno, rfl, hb1⟩ | ⟨hyes, r, rfl, hb1, hR1, hn0⟩)
  · have h1 := HV.out
    rw [hno] at h1
    simp only [Bool.false_eq_true, if_false] at h1
    rw [if_neg (by decide)] at h1
    have H1 := Lib.hid h1
    replace hW := over hW hb1
    clear hb1 B4 B20 B22 hB20 hB22 hno h1 HV
    go_wp2_with fail
    go_ret3
    rw [H1.out]
    exact ⟨rfl, hW⟩
  · obtain ⟨f, s, c0, rfl, rfl, hc00, hf, hs', hc'⟩ := okr_one hyes
    have h1 := HV.out
    rw [hyes] at h1
    simp only [if_true] at h1
    rw [← HN.out] at h1
    replace hW := over hW hb1
    have HR1 := Lib.hid hR1
    have HN0 : Hid (w.heap.size ≤ r.n0) := by show _ ≤ _; rw [hn0]; exact hsz0
    have HI1 := Lib.hid (HI.out.later hW)
    clear hb1 B4 B20 B22 hB20 hB22 hyes HV hR1 hn0 hc00 hc' c0
    by_cases h12' : 12 < n
    · rw [if_pos h12'] at h1
      have H1 := Lib.hid h1
      have d1 := lenY h12'
      clear h1 h12' h12
      go_wp2_with fail
      go_ret3
      rw [H1.out]
      exact ⟨rfl, hW⟩
    rw [if_neg h12'] at h1
    have d1 := lenN h12'
    have HLe := Lib.hid (leads_any r q L f s l a c w1 HR1.out HC.out HI1.out (by have := HN.out; omega))
    rw [← HN.out] at HLe
    obtain ⟨o, ho⟩ : ∃ o, o = leadF L.st.length L.sn.length f s l := ⟨_, rfl⟩
    rw [← ho] at HLe h1
    have H1 := Lib.hid h1
    have HO := Lib.hid ho
    clear h1 h12' h12 ho
    go_wp2_with fail
    refine HLe.out.mono ?_
    clear HLe
    cases o with
    | none =>
      rintro e w2 ⟨rfl, hb2⟩
      rw [show ledV none = .tuple #[.int .i64 0, .bool false] from rfl]
      replace hW := over hW hb2
      have h1 := H1.out
      rw [if_pos rfl] at h1
      replace H1 := Lib.hid h1
      clear hb2 h1
      go_wp2_with fail
      go_ret3
      rw [H1.out]
      exact ⟨rfl, hW⟩
    | some g =>
      rintro e w2 ⟨rfl, hb2⟩
      rw [show ledV (some g) = .tuple #[.int .i64 g, .bool true] from rfl]
      obtain ⟨hl, rfl, hch, hg⟩ := lead_chain HO.out.symm
      have h1 := H1.out
      rw [if_neg (by simp), hp_hi] at h1
      have hmem := chain_mem hf hch
      have HSt := Lib.hid (stick3_any r q L hl a c w2 (HR1.out.later hb2) HC.out (his_hops (HI1.out.later hb2)) (by have := HN.out; rw [List.length_map] at this; omega) hmem)
      rw [show hl.length = n by have := HN.out; rw [List.length_map] at this; omega] at HSt
      have HW2 := Lib.hid (over hW hb2)
      obtain ⟨x, hx⟩ : ∃ x, stkV L hl = x := ⟨_, rfl⟩
      rw [hx] at HSt
      cases hsk : stkF L hl 0 with
      | none =>
        rw [hsk] at h1
        rw [stkV_no hsk] at hx
        subst hx
        replace H1 := Lib.hid h1
        clear h1 hsk hmem hch hg hb2 hW
        go_wp2_with fail
        refine HSt.out.mono ?_
        rintro e w3 ⟨rfl, hT3, hK3⟩
        have HW3 := Lib.hid (over_turn HW2.out hT3 hK3 HN0.out)
        rw [show stkT (0, 0, false) = .tuple #[.int .i64 0, .int .i64 0, .bool false] from rfl]
        clear hT3 hK3 HSt
        go_wp2_with fail
        go_ret3
        rw [H1.out]
        exact ⟨rfl, HW3.out⟩
      | some ik =>
        obtain ⟨i, k⟩ := ik
        rw [hsk] at h1
        rw [stkV_yes hsk] at hx
        subst hx
        replace H1 := Lib.hid h1
        clear h1 hsk hmem hch hg hb2 hW
        go_wp2_with fail
        refine HSt.out.mono ?_
        rintro e w3 ⟨rfl, hT3, hK3⟩
        have HW3 := Lib.hid (over_turn HW2.out hT3 hK3 HN0.out)
        rw [show stkT ((i : Int), (k : Int), true) = .tuple #[.int .i64 i, .int .i64 k, .bool true] from rfl]
        clear hT3 hK3 HSt
        go_wp2_with fail
        go_ret3
        rw [H1.out]
        exact ⟨rfl, HW3.out⟩
end Go.Proofs.Ytfihdaoakfdlpaa
