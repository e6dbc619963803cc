/- The statement on where a route sticks: its walk. -/
import Derived.Test.YtfihdaoakfdlpaaGreatLR5
import Derived.Test.YtfihdaoakfdlpaaGreatR23
import Derived.Test.YtfihdaoakfdlpaaGreatLR2
import Derived.Deep.DeepCutAuto
open Go.RowKit
namespace Go.Proofs.YtfihdaoakfdlpaaGreat
open Go.Hill

theorem askr_at {L : Land} {fr ta st k : Int} (h : L.askr fr ta st k = 0) : L.chk = 0 ∧ ∃ f t s : Nat, fr = f ∧ ta = t ∧ st = s ∧ f < L.st.length ∧ t < L.st.length ∧ s ≤ L.sn.length := by
  by_cases hc : L.chk = 0
  · refine ⟨hc, ?_⟩
    rw [askr_two hc] at h
    obtain ⟨f, t, s, c, h1, h2, h3, _, h5, h6, h7, _⟩ := okr_two (L := L) (fr := fr) (ta := ta) (st := st) (k := k) (by
      cases ho : okr L [fr, ta] [st] k with
      | true => rfl
      | false => rw [ho] at h; simp at h)
    exact ⟨f, t, s, h1, h2, h3, h5, h6, h7⟩
  · rw [askr_bad hc] at h
    exact absurd h hc
set_option maxRecDepth 100000 in
set_option maxHeartbeats 8000000 in
theorem RelaySticks_any (q : LV) (L : Land) (fr st : Int) (l : List Hi) (a : Option Addr) (c : Nat) (w : World) (hL : LandAt w q L) (hs : Sane L) (hl : HisAt w a l) (_ : l.length ≤ 9223372036854775807) :
    Calls Tryz.prog 9 #[landV q L, .int .i64 fr, .int .i64 st, .slice a l.length c] w (Ret (.bool true) w) := by
  obtain ⟨tv, htv⟩ : ∃ tv, tv = thinB L := ⟨_, rfl⟩
  have HThin : Hid (∀ W, Below w.heap.size w W → Calls Tryz.prog 13 #[landV q L] W (Ret (.bool tv) W)) := fun W hW => by rw [htv]; exact thin_any q L W (hL.later hW) hs
  have HL := Lib.hid hL
  have HI := Lib.hid hl
  have HTv := Lib.hid htv
  obtain ⟨n, hn⟩ : ∃ n, n = l.length := ⟨_, rfl⟩
  have HN := Lib.hid hn
  rw [← hn]
  clear hL hs htv hl hn
  go_enter Tryz.func9, Tryz.ntmps9
  go_wp2_with fail
  refine named1 (p := fun W => Calls _ _ _ W _) ?_
  intro W hW B5
  refine (HThin.out W hW).mono ?_
  rintro e w1 ⟨rfl, hb1⟩
  replace hW := over hW hb1
  (try clear c5 t5); replace B5 := B5.later hb1; have c5 := B5.cell; have t5 := B5.lt
  clear hb1 HThin
  cases tv with
  | false =>
    go_wp2_with fail
    refine (awake_any _).mono ?_
    rintro e w2 ⟨rfl, hb2⟩
    replace hW := over hW hb2
    clear hb2
    go_wp2_with fail
    go_ret
    exact ⟨rfl, hW⟩
  | true =>
    have HS := Lib.hid (thin_small HTv.out.symm)
    by_cases h15 : 15 < n
    · have d1 : decide ((15 : Int) < (n : Int)) = true := by simp; omega
      clear h15 HTv
      go_wp2_with fail
      refine (awake_any _).mono ?_
      rintro e w2 ⟨rfl, hb2⟩
      replace hW := over hW hb2
      clear hb2
      go_wp2_with fail
      go_ret
      exact ⟨rfl, hW⟩
    have d1 : decide ((15 : Int) < (n : Int)) = false := by simp; omega
    have hll : n ≤ 15 := by omega
    clear h15
    go_wp2_with fail
    refine (land_any q L w1 (HL.out.later hW) HS.out).mono ?_
    rintro e w2 ⟨q1, rfl, hbx, hlx⟩
    replace hW := over hW hbx
    (try clear c5 t5); replace B5 := B5.later hbx; have c5 := B5.cell; have t5 := B5.lt
    have HL2 := Lib.hid hlx
    clear hbx hlx
    go_wp2_with fail
    have HCv := Lib.hid (convR_any l a c w2 (HI.out.later hW) (by have := HN.out; omega))
    rw [← HN.out] at HCv
    refine HCv.out.mono ?_
    clear HCv
    rintro e w3 ⟨v3, rfl, hb3, hO3⟩
    obtain ⟨a3, c3, rfl, hi3⟩ := his_of hO3
    rw [← HN.out]
    obtain ⟨⟨xh, xk, xe⟩, hx⟩ : ∃ r, Land.sticE L fr st l = r := ⟨_, rfl⟩
    have HX := Lib.hid hx
    have HSt := Lib.hid (Stick_any q1 L fr st l a3 c3 w3 (HL2.out.later hb3) HS.out hi3 (by have := HN.out; omega))
    rw [hx, ← HN.out] at HSt
    replace hW := over hW hb3
    (try clear c5 t5); replace B5 := B5.later hb3; have c5 := B5.cell; have t5 := B5.lt
    clear hx hO3 hi3 HL2 hb3
    go_wp2_with fail
    refine HSt.out.mono ?_
    rintro e w4 ⟨rfl, hb4⟩
    replace hW := over hW hb4
    (try clear c5 t5); replace B5 := B5.later hb4; have c5 := B5.cell; have t5 := B5.lt
    clear hb4 HSt
    go_wp2_with fail
    obtain ⟨a1, ha1⟩ : ∃ a, a = L.askr fr fr st 0 := ⟨_, rfl⟩
    refine (asked3_any q L fr fr st 0 w4 (HL.out.later hW) HS.out).mono ?_
    rw [← ha1]
    have HA1 := Lib.hid ha1
    rintro e w5 ⟨rfl, hb5⟩
    replace hW := over hW hb5
    (try clear c5 t5); replace B5 := B5.later hb5; have c5 := B5.cell; have t5 := B5.lt
    clear hb5 ha1
    by_cases h0 : a1 = 0
    case neg =>
      have h0b : (a1 == 0) = false := by simpa using h0
      have hx := HX.out
      unfold Land.sticE at hx
      rw [← HA1.out, if_neg h0] at hx
      simp only [Prod.mk.injEq] at hx
      obtain ⟨rfl, rfl, rfl⟩ := hx
      clear h0 HX HA1
      go_wp2_with fail
      refine (awake_any _).mono ?_
      rintro e w6 ⟨rfl, hb6⟩
      replace hW := over hW hb6
      clear hb6
      go_wp2_with fail
      go_ret
      exact ⟨rfl, hW⟩
    subst h0
    obtain ⟨hc, f, t, s, rfl, ht, rfl, hf, ht2, hs'⟩ := askr_at HA1.out.symm
    clear ht ht2 t
    have hx := HX.out
    unfold Land.sticE at hx
    rw [← HA1.out, if_pos rfl, ← HN.out] at hx
    by_cases h12 : 12 < n
    · have d2 := lenY h12
      rw [if_pos h12] at hx
      simp only [Prod.mk.injEq] at hx
      obtain ⟨rfl, rfl, rfl⟩ := hx
      clear h12 HX HA1 d1 hll HTv
      go_wp2_with fail
      refine (awake_any _).mono ?_
      rintro e w6 ⟨rfl, hb6⟩
      replace hW := over hW hb6
      clear hb6
      go_wp2_with fail
      go_ret
      exact ⟨rfl, hW⟩
    have d2 := lenN h12
    rw [if_neg h12] at hx
    have HIs := Lib.hid (rIsRoute_any q L f s l a c w5 hc (HI.out.later hW) (by have := HN.out; omega))
    rw [← HN.out] at HIs
    obtain ⟨o, ho⟩ : ∃ o, o = leadF L.st.length L.sn.length f s l := ⟨_, rfl⟩
    rw [← ho] at HIs hx
    have HXx := Lib.hid hx
    have HO := Lib.hid ho
    have HC := Lib.hid hc
    have d3 : decide (n ≤ 12) = true := by simp; omega
    unfold isrV at HIs
    rw [d3, Bool.and_true] at HIs
    have HLl : Hid (n ≤ 15) := hll
    clear hx ho hc HX HA1 h12 d3 hll
    go_wp2_with fail
    refine HIs.out.mono ?_
    clear HIs
    cases o with
    | none =>
      rintro e w6 ⟨rfl, hb6⟩
      rw [show (none : Option Int).getD 0 = 0 from rfl, show (none : Option Int).isSome = false from rfl]
      replace hW := over hW hb6
      (try clear c5 t5); replace B5 := B5.later hb6; have c5 := B5.cell; have t5 := B5.lt
      have hx := HXx.out
      rw [if_pos rfl] at hx
      simp only [Prod.mk.injEq] at hx
      obtain ⟨rfl, rfl, rfl⟩ := hx
      clear HXx hb6
      go_wp2_with fail
      refine (awake_any _).mono ?_
      rintro e w7 ⟨rfl, hb7⟩
      replace hW := over hW hb7
      clear hb7
      go_wp2_with fail
      go_ret
      exact ⟨rfl, hW⟩
    | some g =>
      rintro e w6 ⟨rfl, hb6⟩
      rw [show (some g).getD 0 = g from rfl, show (some g).isSome = true from rfl]
      replace hW := over hW hb6
      (try clear c5 t5); replace B5 := B5.later hb6; have c5 := B5.cell; have t5 := B5.lt
      obtain ⟨hl, rfl, hch, hg⟩ := lead_chain HO.out.symm
      have hx := HXx.out
      rw [if_neg (by simp), hp_hi] at hx
      have HSk := Lib.hid (rStick_any q L hl a c w6 (HL.out.later hW) HC.out (his_hops (HI.out.later hW)) (by have := HLl.out; have h9 := HN.out; rw [List.length_map] at h9; omega) (chain_mem hf hch))
      rw [show hl.length = n by have := HN.out; rw [List.length_map] at this; omega] at HSk
      clear hb6 HXx hch hg HO HTv
      cases hsk : stkF L hl 0 with
      | none =>
        rw [hsk] at hx HSk
        simp only [Prod.mk.injEq] at hx
        obtain ⟨rfl, rfl, rfl⟩ := hx
        rw [show rstV none = .tuple #[.int .i64 (-1), .int .i64 0] from rfl] at HSk
        clear hsk
        go_wp2_with fail
        refine HSk.out.mono ?_
        rintro e w7 ⟨rfl, hb7⟩
        replace hW := over hW hb7
        (try clear c5 t5); replace B5 := B5.later hb7; have c5 := B5.cell; have t5 := B5.lt
        clear hb7 HSk
        go_wp2_with fail
        refine (awake_any _).mono ?_
        rintro e w8 ⟨rfl, hb8⟩
        replace hW := over hW hb8
        clear hb8
        go_wp2_with fail
        go_ret
        exact ⟨rfl, hW⟩
      | some ik =>
        obtain ⟨i, k⟩ := ik
        rw [hsk] at hx HSk
        simp only [Prod.mk.injEq] at hx
        obtain ⟨rfl, rfl, rfl⟩ := hx
        rw [show rstV (some (i, k)) = .tuple #[.int .i64 i, .int .i64 k] from rfl] at HSk
        clear hsk
        go_wp2_with fail
        refine HSk.out.mono ?_
        rintro e w7 ⟨rfl, hb7⟩
        replace hW := over hW hb7
        (try clear c5 t5); replace B5 := B5.later hb7; have c5 := B5.cell; have t5 := B5.lt
        clear hb7 HSk
        have r9 : (0 : Int) ≤ (i : Int) := by omega
        go_wp2_with fail
        refine (awake_any _).mono ?_
        rintro e w8 ⟨rfl, hb8⟩
        replace hW := over hW hb8
        clear hb8
        go_wp2_with fail
        go_ret
        exact ⟨rfl, hW⟩
end Go.Proofs.YtfihdaoakfdlpaaGreat
