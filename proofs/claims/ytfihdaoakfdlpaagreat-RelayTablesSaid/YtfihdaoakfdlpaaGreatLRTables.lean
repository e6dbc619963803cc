/- The statement on tables: its walk. -/
import Derived.Test.YtfihdaoakfdlpaaGreatLRHours
import Derived.Test.YtfihdaoakfdlpaaGreatRE3
import Derived.Test.YtfihdaoakfdlpaaGreatR20
open Go.RowKit
namespace Go.Proofs.YtfihdaoakfdlpaaGreat
open Go.Hill

set_option maxRecDepth 100000 in
set_option maxHeartbeats 8000000 in
theorem RelayTables_any (q : LV) (L : Land) (fr st k : Int) (tl : List Int) (ta : Option Addr) (tc : Nat) (w : World) (hL : LandAt w q L) (hs : Sane L) (hT : IntsAt w ta tl) (_hl : tl.length ≤ 9223372036854775807) :
    Calls Tryz.prog 6 #[landV q L, .int .i64 fr, .int .i64 st, .int .i64 k, .slice ta tl.length tc] w (Ret (.bool true) w) := by
  obtain ⟨tv, htv⟩ : ∃ tv, tv = thinB L := ⟨_, rfl⟩
  have HThin : Hid (∀ W, Below w.heap.size w W → Calls Tryz.prog 13 #[landV q L] W (Ret (.bool tv) W)) := fun W hW => by rw [htv]; exact thin_any q L W (hL.later hW) hs
  have HL := Lib.hid hL
  have HT := Lib.hid hT
  have HTv := Lib.hid htv
  clear hL hs htv hT
  go_enter Tryz.func6, Tryz.ntmps6
  go_wp2_with fail
  refine named1 (p := fun W => Calls _ _ _ W _) ?_
  intro W hW B5
  refine (HThin.out W hW).mono ?_
  rintro e w1 ⟨rfl, hb1⟩
  replace hW := over hW hb1
  (try clear c5 t5); replace B5 := B5.later hb1; have c5 := B5.cell; have t5 := B5.lt
  clear hb1 HThin
  cases tv with
  | false =>
    go_wp2_with fail
    refine (awake_any _).mono ?_
    rintro e w2 ⟨rfl, hb2⟩
    replace hW := over hW hb2
    clear hb2
    go_wp2_with fail
    go_ret
    exact ⟨rfl, hW⟩
  | true =>
    by_cases hlong : 9 < tl.length
    · have r1 : (9 : Int) < (tl.length : Int) := by omega
      clear hlong
      go_wp2_with fail
      refine (awake_any _).mono ?_
      rintro e w2 ⟨rfl, hb2⟩
      replace hW := over hW hb2
      clear hb2
      go_wp2_with fail
      go_ret
      exact ⟨rfl, hW⟩
    have r1 : ¬ (9 : Int) < (tl.length : Int) := by omega
    have hs := thin_small HTv.out.symm
    have HS := Lib.hid hs
    clear hs
    go_wp2_with fail
    clear r1
    refine (land_any q L w1 (HL.out.later hW) HS.out).mono ?_
    rintro e w2 ⟨q1, rfl, hbx, hlx⟩
    replace hW := over hW hbx
    (try clear c5 t5); replace B5 := B5.later hbx; have c5 := B5.cell; have t5 := B5.lt
    have HL2 := Lib.hid hlx
    clear hbx hlx
    go_wp2_with fail
    refine (list3_any tl ta tc w2 (HT.out.later hW) (by omega)).mono ?_
    rintro e w3 ⟨la, lc, rfl, hb3, hi3⟩
    have HPr := Lib.hid (ProveTable_any q1 L fr st k tl la lc w3 (HL2.out.later hb3) HS.out hi3 (by omega))
    replace hW := over hW hb3
    (try clear c5 t5); replace B5 := B5.later hb3; have c5 := B5.cell; have t5 := B5.lt
    obtain ⟨pv, hpv⟩ : ∃ pv, pv = Land.prvE L fr st k tl := ⟨_, rfl⟩
    rw [← hpv] at HPr
    have HPv := Lib.hid hpv
    clear hb3 hi3 HL2 hpv
    go_wp2_with fail
    refine HPr.out.mono ?_
    rintro e w4 ⟨rfl, hb4⟩
    replace hW := over hW hb4
    (try clear c5 t5); replace B5 := B5.later hb4; have c5 := B5.cell; have t5 := B5.lt
    clear hb4 HPr
    obtain ⟨a1, ha1⟩ : ∃ a, a = L.askr fr fr st k := ⟨_, rfl⟩
    have C1 := asked3_any q L fr fr st k w4 (HL.out.later hW) HS.out
    rw [← ha1] at C1
    replace C1 := Lib.hid C1
    have HA1 := Lib.hid ha1
    clear ha1
    go_wp2_with fail
    refine C1.out.mono ?_
    rintro e w5 ⟨rfl, hb5⟩
    replace hW := over hW hb5
    (try clear c5 t5); replace B5 := B5.later hb5; have c5 := B5.cell; have t5 := B5.lt
    clear hb5 C1
    by_cases h0 : a1 = 0
    · subst h0
      obtain ⟨hc, f, t, s, c, rfl, ht0, rfl, rfl, hf, ht, hs', hc0⟩ := askr_zero HA1.out.symm
      have HP := Lib.hid (rProves_any q L f s c tl ta tc w5 (HL.out.later hW) hc hf hc0 (HT.out.later hW) (by omega))
      have hpe : pv = L.prvB f s c tl := by rw [HPv.out, Land.prvE, ← HA1.out]; rfl
      rw [← hpe] at HP
      clear ht0 ht hc hpe HPv
      go_wp2_with fail
      refine HP.out.mono ?_
      rintro e w6 ⟨rfl, hb6⟩
      replace hW := over hW hb6
      clear hb6 HP c5 t5 B5
      cases pv
      all_goals
        go_wp2_with fail
        refine (awake_any _).mono ?_
        rintro e w7 ⟨rfl, hb7⟩
        replace hW := over hW hb7
        clear hb7
        go_wp2_with fail
        go_ret
        exact ⟨rfl, hW⟩
    · have h0b : (a1 == 0) = false := by simpa using h0
      have hpe : pv = false := by rw [HPv.out, Land.prvE, ← HA1.out, decide_eq_false h0]; rfl
      subst hpe
      clear h0 HPv c5 t5 B5
      go_wp2_with fail
      refine (awake_any _).mono ?_
      rintro e w7 ⟨rfl, hb7⟩
      replace hW := over hW hb7
      clear hb7
      go_wp2_with fail
      go_ret
      exact ⟨rfl, hW⟩
end Go.Proofs.YtfihdaoakfdlpaaGreat
