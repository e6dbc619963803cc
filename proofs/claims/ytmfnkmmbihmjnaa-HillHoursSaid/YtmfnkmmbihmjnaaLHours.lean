/- The statement on the hours: its walk. -/
import Derived.Test.YtmfnkmmbihmjnaaLaw0
import Derived.Test.YtmfnkmmbihmjnaaRef2
import Derived.Deep.DeepCutAuto
import Derived.Deep.CutBlock
open Go.RowKit
namespace Go.Proofs.Ytmfnkmmbihmjnaa
open Go.Hill

/-! ### Two lists that grow side by side -/
def Two (W : World) (base : Nat) (v1 : Value) (xs1 : List (List Value)) (v2 : Value) (xs2 : List (List Value)) : Prop :=
  Own W base 3 1 v1 xs1 ∧ Own W base 3 1 v2 xs2 ∧ ∀ g, v1.ownBlock = some g → v2.ownBlock ≠ some g
section
variable {W W' : World} {base : Nat} {v1 v2 : Value} {xs1 xs2 : List (List Value)}
theorem Two.nil (W : World) (base : Nat) : Two W base (.slice none 0 0) [] (.slice none 0 0) [] := ⟨Own.nil _ _ _ _, Own.nil _ _ _ _, fun g hg => by cases hg⟩
theorem Two.later (h : Two W base v1 xs1 v2 xs2) (hb : Below W.heap.size W W') : Two W' base v1 xs1 v2 xs2 := ⟨h.1.later hb, h.2.1.later hb, h.2.2⟩
theorem Two.swap (h : Two W base v1 xs1 v2 xs2) : Two W base v2 xs2 v1 xs1 := ⟨h.2.1, h.1, fun g h1 h2 => h.2.2 g h2 h1⟩
theorem Two.grow (h : Two W base v1 xs1 v2 xs2) {v' : Value} {xs' : List (List Value)} (ho : Own W' base 3 1 v' xs') (hg : W.grownBy W' v1.ownBlock) (hn : ∀ g, v'.ownBlock = some g → v1.ownBlock = some g ∨ W.heap.size ≤ g) :
    Two W' base v' xs' v2 xs2 := by
  refine ⟨ho, h.2.1.turn fun k hk => hg.block k (h.2.1.1.lt k hk).2 fun he => h.2.2 k he.symm hk, fun g h1 h2 => ?_⟩
  rcases hn g h1 with h3 | h3
  · exact h.2.2 g h3 h2
  · have := (h.2.1.1.lt g h2).2
    omega
end

/-! ### What the answers say -/
section
variable {L : Land} {fr ta k t : Int} {l : List Int} {e v : Int}
theorem hrsE_two (h : Land.hrsE L fr ta k = (l, e)) : Land.ask L fr ta k 0 = e ∧ (e ≠ 0 → l = []) := by
  unfold Land.hrsE Land.ask2 at h
  unfold Land.ask
  split at h
  · rename_i hc
    rw [if_pos hc]
    split at h
    · rename_i h1
      simp only [Prod.mk.injEq] at h
      exact ⟨h1.trans h.2, fun h2 => absurd h.2.symm h2⟩
    · simp only [Prod.mk.injEq] at h
      exact ⟨h.2, fun _ => h.1.symm⟩
  · rename_i hc
    rw [if_neg hc]
    simp only [Prod.mk.injEq] at h
    exact ⟨h.2, fun _ => h.1.symm⟩
theorem alwE_two (h : Land.alwE L fr ta = (l, e)) : Land.ask L fr ta 0 0 = e ∧ (e ≠ 0 → l = []) ∧ (e = 0 → l = L.alw fr.toNat ta.toNat) := by
  unfold Land.alwE Land.ask2 at h
  unfold Land.ask
  split at h
  · rename_i hc
    rw [if_pos hc]
    split at h
    · rename_i h1
      simp only [Prod.mk.injEq] at h
      exact ⟨h1.trans h.2, fun h2 => absurd h.2.symm h2, fun _ => h.1.symm⟩
    · rename_i h1
      simp only [Prod.mk.injEq] at h
      exact ⟨h.2, fun _ => h.1.symm, fun h2 => absurd (h.2.trans h2) h1⟩
  · rename_i hc
    rw [if_neg hc]
    simp only [Prod.mk.injEq] at h
    exact ⟨h.2, fun _ => h.1.symm, fun h2 => absurd (h.2.trans h2) hc⟩
/-- The hours at which a station can, in a case that may not be there. -/
def hourIn (L : Land) (i j : Nat) (k : Int) (m t : Nat) : Bool := decide (0 ≤ k ∧ k < (m : Int)) && L.can i j k.toNat t
theorem sel_none {p : Nat → Bool} (h : ∀ t, p t = false) (n : Nat) : sel p n = [] := by
  induction n with
  | zero => rfl
  | succ n ih => rw [sel_no (h n), ih]
theorem hrsE_list {i j : Nat} (hc : L.chk = 0) (hi : i < L.st.length) (hj : j < L.st.length) (hne : i ≠ j) (hs : 0 < L.sn.length) (h : Land.hrsE L i j k = (l, e)) : l = sel (hourIn L i j k L.cs.length) L.sn.length := by
  unfold Land.hrsE Land.ask2 at h
  rw [if_pos hc] at h
  by_cases hk : 0 ≤ k ∧ k < (L.cs.length : Int)
  · rw [if_pos (askd_ok hi hj hk (by omega) hne)] at h
    simp only [Prod.mk.injEq, Int.toNat_natCast] at h
    rw [← h.1]
    unfold Land.hrs hourIn
    simp only [decide_eq_true hk, Bool.true_and]
  · rw [if_neg] at h
    · simp only [Prod.mk.injEq] at h
      rw [← h.1, sel_none]
      intro t
      unfold hourIn
      rw [decide_eq_false hk, Bool.false_and]
    · unfold askd
      rw [if_neg]
      · decide
      · intro h2
        simp [inB] at h2
        omega
theorem stickE_two (h : Land.stickE L fr ta t = (v, e)) :
    (Land.ask L fr ta 0 t ≠ 0 ∧ v = 0 ∧ e = Land.ask L fr ta 0 t) ∨ (Land.ask L fr ta 0 t = 0 ∧ L.chk = 0 ∧ askd L.st.length L.cs.length L.sn.length fr ta 0 t = 0 ∧ (v, e) = if L.stick fr.toNat ta.toNat t.toNat = L.cs.length then (0, 7) else (((L.stick fr.toNat ta.toNat t.toNat : Nat) : Int), 0)) := by
  unfold Land.stickE Land.ask2 at h
  unfold Land.ask
  split at h
  · rename_i hc
    rw [if_pos hc]
    split at h
    · rename_i h1
      exact .inr ⟨h1, hc, h1, h.symm⟩
    · rename_i h1
      simp only [Prod.mk.injEq] at h
      exact .inl ⟨h1, h.1.symm, h.2.symm⟩
  · rename_i hc
    rw [if_neg hc]
    simp only [Prod.mk.injEq] at h
    exact .inl ⟨hc, h.1.symm, h.2.symm⟩
end
theorem stick_here {L : Land} {i j t n : Nat} (h1 : n < L.cs.length) (h2 : L.can i j n t = false) (h3 : ∀ c, c < n → L.can i j c t = true) : L.stick i j t = n := by
  unfold Land.stick
  exact firstNot_at h1 h2 h3
theorem hourIn_all {L : Land} {i j : Nat} {k : Int} {m t : Nat} (h : ¬ ((m : Int) = k)) : hourIn L i j k (m + 1) t = hourIn L i j k m t := by
  unfold hourIn
  have : (0 ≤ k ∧ k < ((m + 1 : Nat) : Int)) ↔ (0 ≤ k ∧ k < (m : Int)) := by omega
  rw [decide_eq_decide.2 this]
theorem hourIn_here {L : Land} {i j m t : Nat} : hourIn L i j (m : Int) (m + 1) t = L.can i j m t := by
  unfold hourIn
  rw [decide_eq_true (by omega)]
  simp
theorem hourIn_not {L : Land} {i j m t : Nat} : hourIn L i j (m : Int) m t = false := by
  unfold hourIn
  rw [decide_eq_false (by omega)]
  simp
theorem hourIn_no {L : Land} {i j : Nat} {k : Int} {m t : Nat} (h : L.can i j m t = false) : hourIn L i j k (m + 1) t = hourIn L i j k m t := by
  by_cases hk : (m : Int) = k
  · subst hk
    rw [hourIn_here, hourIn_not, h]
  · exact hourIn_all hk

set_option maxRecDepth 100000 in
set_option maxHeartbeats 4000000 in
theorem HillHours_any (q : LV) (L : Land) (fr ta k t : Int) (w : World) (hL : LandAt w q L) (hs : Sane L) :
    Calls Try.prog 7 #[landV q L, .int .i64 fr, .int .i64 ta, .int .i64 k, .int .i64 t] w (Ret (.bool true) w) := by
  obtain ⟨tv, htv⟩ : ∃ tv, tv = thinB L := ⟨_, rfl⟩
  have HThin : Hid (∀ W, Below w.heap.size w W → Calls Try.prog 17 #[landV q L] W (Ret (.bool tv) W)) := fun W hW => by rw [htv]; exact thin_any q L W (hL.later hW) hs
  have HL := Lib.hid hL
  have HTv := Lib.hid htv
  clear hL hs htv
  go_enter Try.func7, Try.ntmps7
  go_wp2_with fail
  refine named1 (p := fun W => Calls _ _ _ W _) ?_
  intro W hW B5
  refine (HThin.out W hW).mono ?_
  rintro e w1 ⟨rfl, hb1⟩
  replace hW := over hW hb1
  (try clear c5 t5); replace B5 := B5.later hb1; have c5 := B5.cell; have t5 := B5.lt
  clear hb1 HThin
  cases tv with
  | false =>
    go_wp2_with fail
    refine (awake_any _).mono ?_
    rintro e w2 ⟨rfl, hb2⟩
    replace hW := over hW hb2
    go_wp2_with fail
    go_ret
    exact ⟨rfl, hW⟩
  | true =>
    have hs := thin_small HTv.out.symm
    have l3 := hs.l3
    have l4 := hs.l4
    have HS := Lib.hid hs
    clear hs
    go_wp2_with fail
    refine (land_any q L w1 (HL.out.later hW) HS.out).mono ?_
    rintro e w2 ⟨q1, rfl, hbx, hlx⟩
    replace hW := over hW hbx
    (try clear c5 t5); replace B5 := B5.later hbx; have c5 := B5.cell; have t5 := B5.lt
    have HL2 := Lib.hid hlx
    clear hbx hlx
    go_wp2_with fail
    obtain ⟨⟨hl, he⟩, hhr⟩ : ∃ r, Land.hrsE L fr ta k = r := ⟨_, rfl⟩
    have HHr := Lib.hid hhr
    clear hhr
    refine (Hours_any q1 L fr ta k w2 HL2.out HS.out).mono ?_
    rw [HHr.out]
    rintro e w3 ⟨ha, hcp, rfl, hb3, hi3⟩
    replace hW := over hW hb3
    (try clear c5 t5); replace B5 := B5.later hb3; have c5 := B5.cell; have t5 := B5.lt
    have HH3 := Lib.hid (show IntsAt w3 ha hl from hi3)
    clear hb3 hi3 HL2
    go_wp2_with fail
    refine (land_any q L w3 (HL.out.later hW) HS.out).mono ?_
    rintro e w4 ⟨q2, rfl, hb4, hl4⟩
    replace hW := over hW hb4
    (try clear c5 t5); replace B5 := B5.later hb4; have c5 := B5.cell; have t5 := B5.lt
    have HH4 := Lib.hid (HH3.out.later hb4)
    have HL4 := Lib.hid hl4
    clear hb4 hl4 HH3
    go_wp2_with fail
    obtain ⟨⟨al, ae⟩, halw⟩ : ∃ r, Land.alwE L fr ta = r := ⟨_, rfl⟩
    have HAlw := Lib.hid halw
    clear halw
    refine (Always_any q2 L fr ta w4 HL4.out HS.out).mono ?_
    rw [HAlw.out]
    rintro e w5 ⟨aa, acp, rfl, hb5, hi5⟩
    replace hW := over hW hb5
    (try clear c5 t5); replace B5 := B5.later hb5; have c5 := B5.cell; have t5 := B5.lt
    have HH5 := Lib.hid (HH4.out.later hb5)
    have HA5 := Lib.hid (show IntsAt w5 aa al from hi5)
    clear hb5 hi5 HL4 HH4
    go_wp2_with fail
    refine (land_any q L w5 (HL.out.later hW) HS.out).mono ?_
    rintro e w6 ⟨q3, rfl, hb6, hl6⟩
    replace hW := over hW hb6
    (try clear c5 t5); replace B5 := B5.later hb6; have c5 := B5.cell; have t5 := B5.lt
    have HH6 := Lib.hid (HH5.out.later hb6)
    have HA6 := Lib.hid (HA5.out.later hb6)
    have HL6 := Lib.hid hl6
    clear hb6 hl6 HH5 HA5
    go_wp2_with fail
    obtain ⟨⟨sv, se⟩, hstk⟩ : ∃ r, Land.stickE L fr ta t = r := ⟨_, rfl⟩
    have HStk := Lib.hid hstk
    clear hstk
    refine (Stick_any q3 L fr ta t w6 HL6.out HS.out).mono ?_
    rw [HStk.out]
    rintro e w7 ⟨rfl, hb7⟩
    replace hW := over hW hb7
    (try clear c5 t5); replace B5 := B5.later hb7; have c5 := B5.cell; have t5 := B5.lt
    have HH7 := Lib.hid (HH6.out.later hb7)
    have HA7 := Lib.hid (HA6.out.later hb7)
    clear hb7 HL6 HH6 HA6
    go_wp2_with fail
    have hask := lasked_any q L fr ta k 0 w7 (HL.out.later hW) HS.out
    rw [(hrsE_two HHr.out).1] at hask
    have HAsk := Lib.hid hask
    have HHl : Hid (he ≠ 0 → hl = []) := (hrsE_two HHr.out).2
    clear hask
    refine HAsk.out.mono ?_
    rintro e w8 ⟨rfl, hb8⟩
    replace hW := over hW hb8
    (try clear c5 t5); replace B5 := B5.later hb8; have c5 := B5.cell; have t5 := B5.lt
    have HH8 := Lib.hid (HH7.out.later hb8)
    have HA8 := Lib.hid (HA7.out.later hb8)
    clear hb8 HAsk HH7 HA7
    go_upto_region 7 with fail
    go_cut [73] (fun s73 wx => s73 = .bool false ∧ wx = w8)
    case first =>
      by_cases h0 : he = 0
      · subst h0
        go_wp2_with fail
        go_meet
        exact ⟨rfl, rfl⟩
      · have h0b : (he != 0) = true := by simpa using h0
        obtain rfl : hl = [] := HHl.out h0
        clear h0
        go_wp2_with fail
        go_meet
        exact ⟨rfl, rfl⟩
    case rest =>
      obtain ⟨rfl, rfl⟩ := hcut
      clear HHl
      go_wp2_with fail
      have hask := lasked_any q L fr ta 0 0 wc (HL.out.later hW) HS.out
      rw [(alwE_two HAlw.out).1] at hask
      have HAsk := Lib.hid hask
      have HAl : Hid (ae ≠ 0 → al = []) := (alwE_two HAlw.out).2.1
      clear hask
      refine HAsk.out.mono ?_
      rintro e w9 ⟨rfl, hb9⟩
      replace hW := over hW hb9
      (try clear c5 t5); replace B5 := B5.later hb9; have c5 := B5.cell; have t5 := B5.lt
      have HH9 := Lib.hid (HH8.out.later hb9)
      have HA9 := Lib.hid (HA8.out.later hb9)
      clear hb9 HAsk HH8 HA8
      go_upto_region 10 with fail
      go_cut [89] (fun s89 wx => s89 = .bool false ∧ wx = w9)
      case first =>
        by_cases h0 : ae = 0
        · subst h0
          go_wp2_with fail
          go_meet
          exact ⟨rfl, rfl⟩
        · have h0b : (ae != 0) = true := by simpa using h0
          obtain rfl : al = [] := HAl.out h0
          clear h0
          go_wp2_with fail
          go_meet
          exact ⟨rfl, rfl⟩
      case rest =>
        obtain ⟨rfl, rfl⟩ := hcut
        clear HAl
        go_wp2_with fail
        obtain ⟨ak, hak⟩ : ∃ ak, ak = Land.ask L fr ta 0 t := ⟨_, rfl⟩
        have hask := lasked_any q L fr ta 0 t wc (HL.out.later hW) HS.out
        rw [← hak] at hask
        have HAsk := Lib.hid hask
        have HAk := Lib.hid hak
        clear hask hak
        refine HAsk.out.mono ?_
        rintro e w10 ⟨rfl, hb10⟩
        replace hW := over hW hb10
        (try clear c5 t5); replace B5 := B5.later hb10; have c5 := B5.cell; have t5 := B5.lt
        have HH10 := Lib.hid (HH9.out.later hb10)
        have HA10 := Lib.hid (HA9.out.later hb10)
        clear hb10 HAsk HH9 HA9
        go_upto_if 96 with fail
        go_cut [19, 20] (fun s19 s20 wx => s19 = .int .i64 se ∧ s20 = .int .i64 sv ∧ Below w10.heap.size w10 wx)
        case first =>
          rcases stickE_two HStk.out with ⟨h1, rfl, h3⟩ | ⟨h1, hc, h2, hm⟩
          · rw [← HAk.out] at h1 h3
            have h0b : (ak == 0) = false := by simpa using h1
            subst h3
            clear h1
            go_wp2_with fail
            go_meet
            exact ⟨rfl, rfl, Below.refl _ _⟩
          · obtain rfl : ak = 0 := HAk.out.trans h1
            obtain ⟨i, j, c, d, rfl, rfl, hk0, rfl, hi, hj, hkk, hdd, _⟩ := askd_zero h2
            simp only [Int.toNat_natCast] at hm
            have HM := Lib.hid hm
            have HC := Lib.hid hc
            clear hk0 hkk h1 h2 HAk hm hc
            go_wp2_with fail
            go_loopw [20] (fun i' wr => ∃ n : Nat, n ≤ L.cs.length ∧ i' = .int .i64 n ∧ Below w10.heap.size w10 wr ∧ ∀ c, c < n → L.can i j c d = true) (fun i' _ => L.cs.length - (intOf i').toNat)
            case atStart => exact ⟨0, Nat.zero_le _, rfl, Below.refl _ _, fun c h => absurd h (Nat.not_lt_zero c)⟩
            case round =>
              obtain ⟨n, hn, rfl, hb, hall⟩ := hrel
              have HAll := Lib.hid hall
              clear hall
              clear c5 t5
              have D5 := B5.later hb
              have c5 := D5.cell
              have t5 := D5.lt
              by_cases hlt : n < L.cs.length
              · obtain ⟨v, hv⟩ : ∃ v, v = L.can i j n d := ⟨_, rfl⟩
                have hcall := rCan_any q L i j n d wr (HL.out.later (over hW hb)) HC.out hi hj hlt hdd
                rw [← hv] at hcall
                have HCall := Lib.hid hcall
                have HV := Lib.hid hv
                clear hcall hv
                go_wp2_with fail
                refine HCall.out.mono ?_
                rintro e w11 ⟨rfl, hb11⟩
                replace hb := over hb hb11
                clear c5 t5
                have E5 := D5.later hb11
                have c5 := E5.cell
                have t5 := E5.lt
                clear hb11 HCall D5
                cases v with
                | false =>
                  have hne : ((n : Int) == (L.cs.length : Int)) = false := by simp; omega
                  have hm := HM.out
                  rw [stick_here hlt HV.out.symm HAll.out, if_neg (by omega)] at hm
                  simp only [Prod.mk.injEq] at hm
                  obtain ⟨rfl, rfl⟩ := hm
                  go_wp2_with fail
                  go_meet
                  exact ⟨rfl, rfl, hb⟩
                | true =>
                  go_wp2_with fail
                  go_roundw
                  case rel =>
                    (repeat apply Exists.intro)
                    refine ⟨?rr, rfl⟩
                    refine ⟨n + 1, by omega, by go_num, hb, fun c h => ?_⟩
                    by_cases hcn : c = n
                    · rw [hcn]; exact HV.out.symm
                    · exact HAll.out c (by omega)
                  case measure => simp [intOf]; omega
              · obtain rfl : n = L.cs.length := by omega
                have hm := HM.out
                rw [if_pos (stick_all.2 HAll.out)] at hm
                simp only [Prod.mk.injEq] at hm
                obtain ⟨rfl, rfl⟩ := hm
                go_wp2_with fail
                go_meet
                exact ⟨rfl, rfl, hb⟩
        case rest =>
          obtain ⟨rfl, rfl, hbc⟩ := hcut
          replace hW := over hW hbc
          (try clear c5 t5); replace B5 := B5.later hbc; have c5 := B5.cell; have t5 := B5.lt
          have HH11 := Lib.hid (HH10.out.later hbc)
          have HA11 := Lib.hid (HA10.out.later hbc)
          clear hbc HH10 HA10 HStk HAk
          by_cases h0 : ae = 0
          case neg =>
            have h0b : (ae != 0) = true := by simpa using h0
            clear h0 HHr HAlw
            go_wp2_with fail
            refine (awake_any _).mono ?_
            rintro e w12 ⟨rfl, hb12⟩
            replace hW := over hW hb12
            clear hb12 c5 t5 B5
            go_wp2_with fail
            go_ret
            exact ⟨rfl, hW⟩
          subst h0
          have h1 := (alwE_two HAlw.out).1
          obtain rfl := (alwE_two HAlw.out).2.2 rfl
          have hc : L.chk = 0 := by
            unfold Land.ask at h1
            split at h1
            · assumption
            · exact h1
          unfold Land.ask at h1
          rw [if_pos hc] at h1
          obtain ⟨i, j, c, d, rfl, rfl, hk0, hd0, hi, hj, hkk, hdd, hij⟩ := askd_zero h1
          have hhl := hrsE_list hc hi hj hij (by omega) HHr.out
          simp only [Int.toNat_natCast] at *
          have HC := Lib.hid hc
          have HHl := Lib.hid hhl
          have r1 := sel_len (hourIn L i j k L.cs.length) L.sn.length
          have r2 := sel_len (fun t => L.stick i j t == L.cs.length) L.sn.length
          rw [← hhl] at r1
          obtain ⟨av, hav⟩ : ∃ av, av = L.alw i j := ⟨_, rfl⟩
          have hav2 : av = sel (fun t => L.stick i j t == L.cs.length) L.sn.length := hav
          rw [← hav] at HA11 ⊢
          rw [← hav2] at r2
          have HAv := Lib.hid hav2
          clear hk0 hd0 hkk hdd hij h1 hc hhl hav hav2 HHr HAlw
          go_wp2_with fail
          obtain ⟨W2, rfl⟩ : ∃ W2 : World, W2 = wc := ⟨_, rfl⟩
          go_loopw [21, 22, 23] (fun v1 v2 i' wr => ∃ n : Nat, n ≤ L.sn.length ∧ i' = .int .i64 n ∧ Below W2.heap.size W2 wr ∧ Two wr W2.heap.size v1 (ivs (sel (hourIn L i j k L.cs.length) n)) v2 (ivs (sel (fun t => L.stick i j t == L.cs.length) n))) (fun _ _ i' _ => L.sn.length - (intOf i').toNat)
          case atStart => exact ⟨0, Nat.zero_le _, rfl, Below.refl _ _, Two.nil _ _⟩
          case round =>
            obtain ⟨n, hn, rfl, hb, ho⟩ := hrel
            have HO := Lib.hid ho
            clear ho
            clear c5 t5
            have D5 := B5.later hb
            have c5 := D5.cell
            have t5 := D5.lt
            by_cases hlt : n < L.sn.length
            · have hnl := sel_len (hourIn L i j k L.cs.length) n
              have hnl2 := sel_len (fun t => L.stick i j t == L.cs.length) n
              go_wp2_with fail
              clear c5 t5
              obtain ⟨W3, rfl⟩ : ∃ W3 : World, W3 = wr := ⟨_, rfl⟩
              go_loopw [21, 24, 25] (fun v1' b' m' wr' => ∃ (m : Nat) (b : Bool), m ≤ L.cs.length ∧ m' = .int .i64 m ∧ b' = .bool b ∧ (b = true ↔ ∀ c, c < m → L.can i j c n = true) ∧ Below W2.heap.size W2 wr' ∧ Two wr' W2.heap.size v1' (ivs (sel (hourIn L i j k L.cs.length) n ++ if hourIn L i j k m n then [(n : Int)] else [])) u22 (ivs (sel (fun t => L.stick i j t == L.cs.length) n))) (fun _ _ m' _ => L.cs.length - (intOf m').toNat)
              case atStart =>
                refine ⟨0, true, Nat.zero_le _, rfl, rfl, by simp, hb, ?_⟩
                have h1 : hourIn L i j k 0 n = false := by unfold hourIn; rw [decide_eq_false (by omega)]; rfl
                rw [h1]
                simpa using HO.out
              case round =>
                obtain ⟨m, bv, hm, rfl, rfl, hbv, hb3, ho3⟩ := hrel
                have HO3 := Lib.hid ho3
                have HBv := Lib.hid hbv
                clear ho3 hbv
                clear D5
                have E5 := B5.later hb3
                have c5 := E5.cell
                have t5 := E5.lt
                by_cases hlm : m < L.cs.length
                · obtain ⟨v, hv⟩ : ∃ v, v = L.can i j m n := ⟨_, rfl⟩
                  have hcall := rCan_any q L i j m n wr (HL.out.later (over hW hb3)) HC.out hi hj hlm hlt
                  rw [← hv] at hcall
                  have HCall := Lib.hid hcall
                  have HV := Lib.hid hv
                  have HBn : Hid ((bv && v) = true ↔ ∀ c, c < m + 1 → L.can i j c n = true) := by
                    rw [Hid, Bool.and_eq_true, HBv.out, hv]
                    constructor
                    · rintro ⟨h1, h2⟩ c hc
                      by_cases hcm : c = m
                      · rw [hcm]; exact h2
                      · exact h1 c (by omega)
                    · intro h
                      exact ⟨fun c hc => h c (by omega), h m (by omega)⟩
                  clear hcall hv HBv
                  go_wp2_with fail
                  refine HCall.out.mono ?_
                  rintro e w11 ⟨rfl, hb11⟩
                  have HO4 := Lib.hid (HO3.out.later hb11)
                  replace hb3 := over hb3 hb11
                  clear hb11 HCall c5 t5 E5 HO3
                  cases v with
                  | false =>
                    have HE := Lib.hid (hourIn_no (k := k) HV.out.symm)
                    cases bv
                    all_goals
                      go_wp2_with fail
                      go_roundw
                      case rel => exact ⟨m + 1, false, by omega, by go_num, rfl, HBn.out, hb3, by rw [HE.out]; exact HO4.out⟩
                      case measure => simp [intOf]; omega
                  | true =>
                    by_cases hmk : (m : Int) = k
                    · subst hmk
                      have HE : Hid (hourIn L i j (m : Int) (m + 1) n = true) := hourIn_here.trans HV.out.symm
                      have ho := HO4.out
                      rw [hourIn_not] at ho
                      simp only [Bool.false_eq_true, if_false, List.append_nil] at ho
                      have HO5 := Lib.hid ho
                      clear ho HO4
                      cases bv
                      all_goals
                        go_wp2_with (at_builtin; refine named1 (p := wpList _ _ _ _ _) ?_; intro w12 hb12 B53; have hO := HO5.out.later hb12; refine wpList_grow2 rfl (.tmp 158) (.tmp 160) 30 rfl elem_int rfl hO.1 rfl B53 rfl (by omega) rfl (n := (sel (hourIn L i j (m : Int) L.cs.length) n).length) (by simp) (by omega) (by omega) (Nat.le_trans hb3.size hb12.size) ?_; intro a' c' W' hO' hb' hg' hnew; have htw := hO.grow hO' hg' hnew; have HTw := Lib.hid htw; replace hb3 := (over hb3 hb12).trans hb'; clear htw hO hg' hnew hO' B53 hb' hb12)
                        go_roundw
                        case rel => exact ⟨m + 1, _, by omega, by go_num, rfl, HBn.out, hb3, by rw [HE.out, ivs, List.map_append]; exact HTw.out⟩
                        case measure => simp [intOf]; omega
                    · have hmb : ((m : Int) == k) = false := by simpa using hmk
                      have HE := Lib.hid (hourIn_all (L := L) (i := i) (j := j) (t := n) hmk)
                      clear hmk
                      cases bv
                      all_goals
                        go_wp2_with fail
                        go_roundw
                        case rel => exact ⟨m + 1, _, by omega, by go_num, rfl, HBn.out, hb3, by rw [HE.out]; exact HO4.out⟩
                        case measure => simp [intOf]; omega
                · obtain rfl : m = L.cs.length := by omega
                  have HL2 : Hid (sel (hourIn L i j k L.cs.length) n ++ (if hourIn L i j k L.cs.length n then [(n : Int)] else []) = sel (hourIn L i j k L.cs.length) (n + 1)) := (sel_succ _ _).symm
                  have ho4 := HO3.out
                  rw [HL2.out] at ho4
                  have HO4 := Lib.hid ho4
                  have HSt : Hid ((L.stick i j n == L.cs.length) = bv) := by
                    rw [Hid, Bool.eq_iff_iff, beq_iff_eq, HBv.out]; exact stick_all
                  clear ho4 HO3 HL2 HBv
                  cases bv with
                  | false =>
                    go_wp2_with fail
                    go_roundw
                    case rel => exact ⟨n + 1, by omega, by go_num, hb3, by rw [sel_no (p := fun t => L.stick i j t == L.cs.length) HSt.out]; exact HO4.out⟩
                    case measure => simp [intOf]; omega
                  | true =>
                    go_wp2_with (at_builtin; refine named1 (p := wpList _ _ _ _ _) ?_; intro w12 hb12 B53; have hO := HO4.out.later hb12; refine wpList_grow2 rfl (.tmp 163) (.tmp 165) 30 rfl elem_int rfl hO.2.1 rfl B53 rfl (by omega) rfl (n := (sel (fun t => L.stick i j t == L.cs.length) n).length) (by simp) (by omega) (by omega) (Nat.le_trans hb3.size hb12.size) ?_; intro a' c' W' hO' hb' hg' hnew; have htw := (hO.swap.grow hO' hg' hnew).swap; have HTw := Lib.hid htw; replace hb3 := (over hb3 hb12).trans hb'; clear htw hO hg' hnew hO' B53 hb' hb12)
                    go_roundw
                    case rel => exact ⟨n + 1, by omega, by go_num, hb3, by rw [sel_yes (p := fun t => L.stick i j t == L.cs.length) HSt.out, ivs, ivs, List.map_append]; exact HTw.out⟩
                    case measure => simp [intOf]; omega
            · obtain rfl : n = L.sn.length := by omega
              have ho := HO.out
              rw [← HAv.out, ← HHl.out] at ho
              obtain ⟨ra1, rc1, rfl, _, hr1⟩ := ho.1.row
              obtain ⟨ra2, rc2, rfl, _, hr2⟩ := ho.2.1.row
              rw [List.length_map, List.length_map]
              have HY1 := Lib.hid (ints_yes hl ha ra1 hcp rc1 wr (HH11.out.later hb) hr1 (by omega))
              have HA12 := Lib.hid (HA11.out.later hb)
              have HR2 := Lib.hid (show IntsAt wr ra2 av from hr2)
              replace hW := over hW hb
              clear ho hr1 hr2 HO hb HH11 HA11
              go_wp2_with fail
              refine HY1.out.mono ?_
              rintro e w12 ⟨rfl, hb12⟩
              have HY2 := Lib.hid (ints_yes av aa ra2 acp rc2 w12 (HA12.out.later hb12) (HR2.out.later hb12) (by omega))
              replace hW := over hW hb12
              clear hb12 HY1 HA12 HR2
              go_wp2_with fail
              refine HY2.out.mono ?_
              rintro e w13 ⟨rfl, hb13⟩
              replace hW := over hW hb13
              clear hb13 HY2
              go_wp2_with fail
              refine (awake_any _).mono ?_
              rintro e w14 ⟨rfl, hb14⟩
              replace hW := over hW hb14
              clear hb14
              go_wp2_with fail
              go_ret
              exact ⟨rfl, hW⟩
end Go.Proofs.Ytmfnkmmbihmjnaa
