/- The statements on relays: a route that is chosen by words. -/
import Derived.Test.YtfihdaoakfdlpaaGreatLR5
import Derived.Test.YtfihdaoakfdlpaaGreatLR3
import Derived.Test.YtfihdaoakfdlpaaGreatRPlain11
open Go.RowKit
namespace Go.Proofs.YtfihdaoakfdlpaaGreat
open Go.Hill

theorem chain_snoc {n e t h : Nat} : ∀ {l : List Hp} {a s : Nat}, chain n e a s l → arrA s l ≤ h → h < e → t < n → chain n e a s (l ++ [⟨endR a l, t, h⟩]) := by
  intro l
  induction l with
  | nil => intro a s _ h2 h3 h4; exact ⟨rfl, h2, h3, h4, trivial⟩
  | cons p l ih =>
    intro a s ⟨g1, g2, g3, g4, g5⟩ h2 h3 h4
    exact ⟨g1, g2, g3, g4, ih g5 h2 h3 h4⟩
theorem endR_snoc {p : Hp} : ∀ {l : List Hp} {a : Nat}, endR a (l ++ [p]) = p.ta := by
  intro l
  induction l with
  | nil => intro a; rfl
  | cons q l ih => intro a; exact ih
theorem arrA_snoc {p : Hp} : ∀ {l : List Hp} {s : Nat}, arrA s (l ++ [p]) = p.hr + 1 := by
  intro l
  induction l with
  | nil => intro a; rfl
  | cons q l ih => intro a; exact ih
/-- A route on the way. -/
structure LedR (L : Land) (f s k h : Nat) (hl : List Hp) : Prop where
  ch : chain L.st.length L.sn.length f s hl
  arr : arrA s hl ≤ h
  can : ∀ p ∈ hl, L.can p.fr p.ta k p.hr = true
  len : hl.length ≤ 12
def RetLed (L : Land) (f s k : Nat) (w : World) (e : Ending) (w' : World) : Prop := ∃ hl a c, e = .returned (.slice a hl.length c) ∧ Below w.heap.size w w' ∧ HopsAt w' a hl ∧ LedR L f s k L.sn.length hl
set_option maxRecDepth 100000 in
set_option maxHeartbeats 8000000 in
theorem Led_any (q : LV) (L : Land) (f s k : Nat) (wl : List Nat) (wa : Option Addr) (wc' : Nat) (w : World) (hL : LandAt w q L) (hc : L.chk = 0) (hf : f < L.st.length) (hs : s ≤ L.sn.length) (hk : k < L.cs.length) (hw : WordsAt w wa wl) (hwl : wl.length ≤ 9223372036854775807) (hwb : ∀ n ∈ wl, n < 65536) :
    Calls Tryz.prog 29 #[landV q L, .int .i64 f, .int .i64 s, .int .i64 k, .slice wa wl.length wc'] w (RetLed L f s k w) := by
  have HC := Lib.hid hc
  have HL := Lib.hid hL
  obtain ⟨n6, n0, e12, e0, m4, m0⟩ := st_six hc
  have HWord : Hid (∀ h : Nat, h ≤ 100 → ∃ v : Nat, v < 65536 ∧ ∀ W, Below w.heap.size w W → Calls Tryz.prog 36 #[.slice wa wl.length wc', .int .i64 ((h : Int) + 1)] W (Ret (.int .i64 v) W)) := fun h hh => ⟨wordOf wl (h + 1), wordOf_lt hwb _, fun W hW => by
    have := word_any wl wa wc' (h + 1) W (RowAt.later hw hW) hwl hwb (by omega)
    push_cast at this
    exact this⟩
  clear hL hc hw hwl hwb
  generalize wl.length = wn at *
  go_enter Tryz.func29, Tryz.ntmps29
  go_wp2_with fail
  refine named1 (p := Code.wp _ _ _ _) ?_
  intro W hW B5
  have HW := Lib.hid hW
  have HB5 := Lib.hid B5
  clear hW B5
  go_loopw [11, 12, 13] (fun v a' h' wr => ∃ (h av : Nat) (hl : List Hp), h ≤ L.sn.length ∧ h' = .int .i64 h ∧ a' = .int .i64 av ∧ av < L.st.length ∧ av = endR f hl ∧ LedR L f s k h hl ∧ Below w.heap.size w wr ∧ Box wr w.heap.size (landC q L) 27 ∧ Own wr (w.heap.size + 1) 82 3 v (hl.map Hp.vs)) (fun _ _ h' _ => L.sn.length - (intOf h').toNat)
  case atStart => exact ⟨s, f, [], hs, rfl, rfl, hf, rfl, ⟨trivial, Nat.le_refl _, fun p hp => by simp at hp, by simp⟩, HW.out, HB5.out, Own.nil _ _ _ _⟩
  case round =>
    clear HW HB5
    obtain ⟨h, av, hl, hh, rfl, rfl, hav, hae, hled, hW, B5, hO⟩ := hrel
    have HAe := Lib.hid hae
    have HLed := Lib.hid hled
    have HO := Lib.hid hO
    have hlen := hled.len
    obtain ⟨va, vc, rfl, _, _⟩ := hO.row
    obtain ⟨n, hn⟩ : ∃ n, n = hl.length := ⟨_, rfl⟩
    rw [List.length_map, ← hn] at HO ⊢
    have HLn := Lib.hid hn
    rw [← hn] at hlen
    clear hae hled hO hn
    have c5 := B5.cell; have t5 := B5.lt
    go_wp2_with fail
    refine (rend_any q L wr).mono ?_
    rintro e w1 ⟨rfl, hb1⟩
    replace hW := over hW hb1
    have HO1 := Lib.hid (HO.out.later hb1)
    (try clear c5 t5); replace B5 := B5.later hb1; have c5 := B5.cell; have t5 := B5.lt
    clear hb1 HO
    by_cases hlt : h < L.sn.length
    case neg =>
      have d1 : ¬ (h : Int) < (L.sn.length : Int) := by omega
      have hhe : h = L.sn.length := by omega
      have HR := Lib.hid hhe
      clear hlt hhe hh
      go_wp2_with fail
      go_ret
      exact ⟨hl, va, vc, by rw [← HLn.out]; rfl, hW, by have h1 := HO1.out.row; obtain ⟨a2, c2, h2, _, h3⟩ := h1; cases h2; exact h3, by have := HLed.out; rw [HR.out] at this; exact this⟩
    have d1 : (h : Int) < (L.sn.length : Int) := by omega
    by_cases h12 : n < 12
    case neg =>
      have d2 : ¬ (n : Int) < 12 := by omega
      clear h12
      go_wp2_with fail
      go_ret
      exact ⟨hl, va, vc, by rw [← HLn.out]; rfl, hW, by have h1 := HO1.out.row; obtain ⟨a2, c2, h2, _, h3⟩ := h1; cases h2; exact h3, HLed.out.ch, by have := HLed.out.arr; omega, HLed.out.can, HLed.out.len⟩
    have d2 : (n : Int) < 12 := by omega
    obtain ⟨wv, hwv, hcw⟩ := HWord.out h (by omega)
    have HCw := Lib.hid (hcw w1 hW)
    have HNx : Hid (LedR L f s k (h + 1) hl) := ⟨HLed.out.ch, by have := HLed.out.arr; omega, HLed.out.can, HLed.out.len⟩
    clear hcw
    go_wp2_with fail
    refine HCw.out.mono ?_
    rintro e w2 ⟨rfl, hb2⟩
    replace hW := over hW hb2
    have HO2 := Lib.hid (HO1.out.later hb2)
    (try clear c5 t5); replace B5 := B5.later hb2; have c5 := B5.cell; have t5 := B5.lt
    clear hb2 HO1 HCw
    obtain ⟨m, hm⟩ : ∃ m, m = wv % 3 := ⟨_, rfl⟩
    have t1 : (wv : Int).tmod 3 = (m : Int) := by rw [Int.tmod_eq_emod_of_nonneg (by omega), hm]; rfl
    clear hm
    by_cases hm0 : m = 0
    · subst hm0
      clear d1 d2 h12
      go_wp2_with fail
      go_roundw
      case rel => exact ⟨h + 1, av, hl, by omega, by go_num, rfl, hav, HAe.out, HNx.out, hW, B5, HO2.out⟩
      case measure => simp [intOf]; omega
    have d0 : ((m : Int) == 0) = false := by rw [beq_eq_false_iff_ne]; omega
    have t2 : (wv : Int).tdiv 4 = ((wv / 4 : Nat) : Int) := by rw [Int.tdiv_eq_ediv_of_nonneg (by omega)]; rfl
    have hw4 : wv / 4 < 65536 := by omega
    generalize wv / 4 = x4 at *
    have t3 : (x4 : Int).tmod (L.st.length : Int) = ((x4 % L.st.length : Nat) : Int) := by rw [Int.tmod_eq_emod_of_nonneg (by omega)]; rfl
    have hb0 : x4 % L.st.length < L.st.length := Nat.mod_lt _ n0
    generalize x4 % L.st.length = bv at *
    have s1 : (L.st.length : Int) ≠ 0 := by omega
    have s4 : ((L.st.length : Int) == 0) = false := by simpa using s1
    have HW2 := Lib.hid hW
    have HB2 := Lib.hid B5
    clear hm0 hwv
    go_wp2_with fail
    clear t1 t2 t3 d1 d0 hW B5 c5 t5
    go_loopw [11, 12, 16] (fun v' a' i' wr => ∃ i : Nat, i ≤ L.st.length ∧ v' = .slice va n vc ∧ a' = .int .i64 av ∧ i' = .int .i64 i ∧ Below w2.heap.size w2 wr) (fun _ _ i' _ => L.st.length - (intOf i').toNat)
    case atStart => exact ⟨0, Nat.zero_le _, rfl, rfl, rfl, Below.refl _ _⟩
    case round =>
      obtain ⟨i, hi, rfl, rfl, rfl, hb⟩ := hrel
      have B5 := HB2.out.later hb
      have hW := over HW2.out hb
      have c5 := B5.cell; have t5 := B5.lt
      by_cases hil : i < L.st.length
      · have t3 : ((bv : Int) + (i : Int)).tmod (L.st.length : Int) = (((bv + i) % L.st.length : Nat) : Int) := by rw [Int.tmod_eq_emod_of_nonneg (by omega)]; push_cast; rfl
        have hto : (bv + i) % L.st.length < L.st.length := Nat.mod_lt _ n0
        generalize (bv + i) % L.st.length = ta at *
        obtain ⟨b, hbv⟩ : ∃ b, L.can av ta k h = b := ⟨_, rfl⟩
        have HCk : Hid (∀ W', Below _ wr W' → Calls Tryz.prog 46 #[landV q L, .int .i64 av, .int .i64 ta, .int .i64 k, .int .i64 h] W' (Ret (.bool b) W')) := fun W' hW' => by rw [← hbv]; exact rCan_any q L av ta k h W' (HL.out.later (over hW hW')) HC.out hav hto hk hlt
        have HBv := Lib.hid hbv
        clear hbv
        go_wp2_with fail
        refine (HCk.out _ (Below.refl _ _)).mono ?_
        rintro e w3 ⟨rfl, hb3⟩
        replace hb := over hb hb3
        replace hW := over hW hb3
        replace B5 := B5.later hb3
        clear HCk hb3 c5 t5
        cases b with
        | false =>
          clear B5
          go_wp2_with fail
          go_roundw
          case rel => exact ⟨i + 1, by omega, rfl, rfl, by go_num, hb⟩
          case measure => simp [intOf]; omega
        | true =>
          have HO3 := Lib.hid (HO2.out.later hb)
          have HN : Hid (LedR L f s k (h + 1) (hl ++ [⟨av, ta, h⟩])) := by
            refine ⟨?_, ?_, ?_, ?_⟩
            · have := HAe.out
              rw [this]
              exact chain_snoc HLed.out.ch HLed.out.arr hlt hto
            · rw [arrA_snoc]; exact Nat.le_refl _
            · intro p hp
              rcases List.mem_append.1 hp with hp | hp
              · exact HLed.out.can p hp
              · simp only [List.mem_singleton] at hp
                subst hp
                exact HBv.out
            · have := HLn.out; simp; omega
          have HE : Hid (ta = endR f (hl ++ [⟨av, ta, h⟩])) := by show _ = _; rw [endR_snoc]
          have hsz : w.heap.size + 1 ≤ w3.heap.size := by have := B5.lt; omega
          clear HBv t3
          go_wp2_with (at_builtin; refine named1 (p := wpList _ _ _ _ _) ?_; intro w6 hb6 B69; have hO := HO3.out.later hb6; refine wpList_grow rfl (.tmp 64) (.tmp 69) 55 rfl elem_hi rfl hO rfl B69 rfl (by omega) rfl (n := n) (by have := HLn.out; simp; omega) (by omega) (by omega) (Nat.le_trans hsz hb6.size) ?_; intro a' c' W' hO' hb' hg'; have HW6 := Lib.hid ((over hW hb6).trans (hb'.mono (by omega))); have HB6 := Lib.hid ((B5.later hb6).past hb' (by omega)); clear hg' hO B69 hb' hb6)
          have HO6 : Hid (Own W' (w.heap.size + 1) 82 3 (.slice a' (n + 1) c') ((hl ++ [(⟨av, ta, h⟩ : Hp)]).map Hp.vs)) := by
            rw [Hid, List.map_append]; exact hO'
          clear hO'
          go_roundw
          case rel => exact ⟨h + 1, ta, hl ++ [⟨av, ta, h⟩], by omega, by go_num, rfl, hto, HE.out, HN.out, HW6.out, HB6.out, HO6.out⟩
          case measure => simp [intOf]; omega
      · have HB5 := Lib.hid (HB2.out.later hb)
        have HO3 := Lib.hid (HO2.out.later hb)
        obtain rfl : i = L.st.length := by omega
        go_wp2_with fail
        go_roundw
        case rel => exact ⟨h + 1, av, hl, by omega, by go_num, rfl, hav, HAe.out, HNx.out, hW, HB5.out, HO3.out⟩
        case measure => simp [intOf]; omega
end Go.Proofs.YtfihdaoakfdlpaaGreat
