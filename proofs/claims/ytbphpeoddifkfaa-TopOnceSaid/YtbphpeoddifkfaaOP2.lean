/- Layer 5, the walks: the error of a post (the document's words for it). -/
import Derived.Test.YtbphpeoddifkfaaOP1
open Go.RowKit
namespace Go.Proofs.Ytbphpeoddifkfaa
open Go.Once

/-- A number: if it is 0, something holds. -/
def ZeroTo (P : Prop) (v : Value) : Prop := ∃ e : Int, v = .int .i64 e ∧ (e = 0 → P)

/-- What is known of the numbers sent, up to k. -/
structure Sent (l : List Int) (k : Nat) : Prop where
  bd : ∀ s ∈ l.take k, 0 ≤ s ∧ s ≤ 30
  up : ∀ i a b, l[i]? = some a → l[i + 1]? = some b → i + 1 < k → a < b
theorem Sent.succ {l : List Int} {k : Nat} {x : Int} (h : Sent l k) (hx : l[k]? = some x) (hb : 0 ≤ x ∧ x ≤ 30) (hu : ∀ y, 0 < k → l[k - 1]? = some y → y < x) : Sent l (k + 1) := by
  refine ⟨fun s hs => ?_, fun i a b ha hbb hi => ?_⟩
  · rw [List.take_add_one, hx] at hs
    rcases List.mem_append.1 hs with hs | hs
    · exact h.bd s hs
    · simp at hs; subst hs; exact hb
  · rcases Nat.lt_succ_iff_lt_or_eq.1 hi with h' | h'
    · exact h.up i a b ha hbb h'
    · subst h'
      rw [hx] at hbb; cases hbb
      exact hu a (by omega) (by simpa using ha)

/-- The first part: nothing but the routes is left to be seen. -/
structure Half (q : PV) (p : Ps) : Prop where
  s1 : 0 < p.sends.length
  r1 : 0 < q.rs.length
  pat : 0 ≤ p.pat ∧ p.pat ≤ 30

theorem ok_succ {α : Type} {P : α → Prop} {l : List α} {k : Nat} {x : α} (h : ∀ y ∈ l.take k, P y) (hx : l[k]? = some x) (hp : P x) : ∀ y ∈ l.take (k + 1), P y := by
  intro y hy
  rw [List.take_add_one, hx] at hy
  rcases List.mem_append.1 hy with hy | hy
  · exact h y hy
  · simp at hy; subst hy; exact hp
theorem ok_all {α : Type} {P : α → Prop} {l : List α} (h : ∀ y ∈ l.take l.length, P y) : ∀ y ∈ l, P y := by
  rwa [List.take_of_length_le (Nat.le_refl _)] at h

set_option maxRecDepth 100000 in
set_option maxHeartbeats 8000000 in
theorem fault5_any (q : PV) (p : Ps) (w : World) (hB : PostAt w q p) (ht : Thin5 q p) :
    Calls Try.prog 7 #[postV q p] w (RetP (fun v _ => ZeroTo p.Ok v) w) := by
  have HB := Lib.hid hB
  obtain ⟨l1, l2, l3, l4⟩ := ht
  have H3 := Lib.hid l3
  have H4 := Lib.hid l4
  clear hB l3 l4
  go_enter Try.func7, Try.ntmps7
  by_cases hv : p.sends.length ≤ 4 ∧ q.rs.length ≤ 3
  case neg =>
    go_wp2_with fail
    all_goals first
      | (exfalso; omega)
      | (go_ret; exact ⟨_, rfl, (by repeat (first | exact Below.refl _ _ | refine al ?_ _ | refine Below.drew ?_ | refine sc ?_ (by simp) _)), _, rfl, fun h => absurd h (by decide)⟩)
  obtain ⟨v1, v2⟩ := hv
  have d1 : decide ((4 : Int) < (p.sends.length : Int)) = false := by simp; omega
  have d2 : decide ((3 : Int) < (q.rs.length : Int)) = false := by simp; omega
  go_upto_region 4 with fail
  refine named1 (p := Code.wp _ _ _ _) ?_
  intro W hW B1
  have c1 := B1.cell; have t1 := B1.lt
  clear d1 d2
  go_cut [34] (fun s34 wx => ∃ t : Bool, s34 = .bool t ∧ (t = false → Half q p) ∧ Below W.heap.size W wx)
  case first =>
    by_cases hz : p.sends.length = 0 ∨ q.rs.length = 0
    case pos =>
      have hor : ((p.sends.length : Int) == 0) = true ∨ (((p.sends.length : Int) == 0) = false ∧ ((q.rs.length : Int) == 0) = true) := by
        by_cases h0 : p.sends.length = 0
        · exact .inl (beq_iff_eq.2 (by omega))
        · exact .inr ⟨beq_eq_false_iff_ne.2 (by omega), beq_iff_eq.2 (by omega)⟩
      clear hz
      rcases hor with h | ⟨h, h'⟩
      all_goals
        go_wp2_with fail
        go_meet
        exact ⟨true, rfl, (fun h => by cases h), Below.refl _ _⟩
    have z1 : ((p.sends.length : Int) == 0) = false := by simp; intro h; simp [h] at hz
    have z2 : ((q.rs.length : Int) == 0) = false := by simp; intro h; simp [h] at hz
    have HZ := Lib.hid hz
    clear hz
    go_wp2_with fail
    refine (pin_any _ _ _ _).mono ?_
    rintro e w1 ⟨rfl, hb1⟩
    have HIn : Hid (inB p.pat 0 30 = true → Half q p) := fun h => ⟨by have := HZ.out; omega, by have := HZ.out; omega, by simpa [inB] using h⟩
    generalize inB p.pat 0 30 = pv at *
    go_wp2_with fail
    go_meet
    exact ⟨_, rfl, fun h => HIn.out (by simpa using h), hb1⟩
  case rest =>
  obtain ⟨tv, rfl, hh, hb2⟩ := hcut
  have HH := Lib.hid hh
  clear hh
  replace hW := over hW hb2; (try clear c1 t1); replace B1 := B1.later hb2; have c1 := B1.cell; have t1 := B1.lt; clear hb2 
  go_upto_if 34 with fail
  go_cut [3] (fun s3 wx => ∃ e : Int, s3 = .int .i64 e ∧ (e = 0 → Half q p) ∧ wx = wc)
  case first =>
    cases tv with
    | true =>
      go_wp2_with fail
      go_meet
      exact ⟨1, rfl, fun h => absurd h (by decide), rfl⟩
    | false =>
      go_wp2_with fail
      go_meet
      exact ⟨0, rfl, fun _ => HH.out (by simp), rfl⟩
  case rest =>
  obtain ⟨ev, rfl, hh, rfl⟩ := hcut
  have HH2 := Lib.hid hh
  clear hh HH
  go_wp2_with fail
  go_loopw [3, 4] (fun bv i wr => ∃ (e : Int) (k : Nat), bv = .int .i64 e ∧ k ≤ p.sends.length ∧ i = .int .i64 k ∧ Below w.heap.size w wr ∧ Box wr w.heap.size #[.slice q.a1 p.sends.length q.c1, .slice q.a2 q.rs.length q.c2, .int .i64 p.pat] 28 ∧ (e = 0 → Half q p ∧ Sent p.sends k)) (fun _ i _ => p.sends.length - (intOf i).toNat)
  case atStart => exact ⟨ev, 0, rfl, Nat.zero_le _, rfl, hW, B1, fun h => ⟨HH2.out h, ⟨by simp, fun _ _ _ _ _ h => by omega⟩⟩⟩
  case round =>
    clear hW B1 c1 t1
    obtain ⟨e, k, rfl, hk, rfl, hW, B1, hp⟩ := hrel
    have HP := Lib.hid hp
    clear hp
    have c1 := B1.cell; have t1 := B1.lt
    by_cases hlt : k < p.sends.length
    · obtain ⟨x, hx⟩ : ∃ x, p.sends[k]? = some x := ⟨p.sends[k], by simp⟩
      obtain ⟨pb, po, ea, e0, z1⟩ := (HB.out.later hW).send hx
      have HX := Lib.hid hx
      clear hx
      have r1 : (0 : Int) ≤ (k : Int) := by omega
      have r2 : (k : Int) < (p.sends.length : Int) := by omega
      have HIn : Hid (∀ W, Calls Try.prog 21 #[.int .i64 x, .int .i64 0, .int .i64 30] W (Ret (.bool (inB x 0 30)) W)) := fun W => pin_any x 0 30 W
      cases hin : inB x 0 30 with
      | false =>
        rw [hin] at HIn
        rw [ea] at c1
        clear hin ea
        go_wp2_with fail
        refine Fat.wp_region_tail 25 (by kernel_rfl) (by kernel_rfl) ?_
        simp only [List.take_succ_cons, List.drop_succ_cons, List.take_nil, List.drop_nil]
        repeat (go_big_quiet_step (exact Calls.regrown_of (HIn.out _)))
        refine wpQuiet_nil ?_
        intro w6 hb6
        replace hW := over hW hb6; (try clear c1 t1); replace B1 := B1.later hb6; have c1 := B1.cell; have t1 := B1.lt; clear hb6 
        go_wp2_with fail
        go_roundw
        case rel => exact ⟨1, k + 1, rfl, by omega, by go_num, hW, B1, fun h => absurd h (by decide)⟩
        case measure => first | omega | (simp [intOf]; omega)
      | true =>
        rw [hin] at HIn
        have hxb : 0 ≤ x ∧ x ≤ 30 := by simpa [inB] using hin
        clear hin
        by_cases hk0 : k = 0
        · subst hk0
          rw [ea] at c1
          rw [Nat.add_zero] at e0
          clear ea
          go_wp2_with fail
          refine Fat.wp_region_tail 25 (by kernel_rfl) (by kernel_rfl) ?_
          simp only [List.take_succ_cons, List.drop_succ_cons, List.take_nil, List.drop_nil]
          repeat (go_big_quiet_step (exact Calls.regrown_of (HIn.out _)))
          refine wpQuiet_nil ?_
          intro w6 hb6
          replace hW := over hW hb6; (try clear c1 t1); replace B1 := B1.later hb6; have c1 := B1.cell; have t1 := B1.lt; clear hb6 
          go_wp2_with fail
          go_roundw
          case rel => exact ⟨e, 0 + 1, rfl, by omega, by go_num, hW, B1, fun h => ⟨(HP.out h).1, (HP.out h).2.succ HX.out hxb (fun _ h _ => absurd h (by omega))⟩⟩
          case measure => first | omega | (simp [intOf]; omega)
        · obtain ⟨j, rfl⟩ : ∃ j, k = j + 1 := ⟨k - 1, by omega⟩
          clear hk0
          obtain ⟨y, hy⟩ : ∃ y, p.sends[j]? = some y := ⟨p.sends[j], by simp⟩
          obtain ⟨pb', po', ea', e1, _⟩ := (HB.out.later hW).send hy
          rw [ea] at ea'
          cases ea'
          have HY := Lib.hid hy
          rw [ea] at c1
          clear hy ea r1 r2
          have r1 : (0 : Int) ≤ (j : Int) + 1 := by omega
          have r2 : (j : Int) + 1 < (p.sends.length : Int) := by omega
          have r5 : (0 : Int) < (j : Int) + 1 := by omega
          have r3 : (0 : Int) ≤ (j : Int) := by omega
          have r4 : (j : Int) < (p.sends.length : Int) := by omega
          by_cases hxy : x ≤ y
          · go_wp2_with fail
            refine Fat.wp_region_tail 25 (by kernel_rfl) (by kernel_rfl) ?_
            simp only [List.take_succ_cons, List.drop_succ_cons, List.take_nil, List.drop_nil]
            repeat (go_big_quiet_step (exact Calls.regrown_of (HIn.out _)))
            refine wpQuiet_nil ?_
            intro w6 hb6
            replace hW := over hW hb6; (try clear c1 t1); replace B1 := B1.later hb6; have c1 := B1.cell; have t1 := B1.lt; clear hb6 
            go_wp2_with fail
            go_roundw
            case rel => exact ⟨1, j + 1 + 1, rfl, by omega, by go_num, hW, B1, fun h => absurd h (by decide)⟩
            case measure => first | omega | (simp [intOf]; omega)
          · go_wp2_with fail
            refine Fat.wp_region_tail 25 (by kernel_rfl) (by kernel_rfl) ?_
            simp only [List.take_succ_cons, List.drop_succ_cons, List.take_nil, List.drop_nil]
            repeat (go_big_quiet_step (exact Calls.regrown_of (HIn.out _)))
            refine wpQuiet_nil ?_
            intro w6 hb6
            replace hW := over hW hb6; (try clear c1 t1); replace B1 := B1.later hb6; have c1 := B1.cell; have t1 := B1.lt; clear hb6 
            go_wp2_with fail
            go_roundw
            case rel => exact ⟨e, j + 1 + 1, rfl, by omega, by go_num, hW, B1, fun h => ⟨(HP.out h).1, (HP.out h).2.succ HX.out hxb (fun y' _ hy' => by rw [show j + 1 - 1 = j from rfl, HY.out] at hy'; cases hy'; omega)⟩⟩
            case measure => first | omega | (simp [intOf]; omega)
    · obtain rfl : k = p.sends.length := by omega
      clear hlt hk
      go_wp2_with fail
      have HPS := HP
      clear HP
      go_loopw [3, 5] (fun bv i wr => ∃ (e : Int) (k : Nat), bv = .int .i64 e ∧ k ≤ q.rs.length ∧ i = .int .i64 k ∧ Below w.heap.size w wr ∧ Box wr w.heap.size #[.slice q.a1 p.sends.length q.c1, .slice q.a2 q.rs.length q.c2, .int .i64 p.pat] 28 ∧ (e = 0 → (Half q p ∧ Sent p.sends p.sends.length) ∧ ∀ x ∈ q.rs.take k, x.rt.Ok)) (fun _ i _ => q.rs.length - (intOf i).toNat)
      case atStart => exact ⟨e, 0, rfl, Nat.zero_le _, rfl, hW, B1, fun h => ⟨HPS.out h, by simp⟩⟩
      case round =>
        clear hW B1 c1 t1 HPS
        obtain ⟨e, k, rfl, hk, rfl, hW, B1, hp⟩ := hrel
        have HP := Lib.hid hp
        clear hp
        have c1 := B1.cell; have t1 := B1.lt
        by_cases hlt : k < q.rs.length
        · obtain ⟨x, hx⟩ : ∃ x, q.rs[k]? = some x := ⟨q.rs[k], by simp⟩
          obtain ⟨pb, po, ea, e0, _, z1, hR⟩ := (HB.out.later hW).route hx
          have HR := Lib.hid hR
          have x3 := H3.out x (List.mem_of_getElem? hx)
          have HX4 := Lib.hid (H4.out x (List.mem_of_getElem? hx))
          have HX := Lib.hid hx
          rw [ea] at c1
          clear hx ea hR
          have r1 : (0 : Int) ≤ (k : Int) := by omega
          have r2 : (k : Int) < (q.rs.length : Int) := by omega
          by_cases h3 : x.legs.length ≤ 3
          case neg =>
            go_wp2_with fail
            go_ret
            exact ⟨_, rfl, hW, _, rfl, fun h => absurd h (by decide)⟩
          go_upto_if 85 with fail
          go_cut [3] (fun s3 wx => ∃ e : Int, s3 = .int .i64 e ∧ (e = 0 → ((Half q p ∧ Sent p.sends p.sends.length) ∧ ∀ x ∈ q.rs.take k, x.rt.Ok) ∧ 0 < x.legs.length) ∧ wx = wr)
          case first =>
            by_cases h0 : x.legs.length = 0
            · have z0 : ((x.legs.length : Int) == 0) = true := beq_iff_eq.2 (by omega)
              clear h0
              go_wp2_with fail
              go_meet
              exact ⟨1, rfl, fun h => absurd h (by decide), rfl⟩
            · have z0 : ((x.legs.length : Int) == 0) = false := beq_eq_false_iff_ne.2 (by omega)
              have H0 := Lib.hid h0
              clear h0
              go_wp2_with fail
              go_meet
              exact ⟨e, rfl, fun h => ⟨HP.out h, by have := H0.out; omega⟩, rfl⟩
          case rest =>
          obtain ⟨e1, rfl, hh, rfl⟩ := hcut
          have HH := Lib.hid hh
          clear hh HP e0 z1
          go_wp2_with fail
          go_loopw [3, 7] (fun bv i wi => ∃ (e : Int) (m : Nat), bv = .int .i64 e ∧ m ≤ x.legs.length ∧ i = .int .i64 m ∧ Below w.heap.size w wi ∧ Box wi w.heap.size #[.slice q.a1 p.sends.length q.c1, .slice q.a2 q.rs.length q.c2, .int .i64 p.pat] 28 ∧ (e = 0 → (((Half q p ∧ Sent p.sends p.sends.length) ∧ ∀ x ∈ q.rs.take k, x.rt.Ok) ∧ 0 < x.legs.length) ∧ ∀ l ∈ x.legs.take m, l.lg.Ok)) (fun _ i _ => x.legs.length - (intOf i).toNat)
          case atStart => exact ⟨e1, 0, rfl, Nat.zero_le _, rfl, hW, B1, fun h => ⟨HH.out h, by simp⟩⟩
          case round =>
            clear hW B1 c1 t1 HR HH
            obtain ⟨e, m, rfl, hm, rfl, hW, B1, hp⟩ := hrel
            have HP := Lib.hid hp
            clear hp
            have HR := Lib.hid ((HB.out.later hW).rts x (List.mem_of_getElem? HX.out))
            by_cases hmt : m < x.legs.length
            · obtain ⟨l, hl⟩ : ∃ l, x.legs[m]? = some l := ⟨x.legs[m], by simp⟩
              obtain ⟨lb, lo, ex, f0, f1, f2, z2, hLg⟩ := HR.out.leg hl
              have x4 := HX4.out l (List.mem_of_getElem? hl)
              have HL := Lib.hid hl
              have HEx := Lib.hid ex
              have HLg := Lib.hid hLg
              have r3 : (0 : Int) ≤ (m : Int) := by omega
              have r4 : (m : Int) < (x.legs.length : Int) := by omega
              rw [ex]
              clear hl hLg ex
              by_cases h2 : l.lg.as.length ≤ 2
              case neg =>
                go_wp2_with fail
                go_ret
                exact ⟨_, rfl, hW, _, rfl, fun h => absurd h (by decide)⟩
              go_wp2_with fail
              refine (rspan_any ⟨l.lg.lo, l.lg.hi⟩ 6 _).mono ?_
              rintro e2 w2 ⟨rfl, hb2⟩
              have HSp : Hid (spanB ⟨l.lg.lo, l.lg.hi⟩ 6 = true → 0 ≤ l.lg.lo ∧ l.lg.lo ≤ l.lg.hi ∧ l.lg.hi ≤ 6) := fun h => spanB_ok h
              generalize spanB ⟨l.lg.lo, l.lg.hi⟩ 6 = sv at *
              replace HLg := Lib.hid (RowAt.later HLg.out hb2)
              clear f0 f1 f2 z2
              replace hW := over hW hb2; (try clear c1 t1); replace B1 := B1.later hb2; have c1 := B1.cell; have t1 := B1.lt; clear hb2 
              go_upto_if 105 with fail
              go_cut [3] (fun s3 wx => ∃ e' : Int, s3 = .int .i64 e' ∧ (e' = 0 → e = 0 ∧ sv = true) ∧ wx = w2)
              case first =>
                cases sv with
                | false =>
                  go_wp2_with fail
                  go_meet
                  exact ⟨1, rfl, fun h => absurd h (by decide), rfl⟩
                | true =>
                  go_wp2_with fail
                  go_meet
                  exact ⟨e, rfl, fun h => ⟨h, by trivial⟩, rfl⟩
              case rest =>
              obtain ⟨e1, rfl, hh, rfl⟩ := hcut
              have HH := Lib.hid hh
              clear hh c1 t1
              go_wp2_with fail
              have HLg0 := HLg
              go_loopw [3, 8] (fun bv i wi => ∃ (e2 : Int) (n : Nat), bv = .int .i64 e2 ∧ n ≤ l.lg.as.length ∧ i = .int .i64 n ∧ Below w.heap.size w wi ∧ Box wi w.heap.size #[.slice q.a1 p.sends.length q.c1, .slice q.a2 q.rs.length q.c2, .int .i64 p.pat] 28 ∧ (e2 = 0 → e1 = 0 ∧ ∀ r ∈ l.lg.as.take n, r.Ok 30)) (fun _ i _ => l.lg.as.length - (intOf i).toNat)
              case atStart => exact ⟨e1, 0, rfl, Nat.zero_le _, rfl, hW, B1, fun h => ⟨h, by simp⟩⟩
              case round =>
                clear hW B1 HR HLg
                obtain ⟨e2, n, rfl, hn, rfl, hW, B1, hp⟩ := hrel
                have HPn := Lib.hid hp
                clear hp
                obtain ⟨lb', lo', ex, f0, f1, f2, z2, hLg⟩ := ((HB.out.later hW).rts x (List.mem_of_getElem? HX.out)).leg HL.out
                rw [HEx.out] at ex
                cases ex
                by_cases hnt : n < l.lg.as.length
                · obtain ⟨r, hr⟩ : ∃ r, l.lg.as[n]? = some r := ⟨l.lg.as[n], by simp⟩
                  obtain ⟨rb, ro, er, g0, g1, z3⟩ := hLg.rg hr
                  have HRr := Lib.hid hr
                  rw [er] at f2
                  clear hr er hLg
                  have r5 : (0 : Int) ≤ (n : Int) := by omega
                  have r6 : (n : Int) < (l.lg.as.length : Int) := by omega
                  go_wp2_with fail
                  refine (rspan_any r 30 _).mono ?_
                  rintro e3 w3 ⟨rfl, hb3⟩
                  have HSr : Hid (spanB r 30 = true → r.Ok 30) := spanB_ok
                  generalize spanB r 30 = sr at *
                  clear f0 f1 f2 z2 g0 g1 z3
                  replace hW := over hW hb3
                  replace B1 := B1.later hb3
                  clear hb3
                  cases sr with
                  | false =>
                    go_wp2_with fail
                    go_roundw
                    case rel => exact ⟨1, n + 1, rfl, by omega, by go_num, hW, B1, fun h => absurd h (by decide)⟩
                    case measure => first | omega | (simp [intOf]; omega)
                  | true =>
                    go_wp2_with fail
                    go_roundw
                    case rel => exact ⟨e2, n + 1, rfl, by omega, by go_num, hW, B1, fun h => ⟨(HPn.out h).1, ok_succ (HPn.out h).2 HRr.out (HSr.out (by trivial))⟩⟩
                    case measure => first | omega | (simp [intOf]; omega)
                · obtain rfl : n = l.lg.as.length := by omega
                  have HLk : Hid (e2 = 0 → e = 0 ∧ l.lg.Ok) := fun h => by
                    obtain ⟨h1, h3⟩ := HPn.out h
                    obtain ⟨h4, h5⟩ := HH.out h1
                    exact ⟨h4, HSp.out h5, h2, ok_all h3⟩
                  clear hn hnt HPn hLg
                  go_wp2_with fail
                  go_roundw
                  case rel => exact ⟨e2, m + 1, rfl, by omega, by go_num, hW, B1, fun h => ⟨(HP.out (HLk.out h).1).1, ok_succ (HP.out (HLk.out h).1).2 HL.out (HLk.out h).2⟩⟩
                  case measure => first | omega | (simp [intOf]; omega)
            · obtain rfl : m = x.legs.length := by omega
              clear hm hmt
              go_wp2_with fail
              go_roundw
              case rel => exact ⟨e, k + 1, rfl, by omega, by go_num, hW, B1, fun h => ⟨(HP.out h).1.1.1, ok_succ (HP.out h).1.1.2 HX.out ⟨by simpa [RtV.rt] using (HP.out h).1.2, by simpa [RtV.rt] using h3, fun l hl => by
                obtain ⟨y, hy, rfl⟩ := List.mem_map.1 hl
                exact ok_all (HP.out h).2 y hy⟩⟩⟩
              case measure => first | omega | (simp [intOf]; omega)
        · obtain rfl : k = q.rs.length := by omega
          clear hlt hk
          have HOk : Hid (e = 0 → p.Ok) := fun h => by
            obtain ⟨⟨h1, h2⟩, h3⟩ := HP.out h
            have hr := HB.out.eq
            have hrl : q.rs.length = p.routes.length := by rw [← hr]; simp
            refine ⟨h1.s1, v1, by rw [← hrl]; exact h1.r1, by omega, h1.pat, ok_all h2.bd, fun i a b ha hb => h2.up i a b ha hb (List.getElem?_eq_some_iff.1 hb).1, fun r hrr => ?_⟩
            rw [← hr] at hrr
            obtain ⟨x, hx, rfl⟩ := List.mem_map.1 hrr
            exact ok_all h3 x hx
          clear HP
          go_wp2_with fail
          go_ret
          exact ⟨_, rfl, hW, _, rfl, HOk.out⟩
end Go.Proofs.Ytbphpeoddifkfaa
