/- The statement on coded dispatches that are sent in copies: its walk. -/
import Derived.Test.YtbphpeoddifkfaaOT2
open Go.RowKit Go.Shelf
namespace Go.Proofs.Ytbphpeoddifkfaa
open Go.Once

/-- What has been coded and sent, dispatch by dispatch. -/
def Coded (b : Bk) (i : Nat) (P S : List IV) : Prop := P.length = i ∧ S.length = i ∧ ∀ (k : Nat) (x y : IV), P[k]? = some x → S[k]? = some y → x.xs.length ≤ 4 ∧ (∀ n ∈ x.xs, 0 ≤ n ∧ n < b.size) ∧ y.xs = codeAll b (k % b.days.length) x.xs
theorem Coded.succ {b : Bk} {i : Nat} {P S : List IV} (h : Coded b i P S) {x y : IV} (h1 : x.xs.length ≤ 4) (h2 : ∀ n ∈ x.xs, 0 ≤ n ∧ n < b.size) (h3 : y.xs = codeAll b (i % b.days.length) x.xs) : Coded b (i + 1) (P ++ [x]) (S ++ [y]) := by
  refine ⟨by simp [h.1], by simp [h.2.1], fun k x' y' hx hy => ?_⟩
  by_cases hk : k < i
  · rw [List.getElem?_append_left (by rw [h.1]; exact hk)] at hx
    rw [List.getElem?_append_left (by rw [h.2.1]; exact hk)] at hy
    exact h.2.2 k x' y' hx hy
  · have hki : k = i := by
      have := (List.getElem?_eq_some_iff.1 hx).1
      simp at this; have := h.1; omega
    subst hki
    rw [List.getElem?_append_right (by rw [h.1]; exact Nat.le_refl _), h.1] at hx
    rw [List.getElem?_append_right (by rw [h.2.1]; exact Nat.le_refl _), h.2.1] at hy
    simp at hx hy
    subst hx; subst hy
    exact ⟨h1, h2, h3⟩
/-- All is as the statement asks. -/
structure Fine (b : Bk) (q : PV) (p : Ps) (l : List Nat) : Prop where
  ob : b.Ok
  op : p.Ok
  ot : Thin5 q p
  ol : 0 < l.length
/-- A word that is read. -/
theorem word_at {W : World} {a : Option Addr} {l : List Nat} (h : WordsAt W a l) (hb : ∀ n ∈ l, n < 65536) (h0 : 0 < l.length) (i : Nat) :
    ∃ (r pb po x : Nat), (i : Int).tmod (l.length : Int) = r ∧ r < l.length ∧ a = some ⟨pb, po, none⟩ ∧ W.cell? ⟨pb, po + r, none⟩ = some (.int .u16 x) ∧ pb < W.heap.size ∧ x < 65536 := by
  have hr : i % l.length < l.length := Nat.mod_lt _ h0
  obtain ⟨pb, po, e, hC⟩ := RowAt.at (k := i % l.length) h (by simpa using hr)
  obtain ⟨x, hx⟩ : ∃ x, l[i % l.length]? = some x := ⟨l[i % l.length], by simp⟩
  have e0 := cells_one (f := fun n : Nat => Value.int .u16 (n : Int)) hC hx
  exact ⟨i % l.length, pb, po, x, rfl, hr, e, e0, block_lt_of_cell e0, hb x (List.mem_of_getElem? hx)⟩

/-- What must stay while the outer lists grow. -/
structure Bag (qb : BV) (b : Bk) (qp : PV) (p : Ps) (w : World) (P S : List IV) (x y : IV) (wr : World) : Prop where
  W : Below w.heap.size w wr
  B3 : Box wr w.heap.size #[.int .i64 b.size, .int .i64 b.words, .slice qb.a1 b.keys.length qb.c1, .slice qb.a2 b.days.length qb.c2] 25
  B4 : Box wr (w.heap.size + 1) #[.slice qp.a1 p.sends.length qp.c1, .slice qp.a2 qp.rs.length qp.c2, .int .i64 p.pat] 28
  P : ∀ x ∈ P, IvO wr w.heap.size x
  S : ∀ x ∈ S, IvO wr w.heap.size x
  x : IvO wr w.heap.size x
  y : IvO wr w.heap.size y
theorem Bag.step {qb : BV} {b : Bk} {qp : PV} {p : Ps} {w : World} {P S : List IV} {x y : IV} {W W' : World} (h : Bag qb b qp p w P S x y W) (hb : Below w.heap.size W W') (hk : ∀ E, 23 ≠ E → KeepT E W W') : Bag qb b qp p w P S x y W' :=
  ⟨h.W.trans hb, h.B3.keep (hk _ (by decide)), h.B4.keep (hk _ (by decide)), fun z hz => Own.keep (h.P z hz) (hk _ (by decide)), fun z hz => Own.keep (h.S z hz) (hk _ (by decide)), Own.keep h.x (hk _ (by decide)), Own.keep h.y (hk _ (by decide))⟩
theorem Bag.later {qb : BV} {b : Bk} {qp : PV} {p : Ps} {w : World} {P S : List IV} {x y : IV} {W W' : World} (h : Bag qb b qp p w P S x y W) (hb : Below W.heap.size W W') : Bag qb b qp p w P S x y W' := h.step (hb.mono h.W.size) fun _ _ => KeepT.later hb

set_option maxRecDepth 100000 in
set_option maxHeartbeats 16000000 in
theorem TopOnce_any (qb : BV) (b : Bk) (qp : PV) (p : Ps) (l : List Nat) (wa : Option Addr) (wk : Nat) (w : World) (hb : BookAt w qb b) (hsb : BookSane b) (hP : PostAt w qp p) (hsp : PostSane qp p) (hw : WordsAt w wa l) (hwl : l.length ≤ 9223372036854775807) (hwb : ∀ n ∈ l, n < 65536) :
    Calls Try.prog 3 #[bookV qb b, postV qp p, .slice wa l.length wk] w (Ret (.bool true) w) := by
  have HB := Lib.hid hb
  have HP := Lib.hid hP
  have HWd := Lib.hid hw
  have HWb := Lib.hid hwb
  have HSb := Lib.hid hsb
  have HSp := Lib.hid hsp
  clear hb hP hw hwb hsb hsp
  go_enter Try.func3, Try.ntmps3
  go_upto_region 1 with fail
  refine named2 (p := Code.wp _ _ _ _) ?_
  intro W hW B3 B4
  have c3 := B3.cell; have t3 := B3.lt; have c4 := B4.cell; have t4 := B4.lt
  have hW1 : Below W.heap.size W W := Below.refl _ _
  go_cut [46] (fun s46 wx => ∃ t : Bool, s46 = .bool t ∧ (t = false → Fine b qp p l) ∧ Below W.heap.size W wx)
  case first =>
    go_wp2_with fail
    refine (thin4_any qb b W HSb.out).mono ?_
    rintro e w1 ⟨rfl, hb1⟩
    have HTh : Hid ((decide (b.keys.length ≤ 8) && decide (b.days.length ≤ 11)) = true → b.keys.length ≤ 1000 ∧ b.days.length ≤ 1000) := fun h => by simp at h; omega
    generalize (decide (b.keys.length ≤ 8) && decide (b.days.length ≤ 11)) = tv at *
    replace hW1 := over hW1 hb1
    (try clear c3 t3 c4 t4); replace B3 := B3.later hb1; replace B4 := B4.later hb1; have c3 := B3.cell; have t3 := B3.lt; have c4 := B4.cell; have t4 := B4.lt
    clear hb1
    cases tv with
    | false =>
      go_wp2_with fail
      go_meet
      exact ⟨true, rfl, (fun h => by cases h), hW1⟩
    | true =>
    obtain ⟨l1, l2⟩ := HTh.out (by trivial)
    clear HTh
    go_wp2_with fail
    refine (fault4_any qb b _ (HB.out.later (over hW hW1)) l1 l2).mono ?_
    rintro e w2 ⟨_, rfl, hb2, e1, rfl, hok⟩
    have HOk := Lib.hid hok
    replace hW1 := over hW1 hb2
    (try clear c3 t3 c4 t4); replace B3 := B3.later hb2; replace B4 := B4.later hb2; have c3 := B3.cell; have t3 := B3.lt; have c4 := B4.cell; have t4 := B4.lt
    clear hb2 hok
    by_cases he1 : e1 = 0
    case neg =>
      have hne : (e1 != 0) = true := by simpa using he1
      clear he1
      go_wp2_with fail
      go_meet
      exact ⟨true, rfl, (fun h => by cases h), hW1⟩
    have HbOk := Lib.hid (HOk.out he1)
    subst he1
    clear HOk
    go_wp2_with fail
    refine (thin5_any qp p _ (HP.out.later (over hW hW1)) HSp.out).mono ?_
    rintro e w3 ⟨_, rfl, hb3, tv, rfl, hth⟩
    have HTh := Lib.hid hth
    replace hW1 := over hW1 hb3
    (try clear c3 t3 c4 t4); replace B3 := B3.later hb3; replace B4 := B4.later hb3; have c3 := B3.cell; have t3 := B3.lt; have c4 := B4.cell; have t4 := B4.lt
    clear hb3 hth
    cases tv with
    | false =>
      go_wp2_with fail
      go_meet
      exact ⟨true, rfl, (fun h => by cases h), hW1⟩
    | true =>
    have HT5 := Lib.hid (HTh.out (by trivial))
    clear HTh
    go_wp2_with fail
    refine (fault5_any qp p _ (HP.out.later (over hW hW1)) HT5.out).mono ?_
    rintro e w4 ⟨_, rfl, hb4, e2, rfl, hok⟩
    have HOk := Lib.hid hok
    replace hW1 := over hW1 hb4
    (try clear c3 t3 c4 t4); replace B3 := B3.later hb4; replace B4 := B4.later hb4; have c3 := B3.cell; have t3 := B3.lt; have c4 := B4.cell; have t4 := B4.lt
    clear hb4 hok
    by_cases he2 : e2 = 0
    case neg =>
      have hne : (e2 != 0) = true := by simpa using he2
      clear he2
      go_wp2_with fail
      go_meet
      exact ⟨true, rfl, (fun h => by cases h), hW1⟩
    have HpOk := Lib.hid (HOk.out he2)
    subst he2
    clear HOk
    by_cases hl0 : l.length = 0
    · have hz : ((l.length : Int) == 0) = true := beq_iff_eq.2 (by omega)
      clear hl0
      go_wp2_with fail
      go_meet
      exact ⟨true, rfl, (fun h => by cases h), hW1⟩
    · have hz : ((l.length : Int) == 0) = false := beq_eq_false_iff_ne.2 (by omega)
      have HL0 := Lib.hid hl0
      clear hl0
      go_wp2_with fail
      go_meet
      exact ⟨false, rfl, fun _ => ⟨HbOk.out, HpOk.out, HT5.out, by have := HL0.out; omega⟩, hW1⟩
  case rest =>
  obtain ⟨tv, rfl, hf, hb5⟩ := hcut
  clear hW1
  replace hW := over hW hb5; (try clear c3 t3 c4 t4); replace B3 := B3.later hb5; replace B4 := B4.later hb5; have c3 := B3.cell; have t3 := B3.lt; have c4 := B4.cell; have t4 := B4.lt; clear hb5 
  cases tv with
  | true =>
    clear hf
    go_wp2_with fail
    refine (once_any _).mono ?_
    rintro e w6 ⟨rfl, hb6⟩
    replace hW := over hW hb6
    clear hb6 c3 t3 c4 t4 B3 B4
    go_wp2_with fail
    go_ret
    exact ⟨rfl, hW⟩
  | false =>
  have hfi := hf rfl
  have hS := size_bd hfi.ob.size
  have hs4 := hfi.op.s4
  have hd1 := hfi.ob.d1
  have hd8 := hfi.ob.d8
  have hl0 := hfi.ol
  have hk5 := hfi.ob.k5
  have HF := Lib.hid hfi
  obtain ⟨_, pb, po, _, _, _, rfl, _⟩ := word_at HWd.out HWb.out hl0 0
  clear hf hfi
  go_wp2_with fail
  clear c3 t3 c4 t4
  go_loopw [7, 8, 9] (fun v7 v8 i' wr => ∃ (i : Nat) (P S : List IV), i ≤ p.sends.length ∧ i' = .int .i64 i ∧ Below w.heap.size w wr ∧ Box wr w.heap.size #[.int .i64 b.size, .int .i64 b.words, .slice qb.a1 b.keys.length qb.c1, .slice qb.a2 b.days.length qb.c2] 25 ∧ Box wr (w.heap.size + 1) #[.slice qp.a1 p.sends.length qp.c1, .slice qp.a2 qp.rs.length qp.c2, .int .i64 p.pat] 28 ∧ Two wr w.heap.size v7 (P.map IV.vs) v8 (S.map IV.vs) ∧ (∀ x ∈ P, IvO wr w.heap.size x) ∧ (∀ x ∈ S, IvO wr w.heap.size x) ∧ Coded b i P S) (fun _ _ i' _ => p.sends.length - (intOf i').toNat)
  case atStart => exact ⟨0, [], [], Nat.zero_le _, rfl, hW, B3, B4, Two.nil _ _, by simp, by simp, rfl, rfl, by simp⟩
  case round =>
    clear hW B3 B4
    obtain ⟨i, P, S, hi, rfl, hW, B3, B4, hTw, hPo, hSo, hCd⟩ := hrel
    have HTw := Lib.hid hTw
    have HPo := Lib.hid hPo
    have HSo := Lib.hid hSo
    have HCd := Lib.hid hCd
    clear hTw hPo hSo hCd
    by_cases hlt : i < p.sends.length
    · have c3 := B3.cell; have t3 := B3.lt; have c4 := B4.cell; have t4 := B4.lt
      go_wp2_with fail
      clear c3 t3 c4 t4
      obtain ⟨w0, hw0⟩ : ∃ w0, w0 = wr := ⟨_, rfl⟩
      have hsame : Below w0.heap.size w0 wr := by rw [hw0]; exact Below.refl _ _
      have HW0 := Lib.hid (show Below w.heap.size w w0 by rw [hw0]; exact hW)
      rw [← hw0] at HTw HPo HSo
      clear hw0
      go_loopw [10, 11] (fun v m' wi => ∃ (m : Nat) (xs : List Int), m ≤ 4 ∧ m' = .int .i64 m ∧ xs.length = m ∧ (∀ n ∈ xs, 0 ≤ n ∧ n < b.size) ∧ Below w.heap.size w wi ∧ Below w0.heap.size w0 wi ∧ Box wi w.heap.size #[.int .i64 b.size, .int .i64 b.words, .slice qb.a1 b.keys.length qb.c1, .slice qb.a2 b.days.length qb.c2] 25 ∧ Box wi (w.heap.size + 1) #[.slice qp.a1 p.sends.length qp.c1, .slice qp.a2 qp.rs.length qp.c2, .int .i64 p.pat] 28 ∧ Own wi w0.heap.size 3 1 v (ivs xs)) (fun _ m' _ => 5 - (intOf m').toNat)
      case atStart => exact ⟨0, [], Nat.zero_le _, rfl, rfl, by simp, hW, hsame, B3, B4, Own.nil _ _ _ _⟩
      case round =>
        clear hW B3 B4 hsame
        obtain ⟨m, xs, hm, rfl, hxl, hxb, hW, hW0, B3, B4, hO⟩ := hrel
        have HO := Lib.hid hO
        have HXl := Lib.hid hxl
        have HXb := Lib.hid hxb
        clear hO hxl hxb
        obtain ⟨r, _, _, x, hr, hrl, ea, e0, z1, hx⟩ := word_at (RowAt.later HWd.out hW) HWb.out hl0 i
        cases ea
        obtain ⟨r', _, _, x', hr', hrl', ea, e1, _, hx'⟩ := word_at (RowAt.later HWd.out hW) HWb.out hl0 (i + m)
        cases ea
        obtain ⟨y, hy⟩ : ∃ y : Nat, (x : Int).tmod 5 = y := ⟨x % 5, rfl⟩
        have hy4 : y ≤ 4 := by
          have : (y : Int) < 5 := by rw [← hy]; exact Int.tmod_lt_of_pos _ (by omega)
          omega
        have hlz : ¬ (l.length : Int) = 0 := by omega
        have r1 : (0 : Int) ≤ (r : Int) := by omega
        have r2 : (r : Int) < (l.length : Int) := by omega
        have r3 : (0 : Int) ≤ (r' : Int) := by omega
        have r4 : (r' : Int) < (l.length : Int) := by omega
        rw [Int.natCast_add] at hr'
        have c3 := B3.cell; have t3 := B3.lt
        by_cases hmy : m < y
        · obtain ⟨q8, hq8⟩ : ∃ q8 : Nat, (x' : Int).tdiv 8 = q8 := ⟨x' / 8, rfl⟩
          have hq8b : q8 ≤ 8191 := by
            have : (q8 : Int) = x' / 8 := by rw [← hq8, Int.tdiv_eq_ediv_of_nonneg (by omega)]
            omega
          obtain ⟨z, hz⟩ : ∃ z : Int, (q8 : Int).tmod b.size = z := ⟨_, rfl⟩
          have hzb : 0 ≤ z ∧ z < b.size := by
            rw [← hz, Int.tmod_eq_emod_of_nonneg (by omega)]
            exact ⟨Int.emod_nonneg _ (by omega), Int.emod_lt_of_pos _ (by omega)⟩
          have hbz : ¬ b.size = 0 := by omega
          have hmy' : (m : Int) < (y : Int) := by omega
          go_upto_region 11 with fail
          have hWr := hW
          have hWr0 := hW0
          refine Fat.wp_region0 16 [15] (fun _ => oneSpec 3 #[.int .i64 z]) (fun _ => oneSpec_lasting _ _) (by kernel_rfl) (by kernel_rfl) ?_
          simp only [List.take_succ_cons, List.take_zero, Fat.pick, List.contains_cons, List.contains_nil, Nat.reduceAdd, Nat.reduceBEq]
          repeat (first | simp only [Bool.or_false] | simp only [Bool.or_true] | simp only [Bool.true_or] | simp only [Bool.false_eq_true] | simp only [if_true] | simp only [if_false])
          repeat (go_big_quiet_step (fail))
          refine wpQuiet_nil ?_
          refine ⟨?_, ?_, ?_⟩
          · intro i o hi hown ho vals lo hi' W hW hdep
            simp only [List.contains_cons, List.contains_nil, Bool.or_false] at hi
            (try simp only [Bool.or_eq_true] at hi)
            simp only [beq_iff_eq] at hi
            rcases hi with rfl
            all_goals first
              | exact absurd hown (by decide)
              | (simp only [List.getElem?_cons_succ, List.getElem?_cons_zero, Option.some.injEq] at ho; subst ho; refine .inl ⟨rfl, ?_⟩; simp only [Fat.putN, Fat.dstOf, Act.put, List.getElem?_toArray, List.getElem?_cons_succ, List.getElem?_cons_zero, Option.bind_some, List.setIfInBounds_toArray, List.set_cons_succ, List.set_cons_zero])
            go_simp
            exact oneSpec_new _ _ _
          · intro i o hi hown ho vals lo hi' W hW hdep
            simp only [List.contains_cons, List.contains_nil, Bool.or_false] at hi
            (try simp only [Bool.or_eq_true] at hi)
            simp only [beq_iff_eq] at hi
            rcases hi with rfl
            all_goals first
              | exact absurd (by decide) hown
              | (simp only [List.getElem?_cons_succ, List.getElem?_cons_zero, Option.some.injEq] at ho; subst ho; refine ⟨rfl, ?_⟩; simp only [Fat.putN, Fat.dstOf, Act.put, List.getElem?_toArray, List.getElem?_cons_succ, List.getElem?_cons_zero, Option.bind_some, List.setIfInBounds_toArray, List.set_cons_succ, List.set_cons_zero]; (try simp only [Option.bind_none]))
          · intro vals lo hi' w9 hb9 hphi hdis htied
            obtain ⟨_, _, _, (q15 : vals 15 = _), _, (B83 : Box w9 (lo 15) _ _)⟩ := hphi 15 rfl
            simp only [Fat.putN, Fat.dstOf, Act.put, List.getElem?_toArray, List.getElem?_cons_succ, List.getElem?_cons_zero, Option.bind_some, List.setIfInBounds_toArray, List.set_cons_succ, List.set_cons_zero, List.drop_succ_cons, List.drop_zero]
            rw [q15]
            clear q15 hphi hdis htied
            generalize lo 15 = b83 at *
            have hO9 := HO.out.later hb9
            replace hW := over hWr hb9
            replace hW0 := over hWr0 hb9
            replace B3 := B3.later hb9
            replace B4 := B4.later hb9
            clear c3 t3 hb9 hWr hWr0 HO e0 e1 z1
            refine wpList_grow rfl (.tmp 68) (.tmp 83) 23 rfl elem_int rfl hO9 rfl B83 rfl (by decide) rfl (n := m) (by simp [HXl.out]) (by omega) (by decide) hW0.size ?_
            intro a' c' W' hO' hb' hg'
            replace B3 := B3.keep (KeepT.grown hO9 (by decide) hg')
            replace B4 := B4.keep (KeepT.grown hO9 (by decide) hg')
            replace hW := hW.trans (hb'.mono HW0.out.size)
            replace hW0 := hW0.trans hb'
            have HO' := Lib.hid hO'
            clear hO' hb' hg' hO9 B83 hr hr' hq8 hz
            go_wp2_with fail
            go_roundw
            case rel =>
              refine ⟨m + 1, xs ++ [z], by omega, by go_num, by simp [HXl.out], fun n hn => ?_, hW, hW0, B3, B4, by rw [ivs, List.map_append]; exact HO'.out⟩
              rcases List.mem_append.1 hn with hn | hn
              · exact HXb.out n hn
              · simp at hn; subst hn; exact hzb
            case measure => first | omega | (simp [intOf]; omega)
        · have hmy' : ¬ (m : Int) < (y : Int) := by omega
          have hxl := HXl.out
          obtain ⟨ta, tc, rfl, _, hrow⟩ := HO.out.row
          rw [show (ivs xs).length = xs.length from List.length_map _] at HO ⊢
          have HRow := Lib.hid (show IntsAt wr ta xs from hrow)
          clear hrow hxl
          go_upto_region 12 with fail
          clear e0 e1 z1 hr hr' hy hmy hmy' r1 r2 r3 r4 hrl hrl' hx hx' hy4 c3 t3
          obtain ⟨dn, hdn⟩ : ∃ dn : Nat, (i : Int).tmod (b.days.length : Int) = dn := ⟨i % b.days.length, rfl⟩
          have HDn := Lib.hid (show dn = i % b.days.length by have : ((i % b.days.length : Nat) : Int) = dn := hdn; omega)
          have hdl : dn < b.days.length := by rw [HDn.out]; exact Nat.mod_lt _ hd1
          have hdz : ¬ (b.days.length : Int) = 0 := by omega
          have hxl : xs.length ≤ 4 := by have := HXl.out; omega
          have c3 := B3.cell; have t3 := B3.lt
          have hWr := hW
          have hWr0 := hW0
          refine Fat.wp_region0 15 [1, 7, 9, 10, 11, 12, 13, 14] (fun j => if j = 1 then bookSp b else if j = 7 then emptySpec 3 else if j = 9 then ownSpec wr.heap.size 3 1 (ivs xs) else if j = 12 then listSp w0.heap.size (codeAll b dn xs) (fun v => v) else if j = 14 then listSp w0.heap.size (codeAll b dn xs) (fun v => v) else if j = 13 then isSpec (.int .i64 0) else listSp w0.heap.size (codeAll b dn xs) (fun v => .tuple #[v, .int .i64 0]))
            (fun j => by (repeat' split) <;> first | exact bookSp_lasting _ | exact emptySpec_lasting _ | exact ownSpec_lasting _ _ _ _ | exact listSp_lasting _ _ _ | exact isSpec_lasting _) (by kernel_rfl) (by kernel_rfl) ?_
          simp only [List.take_succ_cons, List.take_zero, Fat.pick, List.contains_cons, List.contains_nil, Nat.reduceAdd, Nat.reduceBEq]
          repeat (first | simp only [Bool.or_false] | simp only [Bool.or_true] | simp only [Bool.true_or] | simp only [Bool.false_eq_true] | simp only [if_true] | simp only [if_false])
          repeat (go_big_quiet_step (fail))
          refine wpQuiet_nil ?_
          refine ⟨?_, ?_, ?_⟩
          · intro i o hi hown ho vals lo hi' W hW hdep
            simp only [List.contains_cons, List.contains_nil, Bool.or_false] at hi
            (try simp only [Bool.or_eq_true] at hi)
            simp only [beq_iff_eq] at hi
            rcases hi with rfl | rfl | rfl | rfl | rfl | rfl | rfl | rfl
            all_goals first
              | exact absurd hown (by decide)
              | (simp only [List.getElem?_cons_succ, List.getElem?_cons_zero, Option.some.injEq] at ho; subst ho; refine .inl ⟨rfl, ?_⟩; simp only [Fat.putN, Fat.dstOf, Act.put, List.getElem?_toArray, List.getElem?_cons_succ, List.getElem?_cons_zero, Option.bind_some, List.setIfInBounds_toArray, List.set_cons_succ, List.set_cons_zero])
            · go_simp
              exact (book4_any qb b W (HB.out.later (over hWr hW)) (by omega) (by omega)).mono fun e w'' ⟨q, he, h, hq⟩ => ⟨_, he, h, q, rfl, hq⟩
            · go_simp
              exact emptySpec_new _ _
            · obtain ⟨d1, d2, d3, (d4 : emptySpec _ _ _ _ _)⟩ := hdep 7 rfl (by kernel_rfl)
              refine gives_append elem_int (by decide) (x := .tmp 93) (y := .tmp 94) rfl _ (lo 7) wr.heap.size ?_ d4.2.2 (by omega) _ (ivs_one xs) (ivs_cell xs) _ _ _ rfl (by simp) (RowAt.later HRow.out hW) (by simp; omega) (by decide)
              exact d4.1
            · obtain ⟨_, _, _, q, (hv1 : vals 1 = _), hq⟩ := hdep 1 rfl (by kernel_rfl)
              obtain ⟨_, _, _, (h9 : Own _ _ _ _ (vals 9) _)⟩ := hdep 9 rfl (by kernel_rfl)
              obtain ⟨a9, c9, e9, _, r9⟩ := h9.row
              rw [show (ivs xs).length = xs.length from List.length_map _] at e9
              rw [hv1, e9]
              go_simp
              exact (Code_any q b dn xs a9 c9 W hq HF.out.ob hdl r9 (by omega) HXb.out).mono fun e w'' ⟨a, c, he, h, ho⟩ => ⟨_, he, h, a, c, rfl, ho.mono (Nat.le_trans hWr0.size hW.size)⟩
            · obtain ⟨_, _, _, a, c, (hv : vals 10 = _), ho⟩ := hdep 10 rfl (by kernel_rfl)
              rw [hv]
              go_simp
              exact ⟨Below.refl _ _, a, c, rfl, ho⟩
            · obtain ⟨_, _, _, a, c, (hv : vals 11 = _), ho⟩ := hdep 11 rfl (by kernel_rfl)
              rw [hv]
              go_simp
              exact ⟨Below.refl _ _, a, c, rfl, ho⟩
            · obtain ⟨_, _, _, a, c, (hv : vals 11 = _), ho⟩ := hdep 11 rfl (by kernel_rfl)
              rw [hv]
              go_simp
              exact ⟨Below.refl _ _, rfl⟩
            · obtain ⟨_, _, _, a, c, (hv : vals 12 = _), ho⟩ := hdep 12 rfl (by kernel_rfl)
              rw [hv]
              go_simp
              exact ⟨Below.refl _ _, a, c, rfl, ho⟩
          · intro i o hi hown ho vals lo hi' W hW hdep
            simp only [List.contains_cons, List.contains_nil, Bool.or_false] at hi
            (try simp only [Bool.or_eq_true] at hi)
            simp only [beq_iff_eq] at hi
            rcases hi with rfl | rfl | rfl | rfl | rfl | rfl | rfl | rfl
            all_goals first
              | exact absurd (by decide) hown
              | (simp only [List.getElem?_cons_succ, List.getElem?_cons_zero, Option.some.injEq] at ho; subst ho; refine ⟨rfl, ?_⟩; simp only [Fat.putN, Fat.dstOf, Act.put, List.getElem?_toArray, List.getElem?_cons_succ, List.getElem?_cons_zero, Option.bind_some, List.setIfInBounds_toArray, List.set_cons_succ, List.set_cons_zero]; (try simp only [Option.bind_none]))
          · intro vals lo hi' w9 hb9 hphi hdis htied
            obtain ⟨_, _, _, q1, (g1 : vals 1 = _), _⟩ := hphi 1 rfl
            obtain ⟨_, _, _, g7, _⟩ := hphi 7 rfl
            obtain ⟨_, _, _, (g9 : Own _ _ _ _ (vals 9) _)⟩ := hphi 9 rfl
            obtain ⟨_, _, _, ac, cc, (g14 : vals 14 = _), hco⟩ := hphi 14 rfl
            obtain ⟨_, _, _, (g13 : vals 13 = _)⟩ := hphi 13 rfl
            replace g7 : vals 7 = _ := g7
            simp only [Fat.putN, Fat.dstOf, Act.put, List.getElem?_toArray, List.getElem?_cons_succ, List.getElem?_cons_zero, Option.bind_some, List.setIfInBounds_toArray, List.set_cons_succ, List.set_cons_zero, List.drop_succ_cons, List.drop_zero]
            rw [g1, g7, g13, g14]
            have HCo := Lib.hid hco
            replace HO := Lib.hid (HO.out.later hb9)
            replace hW := over hWr hb9
            replace hW0 := over hWr0 hb9
            replace B3 := B3.later hb9
            replace B4 := B4.later hb9
            clear g1 g7 g9 g13 g14 hphi hdis htied c3 t3 hb9 hWr hWr0 hco HRow hdn
            generalize vals 9 = x9 at *
            generalize vals 10 = x10 at *
            generalize vals 11 = x11 at *
            generalize vals 12 = x12 at *
            have HTw9 := Lib.hid (HTw.out.later hW0)
            have HBag := Lib.hid (show Bag qb b qp p w P S ⟨ta, tc, xs⟩ ⟨ac, cc, codeAll b dn xs⟩ w9 from ⟨hW, B3, B4, fun z hz => Own.later (HPo.out z hz) hW0, fun z hz => Own.later (HSo.out z hz) hW0, HO.out.mono HW0.out.size, HCo.out.mono HW0.out.size⟩)
            clear hW B3 B4 HO HCo hW0 HTw HPo HSo
            generalize hcl : (codeAll b dn xs).length = cl at *
            have HCl := Lib.hid hcl
            clear hcl
            go_wp2_with (first
              | (at_builtin; refine named1 (p := wpList _ _ _ _ _) ?_; intro w10 hb10 B103; have hO := HTw9.out.later hb10; have hBg := HBag.out.later hb10; refine wpList_grow2 rfl (.tmp 101) (.tmp 103) 35 rfl elem_ints rfl hO.1 rfl B103 rfl (by decide) rfl (n := i) (by simp [HCd.out.1]) (by omega) (by decide) hBg.W.size ?_; intro a' c' W' hO' hb' hg' hnew; have HTw2 := Lib.hid (hO.grow hO' hg' hnew); have HBag2 := Lib.hid (hBg.step hb' fun E hE => KeepT.grown hO.1 hE hg'); clear hO hBg hO' hb' hg' hnew B103 hb10 HTw9 HBag)
              | (at_builtin; refine named1 (p := wpList _ _ _ _ _) ?_; intro w11 hb11 B107; have hO := HTw2.out.later hb11; have hBg := HBag2.out.later hb11; refine wpList_grow2 rfl (.tmp 105) (.tmp 107) 35 rfl elem_ints rfl hO.2.1 rfl B107 rfl (by decide) rfl (n := i) (by simp [HCd.out.2.1]) (by omega) (by decide) hBg.W.size ?_; intro a'' c'' W'' hO' hb' hg' hnew; have HTw3 := Lib.hid (hO.swap.grow hO' hg' hnew).swap; have HBag3 := Lib.hid (hBg.step hb' fun E hE => KeepT.grown hO.2.1 hE hg'); clear hO hBg hO' hb' hg' hnew B107 hb11 HTw2 HBag2))
            go_roundw
            case rel =>
              have hB := HBag3.out
              refine ⟨i + 1, P ++ [⟨ta, tc, xs⟩], S ++ [⟨ac, cc, codeAll b dn xs⟩], by omega, by go_num, hB.W, hB.B3, hB.B4, ?_, fun z hz => ?_, fun z hz => ?_, HCd.out.succ hxl HXb.out (by rw [HDn.out])⟩
              · rw [List.map_append, List.map_append]
                have h := HTw3.out
                rw [← HCl.out] at h
                exact h
              · rcases List.mem_append.1 hz with hz | hz
                · exact hB.P z hz
                · simp at hz; subst hz; exact hB.x
              · rcases List.mem_append.1 hz with hz | hz
                · exact hB.S z hz
                · simp at hz; subst hz; exact hB.y
            case measure => first | omega | (simp [intOf]; omega)
    · obtain rfl : i = p.sends.length := by omega
      clear hi hlt
      obtain ⟨pa, pc, rfl, _, hprow⟩ := HTw.out.1.row
      obtain ⟨sa, sc, rfl, _, hsrow⟩ := HTw.out.2.1.row
      have hPl := HCd.out.1
      have hSl := HCd.out.2.1
      have HSc : Hid (∀ y ∈ S, y.xs.length ≤ y.c) := fun y hy => (Own.rowAt (HSo.out y hy)).2.1
      have hPt : TvAt wr ⟨pa, pc, P⟩ := ⟨hprow, fun x hx => (Own.rowAt (HPo.out x hx)).2.2⟩
      have hSt : TvAt wr ⟨sa, sc, S⟩ := ⟨hsrow, fun x hx => (Own.rowAt (HSo.out x hx)).2.2⟩
      have hs1 := HF.out.op.s1
      obtain ⟨pb1, po1, rfl, _⟩ := RowAt.at (k := 0) hprow (by omega)
      obtain ⟨sb1, so1, rfl, _⟩ := RowAt.at (k := 0) hsrow (by omega)
      rw [List.length_map, List.length_map, hPl, hSl]
      have HPt := Lib.hid hPt
      have HSt := Lib.hid hSt
      have HPl := Lib.hid hPl
      have HSl := Lib.hid hSl
      clear hprow hsrow hPt hSt hPl hSl HTw HPo HSo
      have c3 := B3.cell; have t3 := B3.lt; have c4 := B4.cell; have t4 := B4.lt
      go_upto_region 16 with fail
      have hWr := hW
      refine Fat.wp_region0 11 [1, 4, 5, 6, 7, 8, 9, 10] (fun j => if j = 1 then postSp p else if j = 4 then truthSp p else if j = 5 then truthSp p else if j = 8 then jourSp p (fun v => v) else if j = 10 then jourSp p (fun v => v) else if j = 9 then isSpec (.int .i64 0) else jourSp p (fun v => .tuple #[v, .int .i64 0]))
        (fun j => by (repeat' split) <;> first | exact postSp_lasting _ | exact truthSp_lasting _ | exact jourSp_lasting _ _ | exact isSpec_lasting _) (by kernel_rfl) (by kernel_rfl) ?_
      simp only [List.take_succ_cons, List.take_zero, Fat.pick, List.contains_cons, List.contains_nil, Nat.reduceAdd, Nat.reduceBEq]
      repeat (first | simp only [Bool.or_false] | simp only [Bool.or_true] | simp only [Bool.true_or] | simp only [Bool.false_eq_true] | simp only [if_true] | simp only [if_false])
      repeat (go_big_quiet_step (fail))
      refine wpQuiet_nil ?_
      refine ⟨?_, ?_, ?_⟩
      · intro i o hi hown ho vals lo hi' W hW hdep
        simp only [List.contains_cons, List.contains_nil, Bool.or_false] at hi
        (try simp only [Bool.or_eq_true] at hi)
        simp only [beq_iff_eq] at hi
        rcases hi with rfl | rfl | rfl | rfl | rfl | rfl | rfl | rfl
        all_goals first
          | exact absurd hown (by decide)
          | (simp only [List.getElem?_cons_succ, List.getElem?_cons_zero, Option.some.injEq] at ho; subst ho; refine .inl ⟨rfl, ?_⟩; simp only [Fat.putN, Fat.dstOf, Act.put, List.getElem?_toArray, List.getElem?_cons_succ, List.getElem?_cons_zero, Option.bind_some, List.setIfInBounds_toArray, List.set_cons_succ, List.set_cons_zero])
        · go_simp
          exact (post5_any qp p W (HP.out.later (over hWr hW)) HF.out.ot).mono fun e w'' ⟨q, he, h, hq, _⟩ => ⟨_, he, h, q, rfl, hq⟩
        · go_simp
          exact (picked_any qp p l _ wk W (HP.out.later (over hWr hW)) HF.out.op (RowAt.later HWd.out (over hWr hW)) hl0 hwl HWb.out).mono fun e w'' ⟨a, c, vs, t, he, h, ht, hs⟩ => ⟨_, he, h, a, c, vs, t, rfl, ht, hs⟩
        · obtain ⟨_, _, _, a, c, vs, t, (hv : vals 4 = _), ht, hs⟩ := hdep 4 rfl (by kernel_rfl)
          rw [hv]
          go_simp
          exact (truth5_any a c vs t W ht (small_of HF.out.op ht.eq hs)).mono fun e w'' ⟨a, c, vs, he, h, ht⟩ => ⟨_, he, h, a, c, vs, t, rfl, ht, hs⟩
        · obtain ⟨_, _, _, q, (hv1 : vals 1 = _), hq⟩ := hdep 1 rfl (by kernel_rfl)
          obtain ⟨_, _, _, a, c, vs, t, (hv : vals 5 = _), ht, hs⟩ := hdep 5 rfl (by kernel_rfl)
          rw [hv, hv1]
          go_simp
          exact (Play_any q p a c vs t W hq HF.out.op ht hs).mono fun e w'' ⟨a, c, he, h, hj⟩ => ⟨_, he, h, a, c, t, rfl, hj, hs⟩
        · obtain ⟨_, _, _, a, c, t, (hv : vals 6 = _), hj, hs⟩ := hdep 6 rfl (by kernel_rfl)
          rw [hv]
          go_simp
          exact ⟨Below.refl _ _, a, c, t, rfl, hj, hs⟩
        · obtain ⟨_, _, _, a, c, t, (hv : vals 7 = _), hj, hs⟩ := hdep 7 rfl (by kernel_rfl)
          rw [hv]
          go_simp
          exact ⟨Below.refl _ _, a, c, t, rfl, hj, hs⟩
        · obtain ⟨_, _, _, a, c, t, (hv : vals 7 = _), hj, hs⟩ := hdep 7 rfl (by kernel_rfl)
          rw [hv]
          go_simp
          exact ⟨Below.refl _ _, rfl⟩
        · obtain ⟨_, _, _, a, c, t, (hv : vals 8 = _), hj, hs⟩ := hdep 8 rfl (by kernel_rfl)
          rw [hv]
          go_simp
          exact ⟨Below.refl _ _, a, c, t, rfl, hj, hs⟩
      · intro i o hi hown ho vals lo hi' W hW hdep
        simp only [List.contains_cons, List.contains_nil, Bool.or_false] at hi
        (try simp only [Bool.or_eq_true] at hi)
        simp only [beq_iff_eq] at hi
        rcases hi with rfl | rfl | rfl | rfl | rfl | rfl | rfl | rfl
        all_goals first
          | exact absurd (by decide) hown
          | (simp only [List.getElem?_cons_succ, List.getElem?_cons_zero, Option.some.injEq] at ho; subst ho; refine ⟨rfl, ?_⟩; simp only [Fat.putN, Fat.dstOf, Act.put, List.getElem?_toArray, List.getElem?_cons_succ, List.getElem?_cons_zero, Option.bind_some, List.setIfInBounds_toArray, List.set_cons_succ, List.set_cons_zero]; (try simp only [Option.bind_none]))
      · intro vals lo hi' w9 hb9 hphi hdis htied
        obtain ⟨_, _, _, ja, jc, t, (g10 : vals 10 = _), hj, hsh⟩ := hphi 10 rfl
        obtain ⟨_, _, _, (g9 : vals 9 = _)⟩ := hphi 9 rfl
        simp only [Fat.putN, Fat.dstOf, Act.put, List.getElem?_toArray, List.getElem?_cons_succ, List.getElem?_cons_zero, Option.bind_some, List.setIfInBounds_toArray, List.set_cons_succ, List.set_cons_zero, List.drop_succ_cons, List.drop_zero]
        rw [g9, g10]
        have hjl : (journal p t).length = p.sends.length := by simp [journal]
        rw [hjl]
        obtain ⟨jb, jo, rfl, _⟩ := RowAt.at (k := 0) hj (by simp [hjl]; omega)
        have HJ := Lib.hid hj
        have HSh := Lib.hid hsh
        clear hj hsh hjl g9 g10 hphi hdis htied
        generalize vals 1 = x1 at *
        generalize vals 4 = x4 at *
        generalize vals 5 = x5 at *
        generalize vals 6 = x6 at *
        generalize vals 7 = x7 at *
        generalize vals 8 = x8 at *
        replace HPt := Lib.hid (HPt.out.later hb9)
        replace HSt := Lib.hid (HSt.out.later hb9)
        clear c3 t3 c4 t4
        replace hW := over hWr hb9
        replace B3 := B3.later hb9
        replace B4 := B4.later hb9
        clear hb9 hWr
        have c3 := B3.cell; have t3 := B3.lt; have c4 := B4.cell; have t4 := B4.lt
        go_wp2_with fail
        refine (post5_any qp p _ (HP.out.later hW) HF.out.ot).mono ?_
        rintro e w10 ⟨q2, rfl, hb10, hq2, _⟩
        have HQ2 := Lib.hid hq2
        replace HPt := Lib.hid (HPt.out.later hb10)
        replace HSt := Lib.hid (HSt.out.later hb10)
        replace HJ := Lib.hid (HJ.out.later hb10)
        replace hW := over hW hb10; (try clear c3 t3 c4 t4); replace B3 := B3.later hb10; replace B4 := B4.later hb10; have c3 := B3.cell; have t3 := B3.lt; have c4 := B4.cell; have t4 := B4.lt; clear hb10 hq2
        go_wp2_with fail
        refine (Surely_any q2 p _ HQ2.out HF.out.op).mono ?_
        rintro e w11 ⟨ua, uc, su, rfl, hb11, hsu, hsl, hsul⟩
        have HSu := Lib.hid hsu
        have HSl2 := Lib.hid hsl
        replace HPt := Lib.hid (HPt.out.later hb11)
        replace HSt := Lib.hid (HSt.out.later hb11)
        replace HJ := Lib.hid (HJ.out.later hb11)
        replace hW := over hW hb11; (try clear c3 t3 c4 t4); replace B3 := B3.later hb11; replace B4 := B4.later hb11; have c3 := B3.cell; have t3 := B3.lt; have c4 := B4.cell; have t4 := B4.lt; clear hb11 hsu hsl HQ2
        go_wp2_with fail
        clear c3 t3 c4 t4
        obtain ⟨w1, hw1⟩ : ∃ w1, w1 = w11 := ⟨_, rfl⟩
        have hsame : Below w1.heap.size w1 w11 := by rw [hw1]; exact Below.refl _ _
        rw [← hw1] at HPt HSt HJ HSu
        clear hw1 B4
        go_loopw [18, 19] (fun v k' wr => ∃ k : Nat, k ≤ p.sends.length ∧ k' = .int .i64 k ∧ v = .int .i64 (befI p t k) ∧ Below w.heap.size w wr ∧ Below w1.heap.size w1 wr ∧ Box wr w.heap.size #[.int .i64 b.size, .int .i64 b.words, .slice qb.a1 b.keys.length qb.c1, .slice qb.a2 b.days.length qb.c2] 25) (fun _ k' _ => p.sends.length - (intOf k').toNat)
        case atStart => exact ⟨0, Nat.zero_le _, rfl, rfl, hW, hsame, B3⟩
        case round =>
          clear hW hsame B3
          obtain ⟨k, hk, rfl, rfl, hW, hW1, B3⟩ := hrel
          by_cases hlt : k < p.sends.length
          · have hjk : (journal p t)[k]? = some (entI p t k) := by unfold journal; rw [List.getElem?_map, List.getElem?_range hlt]; rfl
            obtain ⟨_, _, ej, hCj⟩ := RowAt.at (k := k) (HJ.out.later hW1) (by simp [journal]; exact hlt)
            cases ej
            have d0 : wr.cell? ⟨jb, jo + k * 3, none⟩ = some (.int .i64 k) := by simpa [entI] using hCj k (entI p t k).vs (by simp [hjk]) 0 _ rfl
            have d1 : wr.cell? ⟨jb, jo + k * 3 + 1, none⟩ = some (.int .i64 (befI p t (k + 1))) := by simpa [entI] using hCj k (entI p t k).vs (by simp [hjk]) 1 _ rfl
            have d2 : wr.cell? ⟨jb, jo + k * 3 + 2, none⟩ = some (.bool (decide (deadI p k < hourI p t k))) := by simpa [entI] using hCj k (entI p t k).vs (by simp [hjk]) 2 _ rfl
            have z1 := block_lt_of_cell d0
            have hmono := befI_mono p t k
            obtain ⟨sk, hsk⟩ : ∃ sk : Bool, decide (deadI p k < hourI p t k) = sk := ⟨_, rfl⟩
            rw [hsk] at d2
            have HSk := Lib.hid hsk
            have r1 : (0 : Int) ≤ (k : Int) := by omega
            have r2 : (k : Int) < (p.sends.length : Int) := by omega
            obtain ⟨bv, hbv⟩ : ∃ bv, bv = befI p t k := ⟨_, rfl⟩
            obtain ⟨bn, hbn⟩ : ∃ bn, bn = befI p t (k + 1) := ⟨_, rfl⟩
            rw [← hbv, ← hbn] at hmono
            rw [← hbn] at d1
            rw [← hbv]
            have HBn := Lib.hid hbn
            have hdm : decide (bn < bv) = false := by simp; omega
            clear hjk hCj hsk hbv hbn
            go_wp2_with fail
            have hsu7 : su.length ≤ 7 := by omega
            go_loopw [20] (fun i' wi => ∃ i : Nat, i ≤ su.length ∧ i' = .int .i64 i ∧ Below wr.heap.size wr wi) (fun i' _ => su.length - (intOf i').toNat)
            case atStart => exact ⟨0, Nat.zero_le _, rfl, Below.refl _ _⟩
            case round =>
              obtain ⟨i, hi, rfl, hWi⟩ := hrel
              have e0 := (hWi.cell (p := ⟨jb, jo + k * 3 + 2, none⟩) z1).trans d2
              have z2 := block_lt_of_cell e0
              by_cases hit : i < su.length
              · obtain ⟨x, hx⟩ : ∃ x, su[i]? = some x := ⟨su[i], by simp⟩
                obtain ⟨ub, uo, eu, hCu⟩ := RowAt.at (k := i) (RowAt.later HSu.out (over hW1 hWi)) (by simpa using hit)
                have f0 := cells_one (f := fun n : Int => Value.int .i64 n) hCu hx
                have z3 := block_lt_of_cell f0
                obtain ⟨i', hxi, _, hdel⟩ := HSl2.out x (List.mem_of_getElem? hx)
                have r3 : (0 : Int) ≤ (i : Int) := by omega
                have r4 : (i : Int) < (su.length : Int) := by omega
                rw [eu]
                clear hCu hx eu
                by_cases hxk : x = (k : Int)
                · have hsf : sk = false := by
                    have hik : i' = k := by omega
                    rw [← HSk.out]
                    have := hdel t HSh.out
                    rw [hik] at this
                    simp; omega
                  rw [hsf] at e0
                  have hxb : (x == (k : Int)) = true := by simpa using hxk
                  clear hdel hxi hsf hxk
                  go_wp2_with fail
                  go_roundw
                  case rel => exact ⟨i + 1, by omega, by go_num, hWi⟩
                  case measure => first | omega | (simp [intOf]; omega)
                · have hxb : (x == (k : Int)) = false := by simpa using hxk
                  clear hdel hxi hxk
                  go_wp2_with fail
                  go_roundw
                  case rel => exact ⟨i + 1, by omega, by go_num, hWi⟩
                  case measure => first | omega | (simp [intOf]; omega)
              · obtain rfl : i = su.length := by omega
                clear hi hit
                replace hW := over hW hWi
                replace hW1 := over hW1 hWi
                replace B3 := B3.later hWi
                clear d0 d1 d2 z1 hWi
                cases sk with
                | true =>
                  go_wp2_with fail
                  rw [HBn.out]
                  go_roundw
                  case rel => exact ⟨k + 1, by omega, by go_num, rfl, hW, hW1, B3⟩
                  case measure => first | omega | (simp [intOf]; omega)
                | false =>
                  go_upto_region 33 with fail
                  clear e0 z2
                  obtain ⟨x, hx⟩ : ∃ x, P[k]? = some x := ⟨P[k]'(by have := HPl.out; omega), by simp⟩
                  obtain ⟨y, hy⟩ : ∃ y, S[k]? = some y := ⟨S[k]'(by have := HSl.out; omega), by simp⟩
                  obtain ⟨hx4, hxb, hyc⟩ := HCd.out.2.2 k x y hx hy
                  obtain ⟨_, _, es, f0, z2, hSi⟩ := (HSt.out.later hW1).one hy
                  cases es
                  obtain ⟨_, _, ep, f1, z3, hPi⟩ := (HPt.out.later hW1).one hx
                  cases ep
                  have hyl := HSc.out y (List.mem_of_getElem? hy)
                  obtain ⟨dn, hdn⟩ : ∃ dn : Nat, (k : Int).tmod (b.days.length : Int) = dn := ⟨k % b.days.length, rfl⟩
                  have hdn' : dn = k % b.days.length := by have : ((k % b.days.length : Nat) : Int) = dn := hdn; omega
                  have hdl : dn < b.days.length := by rw [hdn']; exact Nat.mod_lt _ hd1
                  have hdz : ¬ (b.days.length : Int) = 0 := by omega
                  rw [← hdn'] at hyc
                  have HYc := Lib.hid hyc
                  have HXb := Lib.hid hxb
                  have HSi := Lib.hid hSi
                  have HPi := Lib.hid hPi
                  have HYl := Lib.hid hyl
                  clear hdn' hyc hxb hx hy hSi hPi hyl
                  have c3 := B3.cell; have t3 := B3.lt
                  have hWr := hW
                  refine Fat.wp_region0 18 [1, 11, 12, 13, 14, 15, 16, 17] (fun j => if j = 1 then bookSp b else if j = 13 then decSp x.xs (fun v _ => v) else if j = 16 then decSp x.xs (fun v _ => v) else if j = 14 then decSp x.xs (fun _ u => u) else if j = 17 then decSp x.xs (fun _ u => u) else if j = 15 then isSpec (.int .i64 0) else decSp x.xs (fun v u => .tuple #[v, u, .int .i64 0]))
                    (fun j => by (repeat' split) <;> first | exact bookSp_lasting _ | exact decSp_lasting _ _ | exact isSpec_lasting _) (by kernel_rfl) (by kernel_rfl) ?_
                  simp only [List.take_succ_cons, List.take_zero, Fat.pick, List.contains_cons, List.contains_nil, Nat.reduceAdd, Nat.reduceBEq]
                  repeat (first | simp only [Bool.or_false] | simp only [Bool.or_true] | simp only [Bool.true_or] | simp only [Bool.false_eq_true] | simp only [if_true] | simp only [if_false])
                  repeat (go_big_quiet_step (fail))
                  refine wpQuiet_nil ?_
                  refine ⟨?_, ?_, ?_⟩
                  · intro i o hi hown ho vals lo hi' W hW hdep
                    simp only [List.contains_cons, List.contains_nil, Bool.or_false] at hi
                    (try simp only [Bool.or_eq_true] at hi)
                    simp only [beq_iff_eq] at hi
                    rcases hi with rfl | rfl | rfl | rfl | rfl | rfl | rfl | rfl
                    all_goals first
                      | exact absurd hown (by decide)
                      | (simp only [List.getElem?_cons_succ, List.getElem?_cons_zero, Option.some.injEq] at ho; subst ho; refine .inl ⟨rfl, ?_⟩; simp only [Fat.putN, Fat.dstOf, Act.put, List.getElem?_toArray, List.getElem?_cons_succ, List.getElem?_cons_zero, Option.bind_some, List.setIfInBounds_toArray, List.set_cons_succ, List.set_cons_zero])
                    · go_simp
                      exact (book4_any qb b W (HB.out.later (over hWr hW)) (by omega) (by omega)).mono fun e w'' ⟨q, he, h, hq⟩ => ⟨_, he, h, q, rfl, hq⟩
                    · obtain ⟨_, _, _, q, (hv1 : vals 1 = _), hq⟩ := hdep 1 rfl (by kernel_rfl)
                      rw [hv1]
                      go_simp
                      have h := Decode_any q b dn x.xs y.a y.c W hq HF.out.ob hdl (by rw [← HYc.out]; exact RowAt.later HSi.out hW) (by rw [← HYc.out]; exact HYl.out) (by omega) HXb.out
                      rw [← HYc.out] at h
                      exact h.mono fun e w'' ⟨a, c, u, he, h1, h2⟩ => ⟨_, he, h1, a, c, u, rfl, h2⟩
                    · obtain ⟨_, _, _, a, c, u, (hv : vals 11 = _), h2⟩ := hdep 11 rfl (by kernel_rfl)
                      rw [hv]
                      go_simp
                      exact ⟨Below.refl _ _, a, c, u, rfl, h2⟩
                    · obtain ⟨_, _, _, a, c, u, (hv : vals 12 = _), h2⟩ := hdep 12 rfl (by kernel_rfl)
                      rw [hv]
                      go_simp
                      exact ⟨Below.refl _ _, a, c, u, rfl, h2⟩
                    · obtain ⟨_, _, _, a, c, u, (hv : vals 12 = _), h2⟩ := hdep 12 rfl (by kernel_rfl)
                      rw [hv]
                      go_simp
                      exact ⟨Below.refl _ _, a, c, u, rfl, h2⟩
                    · obtain ⟨_, _, _, a, c, u, (hv : vals 12 = _), h2⟩ := hdep 12 rfl (by kernel_rfl)
                      rw [hv]
                      go_simp
                      exact ⟨Below.refl _ _, rfl⟩
                    · obtain ⟨_, _, _, a, c, u, (hv : vals 13 = _), h2⟩ := hdep 13 rfl (by kernel_rfl)
                      rw [hv]
                      go_simp
                      exact ⟨Below.refl _ _, a, c, u, rfl, h2⟩
                    · obtain ⟨_, _, _, a, c, u, (hv : vals 14 = _), h2⟩ := hdep 14 rfl (by kernel_rfl)
                      rw [hv]
                      go_simp
                      exact ⟨Below.refl _ _, a, c, u, rfl, h2⟩
                  · intro i o hi hown ho vals lo hi' W hW hdep
                    simp only [List.contains_cons, List.contains_nil, Bool.or_false] at hi
                    (try simp only [Bool.or_eq_true] at hi)
                    simp only [beq_iff_eq] at hi
                    rcases hi with rfl | rfl | rfl | rfl | rfl | rfl | rfl | rfl
                    all_goals first
                      | exact absurd (by decide) hown
                      | (simp only [List.getElem?_cons_succ, List.getElem?_cons_zero, Option.some.injEq] at ho; subst ho; refine ⟨rfl, ?_⟩; simp only [Fat.putN, Fat.dstOf, Act.put, List.getElem?_toArray, List.getElem?_cons_succ, List.getElem?_cons_zero, Option.bind_some, List.setIfInBounds_toArray, List.set_cons_succ, List.set_cons_zero]; (try simp only [Option.bind_none]))
                  · intro vals lo hi' w12 hb12 hphi hdis htied
                    obtain ⟨_, _, _, ra, rc, _, (g16 : vals 16 = _), hri⟩ := hphi 16 rfl
                    obtain ⟨_, _, _, (g15 : vals 15 = _)⟩ := hphi 15 rfl
                    simp only [Fat.putN, Fat.dstOf, Act.put, List.getElem?_toArray, List.getElem?_cons_succ, List.getElem?_cons_zero, Option.bind_some, List.setIfInBounds_toArray, List.set_cons_succ, List.set_cons_zero, List.drop_succ_cons, List.drop_zero]
                    rw [g15, g16]
                    have HRi := Lib.hid hri
                    replace f1 := (hb12.cell (p := ⟨pb1, po1 + k, none⟩) z3).trans f1
                    replace z3 := block_lt_of_cell f1
                    replace HPi := Lib.hid (RowAt.later HPi.out hb12)
                    clear g15 g16 hphi hdis htied hri c3 t3 f0 z2
                    generalize vals 1 = x1 at *
                    generalize vals 11 = x11 at *
                    generalize vals 12 = x12 at *
                    generalize vals 13 = x13 at *
                    generalize vals 14 = x14 at *
                    generalize vals 17 = x17 at *
                    replace hW := over hWr hb12
                    replace hW1 := over hW1 hb12
                    replace B3 := B3.later hb12
                    clear hb12 hWr
                    go_wp2_with fail
                    refine (same4_any x.xs x.xs ra x.a rc x.c _ HRi.out HPi.out (by omega) (by omega)).mono ?_
                    rintro e w13 ⟨rfl, hb13⟩
                    rw [show decide (x.xs = x.xs) = true by simp]
                    replace hW := over hW hb13
                    replace hW1 := over hW1 hb13
                    replace B3 := B3.later hb13
                    clear hb13 f1 z3
                    go_wp2_with fail
                    rw [HBn.out]
                    go_roundw
                    case rel => exact ⟨k + 1, by omega, by go_num, rfl, hW, hW1, B3⟩
                    case measure => first | omega | (simp [intOf]; omega)
          · obtain rfl : k = p.sends.length := by omega
            clear hk hlt
            go_wp2_with fail
            refine (once_any _).mono ?_
            rintro e w12 ⟨rfl, hb12⟩
            replace hW := over hW hb12
            clear hb12 hW1 B3
            go_wp2_with fail
            go_ret
            exact ⟨rfl, hW⟩
end Go.Proofs.Ytbphpeoddifkfaa
