/- Layer 5, the walks: a truth picked by words (the list). -/
import Derived.Test.YtbphpeoddifkfaaOP5
open Go.RowKit
namespace Go.Proofs.Ytbphpeoddifkfaa
open Go.Once

/-- What the legs of a route take, or nothing, if the copy is lost. -/
def OkTakes (r : Rt) (xs : List Int) : Prop := (r.lossy = true ∧ xs = []) ∨ (xs.length = r.legs.length ∧ ∀ (i : Nat) (lg : Lg) (n : Int), r.legs[i]? = some lg → xs[i]? = some n → lg.lo ≤ n ∧ n ≤ lg.hi)
def OkRow (rs : List Rt) (l : List (List Int)) : Prop := l.length = rs.length ∧ ∀ (k : Nat) (r : Rt) (xs : List Int), rs[k]? = some r → l[k]? = some xs → OkTakes r xs
def Shaped (p : Ps) (t : List (List (List Int))) : Prop := t.length = p.sends.length ∧ ∀ l ∈ t, OkRow p.routes l

/-! ### Lists of lists of the call's own -/
def IvO (W : World) (n0 : Nat) (x : IV) : Prop := Own W n0 3 1 (.slice x.a x.xs.length x.c) (ivs x.xs)
structure TvO (W : World) (n0 : Nat) (x : TV) : Prop where
  row : Own W n0 23 1 (.slice x.a x.ls.length x.c) (x.ls.map IV.vs)
  ls : ∀ l ∈ x.ls, IvO W n0 l
section
variable {W W' : World} {n0 n1 : Nat} {x : TV}
theorem TvO.keep (h : TvO W n0 x) (h1 : KeepT 23 W W') (h2 : KeepT 3 W W') : TvO W' n0 x := ⟨h.row.keep h1, fun l hl => Own.keep (h.ls l hl) h2⟩
theorem TvO.later (h : TvO W n0 x) (hb : Below W.heap.size W W') : TvO W' n0 x := h.keep (KeepT.later hb) (KeepT.later hb)
theorem TvO.mono (h : TvO W n1 x) (hn : n0 ≤ n1) : TvO W n0 x := ⟨h.row.mono hn, fun l hl => Own.mono (h.ls l hl) hn⟩
theorem TvO.at (h : TvO W n0 x) : TvAt W x := ⟨h.row.rowAt.2.2, fun l hl => (Own.rowAt (h.ls l hl)).2.2⟩
end

def betwSpec (lo hi : Int) : Fat.Spec := fun v _ _ _ => Betw lo hi v
def oneBetwSpec (lo hi : Int) (T : TypeId) : Fat.Spec := fun v l h w => v = .slice (some ⟨l, 0, none⟩) 1 1 ∧ l < h ∧ ∃ n : Int, Box w l #[.int .i64 n] T ∧ lo ≤ n ∧ n ≤ hi
theorem betwSpec_lasting (lo hi : Int) : Fat.Lasting (betwSpec lo hi) := fun _ _ _ _ _ _ _ h => h
theorem oneBetwSpec_lasting (lo hi : Int) (T : TypeId) : Fat.Lasting (oneBetwSpec lo hi T) := fun _ _ _ _ _ hb _ h => ⟨h.1, h.2.1, let ⟨n, h1, h2⟩ := h.2.2; ⟨n, h1.later hb, h2⟩⟩
theorem oneBetwSpec_new {w : World} {lo hi n : Int} (T : TypeId) (h : lo ≤ n ∧ n ≤ hi) :
    Below w.heap.size w (w.alloc (.cells #[.int .i64 n] T)) ∧ oneBetwSpec lo hi T (.slice (some ⟨w.heap.size, 0, none⟩) 1 1) w.heap.size (w.heap.size + 1) (w.alloc (.cells #[.int .i64 n] T)) :=
  ⟨al (Below.refl _ _) _, rfl, by simp, n, Box.new w _ T, h⟩
def takeSpec (l : Lg) (i : Nat) : Fat.Spec := if i = 19 then betwSpec 0 65535 else if i = 20 then betwSpec 0 65535 else if i = 21 then betwSpec l.lo l.hi else oneBetwSpec l.lo l.hi 3
theorem takeSpec_lasting (l : Lg) (i : Nat) : Fat.Lasting (takeSpec l i) := by
  unfold takeSpec
  (repeat' split) <;> first | exact betwSpec_lasting _ _ | exact oneBetwSpec_lasting _ _ _

/-- The list is one of p, up to k routes. -/
def RowTo (rs : List RtV) (k : Nat) (ls : List IV) : Prop := ls.length = k ∧ ∀ (i : Nat) (x : RtV) (y : IV), rs[i]? = some x → ls[i]? = some y → OkTakes x.rt y.xs
theorem RowTo.succ {rs : List RtV} {k : Nat} {ls : List IV} (h : RowTo rs k ls) {x : RtV} (hx : rs[k]? = some x) {y : IV} (hy : OkTakes x.rt y.xs) : RowTo rs (k + 1) (ls ++ [y]) := by
  refine ⟨by simp [h.1], fun i a b ha hb => ?_⟩
  by_cases hi : i < ls.length
  · rw [List.getElem?_append_left hi] at hb
    exact h.2 i a b ha hb
  · have h1 : i = k := by
      have := (List.getElem?_eq_some_iff.1 hb).1
      simp at this; have := h.1; omega
    subst h1
    rw [hx] at ha; cases ha
    rw [List.getElem?_append_right (by omega), h.1] at hb
    simp at hb; subst hb; exact hy
theorem RowTo.all {rs : List RtV} {ls : List IV} (h : RowTo rs rs.length ls) : OkRow (rs.map RtV.rt) (ls.map (·.xs)) := by
  refine ⟨by simp [h.1], fun k r xs hr hx => ?_⟩
  rw [List.getElem?_map] at hr hx
  obtain ⟨x, hx', rfl⟩ := Option.map_eq_some_iff.1 hr
  obtain ⟨y, hy', rfl⟩ := Option.map_eq_some_iff.1 hx
  exact h.2 k x y hx' hy'
def TakesTo (ls : List LgV) (k : Nat) (xs : List Int) : Prop := xs.length = k ∧ ∀ (i : Nat) (x : LgV) (n : Int), ls[i]? = some x → xs[i]? = some n → x.lg.lo ≤ n ∧ n ≤ x.lg.hi
theorem TakesTo.succ {ls : List LgV} {k : Nat} {xs : List Int} (h : TakesTo ls k xs) {x : LgV} (hx : ls[k]? = some x) {n : Int} (hn : x.lg.lo ≤ n ∧ n ≤ x.lg.hi) : TakesTo ls (k + 1) (xs ++ [n]) := by
  refine ⟨by simp [h.1], fun i a b ha hb => ?_⟩
  by_cases hi : i < xs.length
  · rw [List.getElem?_append_left hi] at hb
    exact h.2 i a b ha hb
  · have h1 : i = k := by
      have := (List.getElem?_eq_some_iff.1 hb).1
      simp at this; have := h.1; omega
    subst h1
    rw [hx] at ha; cases ha
    rw [List.getElem?_append_right (by omega), h.1] at hb
    simp at hb; subst hb; exact hn
theorem TakesTo.ok {x : RtV} {xs : List Int} (h : TakesTo x.legs x.legs.length xs) : OkTakes x.rt xs := by
  refine .inr ⟨by simp [RtV.rt, h.1], fun i lg n hl hn => ?_⟩
  simp only [RtV.rt, List.getElem?_map] at hl
  obtain ⟨y, hy, rfl⟩ := Option.map_eq_some_iff.1 hl
  exact h.2 i y n hy hn

/-- It returns a truth of its own, of p's form. -/
def RetPicked (p : Ps) (w : World) (e : Ending) (w' : World) : Prop := ∃ a c vs t, e = .returned (.slice a vs.length c) ∧ Below w.heap.size w w' ∧ TruthAt w' a vs t ∧ Shaped p t

set_option maxRecDepth 100000 in
set_option maxHeartbeats 8000000 in
theorem picked_any (q : PV) (p : Ps) (l : List Nat) (wa : Option Addr) (wk : Nat) (w : World) (hB : PostAt w q p) (ho : p.Ok) (hw : WordsAt w wa l) (hw0 : 0 < l.length) (hwl : l.length ≤ 9223372036854775807) (hwb : ∀ n ∈ l, n < 65536) :
    Calls Try.prog 14 #[postV q p, .slice wa l.length wk] w (RetPicked p w) := by
  have HB := Lib.hid hB
  have HWd := Lib.hid hw
  have HWb := Lib.hid hwb
  have hrl : q.rs.length = p.routes.length := by rw [← hB.eq]; simp
  have hs4 := ho.s4
  have hr3 : q.rs.length ≤ 3 := by rw [hrl]; exact ho.r3
  have HRt : Hid (∀ x ∈ q.rs, x.legs.length ≤ 3 ∧ ∀ l ∈ x.legs, l.lg.Ok) := fun x hx => by
    have h := ho.routes x.rt (by rw [← hB.eq]; exact List.mem_map_of_mem hx)
    exact ⟨by simpa [RtV.rt] using h.l3, fun l hl => h.legs l.lg (by simp only [RtV.rt]; exact List.mem_map_of_mem hl)⟩
  clear hB hw hwb ho hrl
  go_enter Try.func14, Try.ntmps14
  go_upto_region 1 with fail
  refine named1 (p := Code.wp _ _ _ _) ?_
  intro W hW B2
  go_wp2_with fail
  go_loopw [5, 6] (fun v i wr => ∃ (k : Nat) (vs : List TV), k ≤ p.sends.length ∧ i = .int .i64 k ∧ Below w.heap.size w wr ∧ Box wr w.heap.size #[.slice q.a1 p.sends.length q.c1, .slice q.a2 q.rs.length q.c2, .int .i64 p.pat] 28 ∧ Own wr w.heap.size 35 1 v (vs.map TV.vs) ∧ (∀ x ∈ vs, TvO wr w.heap.size x) ∧ vs.length = k ∧ ∀ x ∈ vs, RowTo q.rs q.rs.length x.ls) (fun _ i _ => p.sends.length - (intOf i).toNat)
  case atStart => exact ⟨0, [], Nat.zero_le _, rfl, hW, B2, Own.nil _ _ _ _, by simp, rfl, by simp⟩
  case round =>
    clear hW B2 W
    obtain ⟨k, vs, hk, rfl, hW, B2, hO, hV, hvl, hR⟩ := hrel
    have HO := Lib.hid hO
    have HV := Lib.hid hV
    have HVl := Lib.hid hvl
    have HR := Lib.hid hR
    clear hO hV hvl hR
    have c2 := B2.cell; have t2 := B2.lt
    by_cases hlt : k < p.sends.length
    · go_wp2_with fail
      obtain ⟨w0, hw0'⟩ : ∃ w0, w0 = wr := ⟨_, rfl⟩
      have hsame : Below wr.heap.size wr wr := Below.refl _ _
      rw [← hw0'] at HO HV
      rw [show Below wr.heap.size wr wr = Below w0.heap.size w0 wr by rw [hw0']] at hsame
      have hW0 := hW
      rw [← hw0'] at hW0
      have HW0 := Lib.hid hW0
      clear hw0' hW0 c2 t2
      go_loopw [7, 8] (fun v i wi => ∃ (m : Nat) (ls : List IV), m ≤ q.rs.length ∧ i = .int .i64 m ∧ Below w.heap.size w wi ∧ Below w0.heap.size w0 wi ∧ Box wi w.heap.size #[.slice q.a1 p.sends.length q.c1, .slice q.a2 q.rs.length q.c2, .int .i64 p.pat] 28 ∧ Own wi w0.heap.size 23 1 v (ls.map IV.vs) ∧ (∀ x ∈ ls, IvO wi w0.heap.size x) ∧ RowTo q.rs m ls) (fun _ i _ => q.rs.length - (intOf i).toNat)
      case atStart => exact ⟨0, [], Nat.zero_le _, rfl, hW, hsame, B2, Own.nil _ _ _ _, by simp, rfl, by simp⟩
      case round =>
        clear hW hsame B2
        obtain ⟨m, ls, hm, rfl, hW, hW0, B2, hO2, hL2, hR2⟩ := hrel
        have HO2 := Lib.hid hO2
        have HL2 := Lib.hid hL2
        have HR2 := Lib.hid hR2
        clear hO2 hL2 hR2
        have c2 := B2.cell; have t2 := B2.lt
        by_cases hmt : m < q.rs.length
        · go_wp2_with fail
          refine (word5_any l wa wk (4 * k + m) _ (RowAt.later HWd.out hW) hw0 hwl HWb.out (by omega)).mono ?_
          rintro e w2 ⟨_, rfl, hb2, n, rfl, hn0, hn1⟩
          replace HO2 := Lib.hid (HO2.out.later hb2)
          replace HL2 := Lib.hid (fun x hx => Own.later (HL2.out x hx) hb2)
          replace hW0 := over hW0 hb2
          replace hW := over hW hb2; (try clear c2 t2); replace B2 := B2.later hb2; have c2 := B2.cell; have t2 := B2.lt; clear hb2 
          obtain ⟨x, hx⟩ : ∃ x, q.rs[m]? = some x := ⟨q.rs[m], by simp⟩
          have hxr := HRt.out x (List.mem_of_getElem? hx)
          obtain ⟨pb, po, ea, e0, e1, z1, hRx⟩ := (HB.out.later hW).route hx
          have HX := Lib.hid hx
          rw [ea] at c2
          have HEa := Lib.hid ea
          have r1 : (0 : Int) ≤ (m : Int) := by omega
          have r2 : (m : Int) < (q.rs.length : Int) := by omega
          have HRx := Lib.hid hxr
          clear hx hRx hxr ea
          go_upto_region 10 with fail
          go_cut [42] (fun s42 wx => ∃ z : Bool, s42 = .bool z ∧ (z = true → x.lossy = true) ∧ wx = w2)
          case first =>
            obtain ⟨lv, hlv⟩ : ∃ lv, x.lossy = lv := ⟨_, rfl⟩
            rw [hlv] at e1
            have HLv := Lib.hid hlv
            clear hlv
            cases lv with
            | true =>
              go_wp2_with fail
              all_goals
                go_meet
                exact ⟨_, rfl, fun _ => HLv.out, rfl⟩
            | false =>
              go_wp2_with fail
              go_meet
              exact ⟨_, rfl, (fun h => by simp at h), rfl⟩
          case rest =>
          obtain ⟨zv, rfl, hz, rfl⟩ := hcut
          have HZ := Lib.hid hz
          clear hz
          cases zv with
          | true =>
            clear e0 e1 z1
            go_wp2_with (at_builtin; refine named1 (p := wpList _ _ _ _ _) ?_; intro w9 hb9 B9; have hO9 := HO2.out.later hb9; refine wpList_grow rfl (.tmp 43) (.tmp 44) 35 rfl elem_ints rfl hO9 rfl B9 rfl (by decide) rfl (n := m) (by simp [HR2.out.1]) (by omega) (by decide) (Nat.le_trans hW0.size hb9.size) ?_; intro a' c' W' hO' hb' hg'; have HO' := Lib.hid hO'; have HL' := Lib.hid (fun y hy => Own.keep (Own.later (HL2.out y hy) hb9) (KeepT.grown hO9 (by decide) hg')); replace B2 := (B2.later hb9).keep (KeepT.grown hO9 (by decide) hg'); replace hW0 := (over hW0 hb9).trans hb'; replace hW := (over hW hb9).trans (hb'.mono HW0.out.size); clear c2 t2 HO2 HL2 hO' hb' hg' hO9 hb9 B9)
            go_roundw
            case rel =>
              refine ⟨m + 1, ls ++ [⟨none, 0, []⟩], by omega, by go_num, hW, hW0, B2, ?_, fun y hy => ?_, HR2.out.succ HX.out (.inl ⟨HZ.out (by trivial), rfl⟩)⟩
              · rw [List.map_append]; exact HO'.out
              · rcases List.mem_append.1 hy with hy | hy
                · exact HL'.out y hy
                · simp at hy; subst hy; exact Own.nil _ _ _ _
            case measure => first | omega | (simp [intOf]; omega)
          | false =>
            clear HZ
            clear e0 e1 z1 c2 t2
            go_wp2_with fail
            have hW1 : Below wc.heap.size wc wc := Below.refl _ _
            go_loopw [10, 11] (fun v i wj => ∃ (j : Nat) (xs : List Int), j ≤ x.legs.length ∧ i = .int .i64 j ∧ Below w.heap.size w wj ∧ Below wc.heap.size wc wj ∧ Box wj w.heap.size #[.slice q.a1 p.sends.length q.c1, .slice q.a2 q.rs.length q.c2, .int .i64 p.pat] 28 ∧ Own wj wc.heap.size 3 1 v (ivs xs) ∧ TakesTo x.legs j xs) (fun _ i _ => x.legs.length - (intOf i).toNat)
            case atStart => exact ⟨0, [], Nat.zero_le _, rfl, hW, hW1, B2, Own.nil _ _ _ _, rfl, by simp⟩
            case round =>
              have HW2 := Lib.hid hW.size
              clear hW hW1 B2
              obtain ⟨j, xs, hj, rfl, hW, hW1, B2, hO3, hT3⟩ := hrel
              have HO3 := Lib.hid hO3
              have HT3 := Lib.hid hT3
              clear hO3 hT3
              obtain ⟨pb, po, ea, e0, e1, z1, hRx⟩ := (HB.out.later hW).route HX.out
              have c2 := B2.cell; have t2 := B2.lt
              rw [ea] at c2
              clear ea e1
              by_cases hjt : j < x.legs.length
              · obtain ⟨y, hy⟩ : ∃ y, x.legs[j]? = some y := ⟨x.legs[j], by simp⟩
                obtain ⟨lb, lo, ex, f0, f1, _, z2, _⟩ := hRx.leg hy
                have hyo := (HRx.out.2 y (List.mem_of_getElem? hy)).tk
                have hx3 := HRx.out.1
                have HY := Lib.hid hy
                rw [ex] at e0
                clear hy ex hRx
                have r3 : (0 : Int) ≤ (j : Int) := by omega
                have r4 : (j : Int) < (x.legs.length : Int) := by omega
                have hWr := hW
                go_upto_region 16 with fail
                refine Fat.wp_region0 23 [19, 20, 21, 22] (takeSpec y.lg) (takeSpec_lasting y.lg) (by kernel_rfl) (by kernel_rfl) ?_
                simp only [List.take_succ_cons, List.take_zero, Fat.pick, List.contains_cons, List.contains_nil, Nat.reduceAdd, Nat.reduceBEq]
                repeat (first | simp only [Bool.or_false] | simp only [Bool.or_true] | simp only [Bool.true_or] | simp only [Bool.false_eq_true] | simp only [if_true] | simp only [if_false])
                repeat (go_big_quiet_step (fail))
                refine wpQuiet_nil ?_
                refine ⟨?_, ?_, ?_⟩
                · intro i o hi hown ho vals lo hi' W hW hdep
                  simp only [List.contains_cons, List.contains_nil, Bool.or_false] at hi
                  (try simp only [Bool.or_eq_true] at hi)
                  simp only [beq_iff_eq] at hi
                  rcases hi with rfl | rfl | rfl | rfl
                  all_goals first
                    | exact absurd hown (by decide)
                    | (simp only [List.getElem?_cons_succ, List.getElem?_cons_zero, Option.some.injEq] at ho; subst ho; refine .inl ⟨rfl, ?_⟩; simp only [Fat.putN, Fat.dstOf, Act.put, List.getElem?_toArray, List.getElem?_cons_succ, List.getElem?_cons_zero, Option.bind_some, List.setIfInBounds_toArray, List.set_cons_succ, List.set_cons_zero])
                  · go_simp
                    exact (word5_any l wa wk _ W (RowAt.later HWd.out (over hWr hW)) hw0 hwl HWb.out (by omega)).mono fun e w'' ⟨v, he, h, hn⟩ => ⟨v, he, h, hn⟩
                  · obtain ⟨_, _, _, n1, (hv : vals 19 = _), hn2, hn3⟩ := hdep 19 rfl (by kernel_rfl)
                    have hdb : 0 ≤ n1.tdiv 3 ∧ n1.tdiv 3 ≤ 65535 := by rw [Int.tdiv_eq_ediv_of_nonneg hn2]; omega
                    rw [hv]
                    go_simp
                    rw [show IntKind.i64.wrap (n1.tdiv 3) = n1.tdiv 3 from IntWalk.i64_in _ (by omega)]
                    exact ⟨Below.refl _ _, _, rfl, hdb.1, hdb.2⟩
                  · obtain ⟨_, _, _, n1, (hv : vals 20 = _), hn2, hn3⟩ := hdep 20 rfl (by kernel_rfl)
                    rw [hv]
                    go_simp
                    exact (picked5_any ⟨y.lg.lo, y.lg.hi⟩ n1 W hyo hn2 hn3).mono fun e w'' ⟨v, he, h, hn⟩ => ⟨v, he, h, hn⟩
                  · obtain ⟨_, _, _, n1, (hv : vals 21 = _), hn2, hn3⟩ := hdep 21 rfl (by kernel_rfl)
                    rw [hv]
                    go_simp
                    exact oneBetwSpec_new _ ⟨hn2, hn3⟩
                · intro i o hi hown ho vals lo hi' W hW hdep
                  simp only [List.contains_cons, List.contains_nil, Bool.or_false] at hi
                  (try simp only [Bool.or_eq_true] at hi)
                  simp only [beq_iff_eq] at hi
                  rcases hi with rfl | rfl | rfl | rfl
                  all_goals first
                    | exact absurd (by decide) hown
                    | (simp only [List.getElem?_cons_succ, List.getElem?_cons_zero, Option.some.injEq] at ho; subst ho; refine ⟨rfl, ?_⟩; simp only [Fat.putN, Fat.dstOf, Act.put, List.getElem?_toArray, List.getElem?_cons_succ, List.getElem?_cons_zero, Option.bind_some, List.setIfInBounds_toArray, List.set_cons_succ, List.set_cons_zero]; (try simp only [Option.bind_none]))
                · intro vals lo' hi' w9 hb9 hphi hdis htied
                  obtain ⟨_, _, _, n19, (q19 : vals 19 = _), _⟩ := hphi 19 rfl
                  obtain ⟨_, _, _, n20, (q20 : vals 20 = _), _⟩ := hphi 20 rfl
                  obtain ⟨_, _, _, n21, (q21 : vals 21 = _), _⟩ := hphi 21 rfl
                  obtain ⟨_, _, _, (q22 : vals 22 = _), _, n22, (B79 : Box w9 (lo' 22) _ _), hn22⟩ := hphi 22 rfl
                  simp only [Fat.putN, Fat.dstOf, Act.put, List.getElem?_toArray, List.getElem?_cons_succ, List.getElem?_cons_zero, Option.bind_some, List.setIfInBounds_toArray, List.set_cons_succ, List.set_cons_zero, List.drop_succ_cons, List.drop_zero]
                  rw [q19, q20, q21, q22]
                  clear q19 q20 q21 q22 hphi hdis htied
                  generalize lo' 22 = b79 at *
                  have hO9 := HO3.out.later hb9
                  have HN := Lib.hid hn22
                  replace hW := over hWr hb9
                  replace hW1 := over hW1 hb9
                  replace B2 := B2.later hb9
                  clear c2 t2 e0 f0 f1 z1 z2 hWr hb9 HO3 hn22 hyo
                  refine wpList_grow rfl (.tmp 57) (.tmp 79) 23 rfl elem_int rfl hO9 rfl B79 rfl (by decide) rfl (n := j) (by simp [HT3.out.1]) (by omega) (by decide) hW1.size ?_
                  intro a' c' W' hO' hb' hg'
                  replace B2 := B2.keep (KeepT.grown hO9 (by decide) hg')
                  replace hW := hW.trans (hb'.mono HW2.out)
                  replace hW1 := hW1.trans hb'
                  have HO' := Lib.hid hO'
                  clear hO' hb' hg' hO9 B79
                  go_wp2_with fail
                  go_roundw
                  case rel =>
                    refine ⟨j + 1, xs ++ [n22], by omega, by go_num, hW, hW1, B2, ?_, HT3.out.succ HY.out HN.out⟩
                    rw [ivs, List.map_append]; exact HO'.out
                  case measure => first | omega | (simp [intOf]; omega)
              · obtain rfl : j = x.legs.length := by omega
                obtain ⟨ta, tc, rfl, _, _⟩ := HO3.out.row
                rw [show (ivs xs).length = xs.length from List.length_map _] at HO3 ⊢
                have hI0 := Own.mono HO3.out hW0.size
                have HI0 := Lib.hid (show IvO wr w0.heap.size ⟨ta, tc, xs⟩ from hI0)
                have HOk := Lib.hid HT3.out.ok
                replace HO2 := Lib.hid (HO2.out.later hW1)
                replace HL2 := Lib.hid (fun x hx => Own.later (HL2.out x hx) hW1)
                replace hW0 := over hW0 hW1
                clear hI0 HO3 HT3 hRx hj hjt hW1
                go_wp2_with (at_builtin; refine named1 (p := wpList _ _ _ _ _) ?_; intro w9 hb9 B9; have hO9 := HO2.out.later hb9; refine wpList_grow rfl (.tmp 81) (.tmp 83) 35 rfl elem_ints rfl hO9 rfl B9 rfl (by decide) rfl (n := m) (by simp [HR2.out.1]) (by omega) (by decide) (Nat.le_trans hW0.size hb9.size) ?_; intro a' c' W' hO' hb' hg'; have HO' := Lib.hid hO'; have HL' := Lib.hid (fun y hy => Own.keep (Own.later (HL2.out y hy) hb9) (KeepT.grown hO9 (by decide) hg')); have HI' := Lib.hid (Own.keep (Own.later HI0.out hb9) (KeepT.grown hO9 (by decide) hg')); replace B2 := (B2.later hb9).keep (KeepT.grown hO9 (by decide) hg'); replace hW0 := (over hW0 hb9).trans hb'; replace hW := (over hW hb9).trans (hb'.mono HW0.out.size); clear c2 t2 e0 z1 HO2 HL2 hO' hb' hg' hO9 hb9 B9 HI0)
                go_roundw
                case rel =>
                  refine ⟨m + 1, ls ++ [⟨ta, tc, xs⟩], by omega, by go_num, hW, hW0, B2, ?_, fun y hy => ?_, HR2.out.succ HX.out HOk.out⟩
                  · rw [List.map_append]; exact HO'.out
                  · rcases List.mem_append.1 hy with hy | hy
                    · exact HL'.out y hy
                    · simp at hy; subst hy; exact HI'.out
                case measure => first | omega | (simp [intOf]; omega)
        · obtain rfl : m = q.rs.length := by omega
          obtain ⟨la, lc, rfl, _, _⟩ := HO2.out.row
          rw [List.length_map] at HO2 ⊢
          have HT0 := Lib.hid (show TvO wr w.heap.size ⟨la, lc, ls⟩ from TvO.mono ⟨HO2.out, HL2.out⟩ HW0.out.size)
          replace HO := Lib.hid (HO.out.later hW0)
          replace HV := Lib.hid (fun x hx => (HV.out x hx).later hW0)
          clear HO2 HL2 hm hmt hW0
          go_wp2_with (at_builtin; refine named1 (p := wpList _ _ _ _ _) ?_; intro w9 hb9 B9; have hO9 := HO.out.later hb9; refine wpList_grow rfl (.tmp 85) (.tmp 87) 51 rfl elem_intss rfl hO9 rfl B9 rfl (by decide) rfl (n := k) (by simp [HVl.out]) (by omega) (by decide) (over hW hb9).size ?_; intro a' c' W' hO' hb' hg'; have HO' := Lib.hid hO'; have hK : ∀ E, 35 ≠ E → KeepT E w9 W' := fun E hE => KeepT.grown hO9 hE hg'; have HV' := Lib.hid (fun y hy => ((HV.out y hy).later hb9).keep (hK _ (by decide)) (hK _ (by decide))); have HT' := Lib.hid ((HT0.out.later hb9).keep (hK _ (by decide)) (hK _ (by decide))); replace B2 := (B2.later hb9).keep (hK _ (by decide)); replace hW := (over hW hb9).trans hb'; clear c2 t2 HO HV hO' hb' hg' hO9 hb9 B9 HT0 hK)
          go_roundw
          case rel =>
            refine ⟨k + 1, vs ++ [⟨la, lc, ls⟩], by omega, by go_num, hW, B2, ?_, fun y hy => ?_, by simp [HVl.out], fun y hy => ?_⟩
            · rw [List.map_append]; exact HO'.out
            · rcases List.mem_append.1 hy with hy | hy
              · exact HV'.out y hy
              · simp at hy; subst hy; exact HT'.out
            · rcases List.mem_append.1 hy with hy | hy
              · exact HR.out y hy
              · simp at hy; subst hy; exact HR2.out
          case measure => first | omega | (simp [intOf]; omega)
    · obtain rfl : k = p.sends.length := by omega
      obtain ⟨la, lc, rfl, _, hrow⟩ := HO.out.row
      rw [List.length_map]
      have HRow := Lib.hid hrow
      clear hrow hk hlt
      go_wp2_with fail
      go_ret
      refine ⟨la, lc, vs, _, rfl, hW, ⟨HRow.out, fun x hx => (HV.out x hx).at, rfl⟩, by simp [HVl.out], fun r hr => ?_⟩
      obtain ⟨x, hx, rfl⟩ := List.mem_map.1 hr
      have h := (HR.out x hx).all
      rw [HB.out.eq] at h
      exact h
end Go.Proofs.Ytbphpeoddifkfaa
