/- Layer 5, the walks: a post converted. -/
import Derived.Test.YtingfmdbihbamaaGreatOP3
open Go.RowKit
namespace Go.Proofs.YtingfmdbihbamaaGreat
namespace Cp
open Go.Once

/-! ### What a step leaves alone: all blocks of elements of a type -/

/-! ### A post of the call's own -/
def LgO (W : World) (n0 : Nat) (x : LgV) : Prop := Own W n0 66 2 (.slice x.a x.lg.as.length x.c) (x.lg.as.map Rg.vs)
structure RtO (W : World) (n0 : Nat) (x : RtV) : Prop where
  row : Own W n0 89 3 (.slice x.a x.legs.length x.c) (x.legs.map LgV.vs)
  legs : ∀ l ∈ x.legs, LgO W n0 l
section
variable {W W' : World} {n0 : Nat} {x : RtV}
theorem RtO.keep (h : RtO W n0 x) (h1 : KeepT 89 W W') (h2 : KeepT 66 W W') : RtO W' n0 x := ⟨h.row.keep h1, fun l hl => Own.keep (h.legs l hl) h2⟩
theorem RtO.later (h : RtO W n0 x) (hb : Below W.heap.size W W') : RtO W' n0 x := h.keep (KeepT.later hb) (KeepT.later hb)
theorem RtO.at (h : RtO W n0 x) : RtAt W x := ⟨h.row.rowAt.2.2, fun l hl => (Own.rowAt (h.legs l hl)).2.2⟩
end
/-- The post, converted up to k routes. -/
structure PoS (q : PV) (p : Ps) (w : World) (b3 : Nat) (sa : Option Addr) (sc k : Nat) (v : Value) (rs : List RtV) (wr : World) : Prop where
  W : Below w.heap.size w wr
  B1 : Box wr w.heap.size #[.slice q.a1 p.sends.length q.c1, .slice q.a2 q.rs.length q.c2, .int .i64 p.pat] 49
  B2 : Box wr (w.heap.size + 1) #[.slice none 0 0, .slice none 0 0, .int .i64 0] 61
  B3 : Box wr b3 #[.slice sa p.sends.length sc, v, .int .i64 p.pat] 61
  n3 : w.heap.size + 1 < b3
  S : Own wr w.heap.size 3 1 (.slice sa p.sends.length sc) (ivs p.sends)
  R : Own wr w.heap.size 92 2 v (rs.map RtV.vs)
  L : rs.length = k
  E : rs.map RtV.rt = (q.rs.take k).map RtV.rt
  O : ∀ x ∈ rs, RtO wr w.heap.size x
theorem PoS.later {q : PV} {p : Ps} {w : World} {b3 : Nat} {sa : Option Addr} {sc k : Nat} {v : Value} {rs : List RtV} {wr wr' : World} (h : PoS q p w b3 sa sc k v rs wr) (hb : Below wr.heap.size wr wr') : PoS q p w b3 sa sc k v rs wr' :=
  ⟨over h.W hb, h.B1.later hb, h.B2.later hb, h.B3.later hb, h.n3, h.S.later hb, h.R.later hb, h.L, h.E, fun x hx => (h.O x hx).later hb⟩

def postSpec (p : Ps) (n0 : Nat) (i : Nat) : Fat.Spec :=
  if i = 2 then ownSpec n0 3 1 (ivs p.sends) else if i = 5 then aggSpec (fun u => .agg #[u, .slice none 0 0, .int .i64 p.pat]) n0 3 1 (ivs p.sends) else newSpec 61 3
theorem postSpec_lasting (p : Ps) (n0 i : Nat) : Fat.Lasting (postSpec p n0 i) := by
  unfold postSpec
  (repeat' split) <;> first | exact ownSpec_lasting _ _ _ _ | exact aggSpec_lasting _ _ _ _ _ | exact newSpec_lasting _ _

/-- A row of one new element, of cells that hold a row of the call's own. -/
def oneAggSpec (f : Value → Array Value) (T : TypeId) (n0 : Nat) (E : TypeId) (size : Nat) (xs : List (List Value)) : Fat.Spec := fun v lo hi w => v = .slice (some ⟨lo, 0, none⟩) 1 1 ∧ lo < hi ∧ ∃ u, Box w lo (f u) T ∧ Own w n0 E size u xs
theorem oneAggSpec_lasting (f : Value → Array Value) (T : TypeId) (n0 : Nat) (E : TypeId) (size : Nat) (xs : List (List Value)) : Fat.Lasting (oneAggSpec f T n0 E size xs) := fun _ _ _ _ _ hb _ h =>
  ⟨h.1, h.2.1, let ⟨u, h1, h2⟩ := h.2.2; ⟨u, h1.later hb, h2.later hb⟩⟩
theorem oneAggSpec_new {w : World} (f : Value → Array Value) (T : TypeId) {n0 : Nat} {E : TypeId} {size : Nat} {xs : List (List Value)} {u : Value} (h : Own w n0 E size u xs) :
    Below w.heap.size w (w.alloc (.cells (f u) T)) ∧ oneAggSpec f T n0 E size xs (.slice (some ⟨w.heap.size, 0, none⟩) 1 1) w.heap.size (w.heap.size + 1) (w.alloc (.cells (f u) T)) :=
  ⟨al (Below.refl _ _) _, rfl, by simp, u, Box.new w _ T, h.later (al (Below.refl _ _) _)⟩
def legSpec (l : Lg) (n0 : Nat) (i : Nat) : Fat.Spec :=
  if i = 4 then isSpec (.agg #[.int .i64 l.lo, .int .i64 l.hi]) else if i = 7 then ownSpec n0 66 2 (l.as.map Rg.vs) else if i = 8 then aggSpec (fun u => .agg #[.int .i64 l.lo, .int .i64 l.hi, u]) n0 66 2 (l.as.map Rg.vs) else oneAggSpec (fun u => #[.int .i64 l.lo, .int .i64 l.hi, u]) 89 n0 66 2 (l.as.map Rg.vs)
theorem legSpec_lasting (l : Lg) (n0 i : Nat) : Fat.Lasting (legSpec l n0 i) := by
  unfold legSpec
  (repeat' split) <;> first | exact isSpec_lasting _ | exact ownSpec_lasting _ _ _ _ | exact aggSpec_lasting _ _ _ _ _ | exact oneAggSpec_lasting _ _ _ _ _ _

theorem thin_of {q q' : PV} {p : Ps} (h : Thin5 q p) (e : q'.rs.map RtV.rt = q.rs.map RtV.rt) : Thin5 q' p := by
  have hx : ∀ x ∈ q'.rs, ∃ y ∈ q.rs, y.legs.map (·.lg) = x.legs.map (·.lg) := fun x hx => by
    have h1 : x.rt ∈ q'.rs.map RtV.rt := List.mem_map_of_mem hx
    rw [e] at h1
    obtain ⟨y, hy, hxy⟩ := List.mem_map.1 h1
    exact ⟨y, hy, by simpa [RtV.rt] using congrArg Rt.legs hxy⟩
  refine ⟨h.l1, ?_, fun x hxm => ?_, fun x hxm l hl => ?_⟩
  · have := congrArg List.length e
    simp at this
    rw [this]; exact h.l2
  · obtain ⟨y, hy, h2⟩ := hx x hxm
    have := congrArg List.length h2
    simp at this
    rw [← this]; exact h.l3 y hy
  · obtain ⟨y, hy, h2⟩ := hx x hxm
    have h3 : l.lg ∈ x.legs.map (·.lg) := List.mem_map_of_mem hl
    rw [← h2] at h3
    obtain ⟨l', hl', h4⟩ := List.mem_map.1 h3
    rw [← h4]; exact h.l4 y hy l' hl'

/-- It returns a post of its own. -/
def RetPost (p : Ps) (w : World) (e : Ending) (w' : World) : Prop := ∃ q : PV, e = .returned (postV q p) ∧ Below w.heap.size w w' ∧ PostAt w' q p ∧ Thin5 q p
set_option maxRecDepth 100000 in
set_option maxHeartbeats 4000000 in
theorem post5_any (q : PV) (p : Ps) (w : World) (hB : PostAt w q p) (ht : Thin5 q p) : Calls Tryz.prog 12 #[postV q p] w (RetPost p w) := by
  have HB := Lib.hid hB
  have HT := Lib.hid ht
  obtain ⟨l1, l2, l3, l4⟩ := ht
  have H3 := Lib.hid l3
  have H4 := Lib.hid l4
  clear hB l3 l4
  go_enter Tryz.func12, Tryz.ntmps12
  go_wp2_with fail
  refine named2 (p := Code.wp _ _ _ _) ?_
  intro W hW B1 B2
  have c1 := B1.cell; have t1 := B1.lt
  have hWr := hW
  refine Fat.wp_region0 7 [2, 5, 6] (postSpec p w.heap.size) (postSpec_lasting p w.heap.size) (by kernel_rfl) (by kernel_rfl) ?_
  simp only [List.take_succ_cons, List.take_zero, Fat.pick, List.contains_cons, List.contains_nil, Nat.reduceAdd, Nat.reduceBEq]
  repeat (first | simp only [Bool.or_false] | simp only [Bool.or_true] | simp only [Bool.true_or] | simp only [Bool.false_eq_true] | simp only [if_true] | simp only [if_false])
  repeat (go_big_quiet_step (fail))
  refine wpQuiet_nil ?_
  refine ⟨?_, ?_, ?_⟩
  · intro i o hi hown ho vals lo hi' W hW hdep
    simp only [List.contains_cons, List.contains_nil, Bool.or_false] at hi
    (try simp only [Bool.or_eq_true] at hi)
    simp only [beq_iff_eq] at hi
    rcases hi with rfl | rfl | rfl
    all_goals first
      | exact absurd hown (by decide)
      | (simp only [List.getElem?_cons_succ, List.getElem?_cons_zero, Option.some.injEq] at ho; subst ho; refine .inl ⟨rfl, ?_⟩; simp only [Fat.putN, Fat.dstOf, Act.put, List.getElem?_toArray, List.getElem?_cons_succ, List.getElem?_cons_zero, Option.bind_some, List.setIfInBounds_toArray, List.set_cons_succ, List.set_cons_zero])
    · go_simp
      exact (list5_any p.sends q.a1 q.c1 W (HB.out.sends.later (over hWr hW)) (by omega)).mono fun e w'' ⟨v, he, h, ho⟩ => ⟨v, he, h, ho.mono (over hWr hW).size⟩
    · obtain ⟨_, _, _, (hv : Own _ _ _ _ (vals 2) _)⟩ := hdep 2 rfl (by kernel_rfl)
      obtain ⟨a7, c7, e7, _, _⟩ := hv.row
      rw [List.length_map] at e7
      rw [e7] at hv ⊢
      go_simp
      exact ⟨Below.refl _ _, _, rfl, hv⟩
    · go_simp
      exact newSpec_new _ _ _
  · intro i o hi hown ho vals lo hi' W hW hdep
    simp only [List.contains_cons, List.contains_nil, Bool.or_false] at hi
    (try simp only [Bool.or_eq_true] at hi)
    simp only [beq_iff_eq] at hi
    rcases hi with rfl | rfl | rfl
    all_goals first
      | exact absurd (by decide) hown
      | (simp only [List.getElem?_cons_succ, List.getElem?_cons_zero, Option.some.injEq] at ho; subst ho; refine ⟨rfl, ?_⟩; simp only [Fat.putN, Fat.dstOf, Act.put, List.getElem?_toArray, List.getElem?_cons_succ, List.getElem?_cons_zero, Option.bind_some, List.setIfInBounds_toArray, List.set_cons_succ, List.set_cons_zero]; (try simp only [Option.bind_none]))
  · intro vals lo hi' w5 hb5 hphi hdis htied
    obtain ⟨_, _, _, u, (v7 : vals 5 = _), hu⟩ := hphi 5 rfl
    obtain ⟨g1, _, g3, (v8 : vals 6 = _), g4, c8, (B3 : Box w5 (lo 6) c8 _), hc8⟩ := hphi 6 rfl
    obtain ⟨da, dc, e7, hdl, _⟩ := hu.row
    rw [List.length_map] at e7 hdl
    subst e7
    simp only [Fat.putN, Fat.dstOf, Act.put, List.getElem?_toArray, List.getElem?_cons_succ, List.getElem?_cons_zero, Option.bind_some, List.setIfInBounds_toArray, List.set_cons_succ, List.set_cons_zero, List.drop_succ_cons, List.drop_zero]
    rw [v7, v8]
    clear hphi hdis htied v7 v8
    generalize vals 2 = x6 at *
    generalize lo 6 = b3 at *
    have n1 : w.heap.size ≠ b3 := by omega
    have n2 : w.heap.size + 1 < b3 := by have := B2.lt; omega
    have n3 : w.heap.size ≤ b3 := by omega
    clear c1 t1 g1 g3 g4
    replace B1 := B1.later hb5
    replace B2 := B2.later hb5
    replace hW := over hWr hb5
    have hD := hu
    clear hu hWr hb5
    refine wpList_store_box rfl rfl 61 (.tmp 3) (.tmp 13) rfl _ #[.slice da p.sends.length dc, .slice none 0 0, .int .i64 p.pat] rfl rfl B3 hc8 (by kernel_rfl) rfl ?_
    intro V C3 but3
    have hPo : PoS q p w b3 da dc 0 (.slice none 0 0) [] V := ⟨but3.below hW n3, but3.box B1 n1, but3.box B2 (by omega), C3, n2, hD.other B3 (by decide) but3, Own.nil _ _ _ _, rfl, by simp, by simp⟩
    clear but3 B3 hc8 hD B1 B2 C3 hW
    go_wp2_with fail
    go_loopw [4] (fun i wr => ∃ (k : Nat) (v : Value) (rs : List RtV), k ≤ q.rs.length ∧ i = .int .i64 k ∧ PoS q p w b3 da dc k v rs wr) (fun i _ => q.rs.length - (intOf i).toNat)
    case atStart => exact ⟨0, _, _, Nat.zero_le _, rfl, hPo⟩
    case round =>
      clear hPo
      obtain ⟨k, v, rs, hk, rfl, hPo⟩ := hrel
      obtain ⟨c1, t1⟩ := And.intro hPo.B1.cell hPo.B1.lt
      have HPo := Lib.hid hPo
      clear hPo
      by_cases hlt : k < q.rs.length
      · obtain ⟨x, hx⟩ : ∃ x, q.rs[k]? = some x := ⟨q.rs[k], by simp⟩
        obtain ⟨pb, po, ea, e0, e1, z1, hR⟩ := (HB.out.later HPo.out.W).route hx
        have x3 := H3.out x (List.mem_of_getElem? hx)
        have HX4 := Lib.hid (H4.out x (List.mem_of_getElem? hx))
        have HR := Lib.hid hR
        have HX := Lib.hid hx
        rw [ea] at c1
        clear hx ea hR
        have r1 : (0 : Int) ≤ (k : Int) := by omega
        have r2 : (k : Int) < (q.rs.length : Int) := by omega
        go_upto_region 6 with fail
        refine named1 (p := Code.wp _ _ _ _) ?_
        intro W5 hb5 B5
        have HWw := Lib.hid (HPo.out.W.size)
        obtain ⟨w0, hw0⟩ : ∃ w0, w0 = wr := ⟨_, rfl⟩
        rw [← hw0] at hb5 B5 HPo HWw
        rw [← hw0]
        clear hw0 HR e0 e1 z1 c1 t1
        go_wp2_with fail
        go_loopw [6] (fun i wi => ∃ (m : Nat) (v2 : Value) (ls : List LgV), m ≤ x.legs.length ∧ i = .int .i64 m ∧ Below w0.heap.size w0 wi ∧ Box wi w0.heap.size #[v2, .bool x.lossy] 92 ∧ Own wi w0.heap.size 89 3 v2 (ls.map LgV.vs) ∧ ls.length = m ∧ ls.map (·.lg) = (x.legs.take m).map (·.lg) ∧ ∀ l ∈ ls, LgO wi w0.heap.size l) (fun i _ => x.legs.length - (intOf i).toNat)
        case atStart => exact ⟨0, _, [], Nat.zero_le _, rfl, hb5, B5, Own.nil _ _ _ _, rfl, by simp, by simp⟩
        case round =>
          clear hb5 B5 W5
          obtain ⟨m, v2, ls, hm, rfl, hW, B5, hO, hll, hle, hL⟩ := hrel
          have HO := Lib.hid hO
          have HLl := Lib.hid hll
          have HLe := Lib.hid hle
          have HL := Lib.hid hL
          have hPo := HPo.out.later hW
          have B1 := hPo.B1
          have hWw := hPo.W
          clear hO hll hle hL
          obtain ⟨pb, po, ea, e0, e1, z1, hR⟩ := (HB.out.later hPo.W).route HX.out
          clear hPo
          have c1 := B1.cell; have t1 := B1.lt; have c5 := B5.cell; have t5 := B5.lt
          by_cases hmt : m < x.legs.length
          · obtain ⟨l, hl⟩ : ∃ l, x.legs[m]? = some l := ⟨x.legs[m], by simp⟩
            obtain ⟨lb, lo, ex, f0, f1, f2, z2, hLg⟩ := hR.leg hl
            have x4 := HX4.out l (List.mem_of_getElem? hl)
            have HLx := Lib.hid hl
            have HLg := Lib.hid hLg
            rw [ea] at c1
            rw [ex] at e0
            clear hl hLg ex ea hR
            have r3 : (0 : Int) ≤ (m : Int) := by omega
            have r4 : (m : Int) < (x.legs.length : Int) := by omega
            go_upto_region 10 with fail
            refine named1 (p := Code.wp _ _ _ _) ?_
            intro W7 hb7 B7
            replace B5 := B5.later hb7
            replace HLg := Lib.hid (RowAt.later HLg.out hb7)
            replace HO := Lib.hid (HO.out.later hb7)
            replace hW := over hW hb7
            have HL7 := Lib.hid (fun l hl => Own.later (HL.out l hl) hb7)
            clear c1 t1 c5 t5 e0 e1 z1 f0 f1 f2 z2 B1 hWw hb7 HL
            have c5 := B5.cell; have t5 := B5.lt; have c7 := B7.cell; have t7 := B7.lt
            have hWr := hW
            refine Fat.wp_region0 10 [4, 7, 8, 9] (legSpec l.lg w0.heap.size) (legSpec_lasting l.lg w0.heap.size) (by kernel_rfl) (by kernel_rfl) ?_
            simp only [List.take_succ_cons, List.take_zero, Fat.pick, List.contains_cons, List.contains_nil, Nat.reduceAdd, Nat.reduceBEq]
            repeat (first | simp only [Bool.or_false] | simp only [Bool.or_true] | simp only [Bool.true_or] | simp only [Bool.false_eq_true] | simp only [if_true] | simp only [if_false])
            repeat (go_big_quiet_step (fail))
            refine wpQuiet_nil ?_
            refine ⟨?_, ?_, ?_⟩
            · intro i o hi hown ho vals lo hi' W hW hdep
              simp only [List.contains_cons, List.contains_nil, Bool.or_false] at hi
              (try simp only [Bool.or_eq_true] at hi)
              simp only [beq_iff_eq] at hi
              rcases hi with rfl | rfl | rfl | rfl
              all_goals first
                | exact absurd hown (by decide)
                | (simp only [List.getElem?_cons_succ, List.getElem?_cons_zero, Option.some.injEq] at ho; subst ho; refine .inl ⟨rfl, ?_⟩; simp only [Fat.putN, Fat.dstOf, Act.put, List.getElem?_toArray, List.getElem?_cons_succ, List.getElem?_cons_zero, Option.bind_some, List.setIfInBounds_toArray, List.set_cons_succ, List.set_cons_zero])
              · go_simp
                exact (to5_any ⟨l.lg.lo, l.lg.hi⟩ W).mono fun e w'' ⟨he, h⟩ => ⟨_, he, h, rfl⟩
              · go_simp
                exact (spans5_any l.lg.as l.a l.c W (RowAt.later HLg.out hW) (by omega)).mono fun e w'' ⟨v, he, h, ho⟩ => ⟨v, he, h, ho.mono (over hWr hW).size⟩
              · obtain ⟨_, _, _, (hv4 : vals 4 = _)⟩ := hdep 4 rfl (by kernel_rfl)
                obtain ⟨_, _, _, (hv : Own _ _ _ _ (vals 7) _)⟩ := hdep 7 rfl (by kernel_rfl)
                obtain ⟨a7, c7, e7, _, _⟩ := hv.row
                rw [List.length_map] at e7
                rw [hv4, e7]
                rw [e7] at hv
                go_simp
                exact ⟨Below.refl _ _, _, rfl, hv⟩
              · obtain ⟨_, _, _, u8, (hv8 : vals 8 = _), hu8⟩ := hdep 8 rfl (by kernel_rfl)
                obtain ⟨a7, c7, e7, _, _⟩ := hu8.row
                rw [List.length_map] at e7
                rw [e7] at hv8 hu8
                rw [hv8]
                go_simp
                exact oneAggSpec_new (fun u => #[.int .i64 l.lg.lo, .int .i64 l.lg.hi, u]) _ hu8
            · intro i o hi hown ho vals lo hi' W hW hdep
              simp only [List.contains_cons, List.contains_nil, Bool.or_false] at hi
              (try simp only [Bool.or_eq_true] at hi)
              simp only [beq_iff_eq] at hi
              rcases hi with rfl | rfl | rfl | rfl
              all_goals first
                | exact absurd (by decide) hown
                | (simp only [List.getElem?_cons_succ, List.getElem?_cons_zero, Option.some.injEq] at ho; subst ho; refine ⟨rfl, ?_⟩; simp only [Fat.putN, Fat.dstOf, Act.put, List.getElem?_toArray, List.getElem?_cons_succ, List.getElem?_cons_zero, Option.bind_some, List.setIfInBounds_toArray, List.set_cons_succ, List.set_cons_zero]; (try simp only [Option.bind_none]))
            · intro vals lo' hi' w9 hb9 hphi hdis htied
              obtain ⟨_, _, _, (q4 : vals 4 = _)⟩ := hphi 4 rfl
              obtain ⟨_, _, _, u8, (q8 : vals 8 = _), _⟩ := hphi 8 rfl
              obtain ⟨_, _, _, (q9 : vals 9 = _), _, u, (B57 : Box w9 (lo' 9) _ _), hu⟩ := hphi 9 rfl
              obtain ⟨ua, uc, eu, hucl, _⟩ := hu.row
              rw [List.length_map] at eu hucl
              subst eu
              simp only [Fat.putN, Fat.dstOf, Act.put, List.getElem?_toArray, List.getElem?_cons_succ, List.getElem?_cons_zero, Option.bind_some, List.setIfInBounds_toArray, List.set_cons_succ, List.set_cons_zero, List.drop_succ_cons, List.drop_zero]
              rw [q4, q8, q9]
              clear q4 q8 q9 hphi hdis htied
              generalize vals 7 = x7 at *
              generalize lo' 9 = b57 at *
              have hO9 := HO.out.later hb9
              replace hW := over hWr hb9
              replace B5 := B5.later hb9
              have HL9 := Lib.hid (fun l hl => Own.later (HL7.out l hl) hb9)
              clear c5 t5 c7 t7 B7 hWr hb9 HLg HO HL7
              have hlm := HLl.out
              refine wpList_grow rfl (.tmp 49) (.tmp 57) 90 rfl elem_lg rfl hO9 rfl B57 rfl (by decide) rfl (n := m) (by simp; exact hlm) (by omega) (by decide) hW.size ?_
              intro a' c' W' hO' hb' hg'
              have k5 : KeepT 92 w9 W' := KeepT.grown hO9 (by decide) hg'
              have k6 : KeepT 66 w9 W' := KeepT.grown hO9 (by decide) hg'
              replace B5 := B5.keep k5
              have hu' := hu.keep k6
              replace HL9 := Lib.hid (fun l hl => Own.keep (HL9.out l hl) k6)
              replace hW := hW.trans hb'
              have HU := Lib.hid hu'
              have HO' := Lib.hid hO'
              clear k5 k6 hO' hu hu' hb' hg' hlm hO9 B57
              have f5 := B5.frozen
              have c5 := B5.cell; have t5 := B5.lt
              go_wp2_with fail
              go_roundw
              case rel =>
                have hbut := setCell_but W' w0.heap.size 0 (.slice a' (m + 1) c')
                have k6 : KeepT 66 W' _ := KeepT.but B5 (by decide) hbut
                refine ⟨m + 1, _, ls ++ [⟨ua, uc, l.lg⟩], by omega, by go_num, hbut.below hW (Nat.le_refl _), setCell_box B5 0 _, ?_, by simp [HLl.out], ?_, fun y hy => ?_⟩
                · rw [List.map_append]
                  exact HO'.out.other B5 (by decide) hbut
                · rw [List.map_append, HLe.out, take_map_succ HLx.out]; rfl
                · rcases List.mem_append.1 hy with hy | hy
                  · exact Own.keep (HL9.out y hy) k6
                  · simp at hy; subst hy; exact HU.out.keep k6
              case measure => first | omega | (simp [intOf]; omega)
          · obtain rfl : m = x.legs.length := by omega
            rw [ea] at c1
            clear ea e1 hR hm hmt B1
            have hPo := HPo.out.later hW
            obtain ⟨va, vc, rfl, hvc, _⟩ := HO.out.row
            rw [List.length_map] at hvc
            simp only [List.length_map] at HO B5 c5
            obtain ⟨c3, t3⟩ := And.intro hPo.B3.cell hPo.B3.lt
            have HPo1 := Lib.hid hPo
            clear hPo
            go_wp2_with (at_builtin; refine named1 (p := wpList _ _ _ _ _) ?_; intro w9 hb9 B63; have hP9 := HPo1.out.later hb9; refine wpList_grow rfl (.tmp 61) (.tmp 63) 59 rfl elem_rt rfl hP9.R rfl B63 rfl (by decide) rfl (n := k) (by simp [hP9.L]) (by omega) (by decide) hP9.W.size ?_; intro a' c' W' hO' hb' hg'; have hK : ∀ E, 92 ≠ E → KeepT E w9 W' := fun E hE => KeepT.grown hP9.R hE hg'; have HK := Lib.hid hK; have HP9 := Lib.hid hP9; have HO9 := Lib.hid (HO.out.later hb9); have HL9 := Lib.hid (fun l hl => Own.later (HL.out l hl) hb9); have HO' := Lib.hid hO'; have B3 := hP9.B3.keep (hK _ (by decide)); have HW' := Lib.hid (hP9.W.trans hb'); clear hK hP9 hO' hb' hg' hb9 B63 e0 z1 c1 t1 c3 t3 c5 t5 B5 HPo1 HO HL; have c3 := B3.cell; have t3 := B3.lt; have f3 := B3.frozen)
            go_roundw
            case rel =>
              have hbut := setCell_but W' b3 1 (.slice a' (k + 1) c')
              have hP := HP9.out
              have hn3 : w.heap.size < b3 := by have := hP.n3; omega
              have hk2 : ∀ E, 92 ≠ E → 61 ≠ E → KeepT E w9 _ := fun E h1 h2 => (HK.out E h1).trans (KeepT.but B3 h2 hbut)
              refine ⟨k + 1, _, rs ++ [⟨va, vc, ls, x.lossy⟩], by omega, by go_num, hbut.below HW'.out (by omega), hP.B1.keep (hk2 _ (by decide) (by decide)), hbut.box (hP.B2.keep (HK.out _ (by decide))) (by have := hP.n3; omega), setCell_box B3 1 _, hP.n3, hP.S.keep (hk2 _ (by decide) (by decide)), ?_, by simp [hP.L], ?_, fun y hy => ?_⟩
              · rw [List.map_append]
                exact HO'.out.other B3 (by decide) hbut
              · rw [List.map_append, hP.E, take_map_succ HX.out]
                have h := HLe.out
                rw [List.take_of_length_le (Nat.le_refl _)] at h
                simp [RtV.rt, h]
              · rcases List.mem_append.1 hy with hy | hy
                · exact (hP.O y hy).keep (hk2 _ (by decide) (by decide)) (hk2 _ (by decide) (by decide))
                · simp at hy; subst hy
                  exact RtO.keep (W := w9) ⟨HO9.out.mono HWw.out, fun l hl => Own.mono (HL9.out l hl) HWw.out⟩ (hk2 _ (by decide) (by decide)) (hk2 _ (by decide) (by decide))
            case measure => first | omega | (simp [intOf]; omega)
      · obtain rfl : k = q.rs.length := by omega
        have hPo := HPo.out
        have B2 := hPo.B2
        have B3 := hPo.B3
        have c2 := B2.cell; have t2 := B2.lt; have c3 := B3.cell; have t3 := B3.lt
        have f2 := B2.frozen
        obtain ⟨ra, rc, rfl, hrc, hrr⟩ := hPo.R.row
        rw [List.length_map] at hrc
        simp only [List.length_map] at B3 c3
        have hW := hPo.W
        have HRr := Lib.hid hrr
        have HE := Lib.hid (hPo.E)
        have HPo1 := Lib.hid hPo
        clear hrr hPo HPo hk hlt
        go_wp2_with (with_reducible refine wpList_store_box rfl rfl 61 (.tmp 2) (.tmp 66) rfl _ #[.slice da p.sends.length dc, .slice ra rs.length rc, .int .i64 p.pat] rfl rfl B2 rfl (by kernel_rfl) rfl ?_; intro W4 C2 hbut; clear c2 t2 f2; have c2 := C2.cell; have t2 := C2.lt)
        have hk2 : ∀ E, 61 ≠ E → KeepT E wr W4 := fun E h2 => KeepT.but B2 h2 hbut
        have hP := HPo1.out
        have he : rs.map RtV.rt = q.rs.map RtV.rt := by
          have h := HE.out
          rwa [List.take_of_length_le (Nat.le_refl _)] at h
        refine bodyPost_ret (v := .agg #[.slice da p.sends.length dc, .slice ra rs.length rc, .int .i64 p.pat]) (by simp [results, Tryz.results12, go_sem, c2]) rfl ⟨⟨da, dc, ra, rc, rs⟩, rfl, hbut.below hW (by omega), ⟨(hP.S.keep (hk2 _ (by decide))).rowAt.2.2, ?_, fun x hx => ((hP.O x hx).keep (hk2 _ (by decide)) (hk2 _ (by decide))).at, he.trans HB.out.eq⟩, thin_of HT.out he⟩
        have hR := hP.R.keep (hk2 _ (by decide))
        exact hR.rowAt.2.2
end Cp
end Go.Proofs.YtingfmdbihbamaaGreat
