/- Layer 5, the walks: a truth of a post's form is one; Play. -/
import Derived.Test.YtingfmdbihbamaaGreatOP11
open Go.RowKit
namespace Go.Proofs.YtingfmdbihbamaaGreat
namespace Cp
open Go.Once

set_option maxRecDepth 100000 in
set_option maxHeartbeats 8000000 in
theorem shaped_any (q : PV) (p : Ps) (a : Option Addr) (c : Nat) (vs : List TV) (t : List (List (List Int))) (w : World) (hB : PostAt w q p) (ho : p.Ok) (hT : TruthAt w a vs t) (hs : Shaped p t) :
    Calls Tryz.prog 33 #[postV q p, .slice a vs.length c] w (Ret (.int .i64 0) w) := by
  have HB := Lib.hid hB
  have HO := Lib.hid ho
  have HT := Lib.hid hT
  have HS := Lib.hid hs
  have hvl : vs.length = p.sends.length := by rw [← hs.1, ← hT.eq]; simp
  have hs4 := ho.s4
  have hrl : q.rs.length = p.routes.length := by rw [← hB.eq]; simp
  have hr3 := ho.r3
  have HEt := Lib.hid hT.eq
  have HVl := Lib.hid hvl
  have HRl := Lib.hid hrl
  have hv4 : vs.length ≤ 4 := by omega
  have hq3 : q.rs.length ≤ 3 := by omega
  have hne : ((vs.length : Int) != (p.sends.length : Int)) = false := by simp; omega
  clear hB ho hT hs hvl hrl hr3
  go_enter Tryz.func33, Tryz.ntmps33
  go_wp2_with fail
  refine named1 (p := Code.wp _ _ _ _) ?_
  intro W hW B2
  clear hne hs4
  go_loopw [5, 21] (fun v i wr => ∃ k : Nat, k ≤ vs.length ∧ i = .int .i64 k ∧ v = .bool true ∧ Below w.heap.size w wr ∧ Box wr w.heap.size #[.slice q.a1 p.sends.length q.c1, .slice q.a2 q.rs.length q.c2, .int .i64 p.pat] 61) (fun _ i _ => vs.length - (intOf i).toNat)
  case atStart => exact ⟨0, Nat.zero_le _, rfl, rfl, hW, B2⟩
  case round =>
    clear hW B2 W
    obtain ⟨k, hk, rfl, rfl, hW, B2⟩ := hrel
    by_cases hlt : k < vs.length
    · obtain ⟨x, hx⟩ : ∃ x, vs[k]? = some x := ⟨vs[k], by simp⟩
      obtain ⟨tb, to_, ea, e0, z1, hX⟩ := (HT.out.later hW).one hx
      have htk := told_at HEt.out hx
      have hrow := HS.out.2 x.told (List.mem_of_getElem? htk)
      have hxl : x.ls.length = q.rs.length := by
        have := hrow.1
        simp [TV.told] at this
        rw [this]; exact HRl.out.symm
      have HXl := Lib.hid hxl
      have hx3 : x.ls.length ≤ 3 := by omega
      have hne : ((x.ls.length : Int) != (q.rs.length : Int)) = false := by simp; omega
      have HRow := Lib.hid hrow
      have HX := Lib.hid hx
      have HTv := Lib.hid hX
      have r1 : (0 : Int) ≤ (k : Int) := by omega
      have r2 : (k : Int) < (vs.length : Int) := by omega
      rw [ea]
      have c2 := B2.cell; have t2 := B2.lt
      clear hx hrow htk hX hxl ea
      go_wp2_with fail
      clear e0 z1 c2 t2 hne
      have hsame : Below wr.heap.size wr wr := Below.refl _ _
      obtain ⟨w0, hw0⟩ : ∃ w0, w0 = wr := ⟨_, rfl⟩
      rw [show Below wr.heap.size wr wr = Below w0.heap.size w0 wr by rw [hw0]] at hsame
      rw [← hw0] at HTv
      clear hw0
      go_loopw [5, 33] (fun v i wi => ∃ m : Nat, m ≤ x.ls.length ∧ i = .int .i64 m ∧ v = .bool true ∧ Below w.heap.size w wi ∧ Below w0.heap.size w0 wi ∧ Box wi w.heap.size #[.slice q.a1 p.sends.length q.c1, .slice q.a2 q.rs.length q.c2, .int .i64 p.pat] 61) (fun _ i _ => x.ls.length - (intOf i).toNat)
      case atStart => exact ⟨0, Nat.zero_le _, rfl, rfl, hW, hsame, B2⟩
      case round =>
        clear hW B2 hsame
        obtain ⟨m, hm, rfl, rfl, hW, hW0, B2⟩ := hrel
        by_cases hmt : m < x.ls.length
        · obtain ⟨y, hy⟩ : ∃ y, x.ls[m]? = some y := ⟨x.ls[m], by simp⟩
          obtain ⟨ib, io, ei, g0, z2, hI⟩ := (HTv.out.later hW0).one hy
          have hmq : m < q.rs.length := by have := HXl.out; omega
          obtain ⟨r, hr⟩ : ∃ r, q.rs[m]? = some r := ⟨q.rs[m], by simp⟩
          obtain ⟨pb, po, ea, f0, f1, z3, hR⟩ := (HB.out.later hW).route hr
          have hpr : p.routes[m]? = some r.rt := by rw [← HB.out.eq]; simp [hr]
          have hty : x.told[m]? = some y.xs := by simp [TV.told, hy]
          have hro := HO.out.routes r.rt (List.mem_of_getElem? hpr)
          have hok := HRow.out.2 m r.rt y.xs hpr hty
          have hrl0 : 0 < r.legs.length := by simpa [RtV.rt] using hro.l1
          have hrl3 : r.legs.length ≤ 3 := by simpa [RtV.rt] using hro.l3
          have hyl : y.xs.length ≤ 3 := by
            rcases hok with ⟨_, h⟩ | ⟨h, _⟩
            · rw [h]; simp
            · rw [h]; simpa [RtV.rt] using hrl3
          have HI := Lib.hid hI
          have HR := Lib.hid hR
          have HOk := Lib.hid hok
          have c2 := B2.cell; have t2 := B2.lt
          rw [ea] at c2
          rw [ei]
          have r3 : (0 : Int) ≤ (m : Int) := by omega
          have r4 : (m : Int) < (x.ls.length : Int) := by omega
          have r5 : (m : Int) < (q.rs.length : Int) := by omega
          clear hy hI hr hR hpr hty hro hok ea ei
          go_upto_region 13 with fail
          refine named1 (p := Code.wp _ _ _ _) ?_
          intro W5 hb5 B10
          replace HI := Lib.hid (RowAt.later HI.out hb5)
          replace HR := Lib.hid (HR.out.later hb5)
          replace hW0 := over hW0 hb5
          clear f0 f1 g0 z2 z3
          replace hW := over hW hb5; (try clear c2 t2); replace B2 := B2.later hb5; have c2 := B2.cell; have t2 := B2.lt; clear hb5 
          clear c2 t2
          have c10 := B10.cell; have t10 := B10.lt
          by_cases hxs : y.xs = []
          · have hly : r.lossy = true := by
              rcases HOk.out with ⟨h, _⟩ | ⟨h, _⟩
              · simpa [RtV.rt] using h
              · rw [hxs] at h; simp [RtV.rt] at h; rw [← h] at hrl0; simp at hrl0
            have hl0 : ((y.xs.length : Int) == 0) = true := by rw [hxs]; rfl
            rw [hly] at c10
            clear hxs hly
            go_wp2_with fail
            go_roundw
            case rel => exact ⟨m + 1, by omega, by go_num, rfl, hW, hW0, B2⟩
            case measure => first | omega | (simp [intOf]; omega)
          · go_cut [49] (fun s49 wx => s49 = .bool false ∧ wx = W5)
            case first =>
              have hl0 : ((y.xs.length : Int) == 0) = false := beq_eq_false_iff_ne.2 (by have := List.length_pos_iff.2 hxs; omega)
              clear hxs
              go_wp2_with fail
              all_goals
                go_meet
                exact ⟨rfl, rfl⟩
            case rest =>
            obtain ⟨rfl, rfl⟩ := hcut
            have hll : y.xs.length = r.legs.length := by
              rcases HOk.out with ⟨_, h⟩ | ⟨h, _⟩
              · exact absurd h hxs
              · rw [h]; simp [RtV.rt]
            have hne2 : ((y.xs.length : Int) != (r.legs.length : Int)) = false := by simp; omega
            have HLl := Lib.hid hll
            have HXs := Lib.hid hxs
            clear hll hxs
            generalize wr.heap.size = b10 at *
            go_wp2_with fail
            have hsame2 : Below wc.heap.size wc wc := Below.refl _ _
            clear c10 t10 hne2
            go_loopw [5, 58] (fun v i wj => ∃ j : Nat, j ≤ y.xs.length ∧ i = .int .i64 j ∧ v = .bool true ∧ Below w.heap.size w wj ∧ Below wc.heap.size wc wj ∧ Box wj w.heap.size #[.slice q.a1 p.sends.length q.c1, .slice q.a2 q.rs.length q.c2, .int .i64 p.pat] 61 ∧ Box wj b10 #[.slice r.a r.legs.length r.c, .bool r.lossy] 92) (fun _ i _ => y.xs.length - (intOf i).toNat)
            case atStart => exact ⟨0, Nat.zero_le _, rfl, rfl, hW, hsame2, B2, B10⟩
            case round =>
              clear hW B2 B10 hsame2
              obtain ⟨j, hj, rfl, rfl, hW, hWc, B2, B10⟩ := hrel
              by_cases hjt : j < y.xs.length
              · have hjr : j < r.legs.length := by have := HLl.out; omega
                obtain ⟨l, hl⟩ : ∃ l, r.legs[j]? = some l := ⟨r.legs[j], by simp⟩
                obtain ⟨n, hn⟩ : ∃ n, y.xs[j]? = some n := ⟨y.xs[j], by simp⟩
                obtain ⟨lb, lo, ex, f0, f1, _, z4, _⟩ := (HR.out.later hWc).leg hl
                obtain ⟨nb, no, ey, hC⟩ := RowAt.at (k := j) (RowAt.later HI.out hWc) (by simpa using hjt)
                have g0 := cells_one (f := fun n : Int => Value.int .i64 n) hC hn
                have z5 := block_lt_of_cell g0
                obtain ⟨n', hn', n1, n2⟩ := takes_at HOk.out HXs.out (show r.rt.legs[j]? = some l.lg by simp [RtV.rt, hl])
                rw [hn] at hn'
                cases hn'
                have HIn : Hid (inB n l.lg.lo l.lg.hi = true) := by show _ = _; simp [inB]; omega
                have c10 := B10.cell; have t10 := B10.lt
                rw [ex] at c10
                rw [ey]
                clear hl hn hC ex ey
                have r7 : (0 : Int) ≤ (j : Int) := by omega
                have r8 : (j : Int) < (y.xs.length : Int) := by omega
                have r9 : (j : Int) < (r.legs.length : Int) := by omega
                go_wp2_with fail
                refine (has_any ⟨l.lg.lo, l.lg.hi⟩ n _).mono ?_
                rintro e w9 ⟨rfl, hb9⟩
                rw [HIn.out]
                replace hWc := over hWc hb9
                clear f0 f1 g0 z4 z5 c10 t10
                replace B10 := B10.later hb9
                replace B2 := B2.later hb9
                replace hW := over hW hb9
                clear hb9
                go_wp2_with fail
                go_roundw
                case rel => exact ⟨j + 1, by omega, by go_num, rfl, hW, hWc, B2, B10⟩
                case measure => first | omega | (simp [intOf]; omega)
              · obtain rfl : j = y.xs.length := by omega
                replace hW0 := over hW0 hWc
                clear hj hjt hWc
                go_wp2_with fail
                go_roundw
                case rel => exact ⟨m + 1, by omega, by go_num, rfl, hW, hW0, B2⟩
                case measure => first | omega | (simp [intOf]; omega)
        · obtain rfl : m = x.ls.length := by omega
          clear hm hmt
          go_wp2_with fail
          go_roundw
          case rel => exact ⟨k + 1, by omega, by go_num, rfl, hW, B2⟩
          case measure => first | omega | (simp [intOf]; omega)
    · obtain rfl : k = vs.length := by omega
      go_wp2_with fail
      go_ret
      exact ⟨rfl, hW⟩

/-- It returns the journal, and no error. -/
def RetJ (l : List Ent) (w : World) (e : Ending) (w' : World) : Prop := ∃ a c, e = .returned (.tuple #[.slice a l.length c, .int .i64 0]) ∧ Below w.heap.size w w' ∧ RowAt w' a 3 (l.map Ent.vs)
theorem Play_any (q : PV) (p : Ps) (a : Option Addr) (c : Nat) (vs : List TV) (t : List (List (List Int))) (w : World) (hB : PostAt w q p) (ho : p.Ok) (hT : TruthAt w a vs t) (hs : Shaped p t) :
    Calls Tryz.prog 15 #[postV q p, .slice a vs.length c] w (RetJ (journal p t) w) := by
  have HB := Lib.hid hB
  have HO := Lib.hid ho
  have HT := Lib.hid hT
  have HS := Lib.hid hs
  clear hB ho hT hs
  go_enter Tryz.func15, Tryz.ntmps15
  go_wp2_with fail
  refine named1 (p := fun W => Calls _ _ _ W _) ?_
  intro W hW B2
  have c2 := B2.cell; have t2 := B2.lt
  refine (checkPost_any q p W (HB.out.later hW) HO.out).mono ?_
  rintro e w1 ⟨rfl, hb1⟩
  replace hW := over hW hb1; (try clear c2 t2); replace B2 := B2.later hb1; have c2 := B2.cell; have t2 := B2.lt; clear hb1 
  go_wp2_with fail
  refine (shaped_any q p a c vs t _ (HB.out.later hW) HO.out (HT.out.later hW) HS.out).mono ?_
  rintro e w2 ⟨rfl, hb2⟩
  replace hW := over hW hb2; (try clear c2 t2); replace B2 := B2.later hb2; have c2 := B2.cell; have t2 := B2.lt; clear hb2 
  go_wp2_with fail
  refine (play_any q p a c vs t _ (HB.out.later hW) HO.out (HT.out.later hW) HS.out).mono ?_
  rintro e w3 ⟨v, rfl, hb3, hO⟩
  obtain ⟨ra, rc, rfl, _, hr⟩ := hO.row
  rw [List.length_map]
  have HR := Lib.hid hr
  replace hW := over hW hb3; (try clear c2 t2); replace B2 := B2.later hb3; have c2 := B2.cell; have t2 := B2.lt; clear hb3 hr hO
  go_wp2_with fail
  exact bodyPost_ret (v := .tuple #[.slice ra (journal p t).length rc, .int .i64 0]) (by simp [results, Tryz.results15, go_sem]) rfl ⟨ra, rc, rfl, hW, HR.out⟩
end Cp
end Go.Proofs.YtingfmdbihbamaaGreat
