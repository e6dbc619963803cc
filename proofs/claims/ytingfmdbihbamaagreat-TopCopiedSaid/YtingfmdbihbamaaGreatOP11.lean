/- Layer 5, the walks: what becomes of all dispatches in a truth. -/
import Derived.Test.YtingfmdbihbamaaGreatOP10
import Derived.Deep.AppendLies
open Go.RowKit
namespace Go.Proofs.YtingfmdbihbamaaGreat
namespace Cp
open Go.Once

theorem elem_ent : Elem Tryz.prog 67 73 3 24 := ⟨by kernel_rfl, by kernel_rfl⟩
/-- A row of two new cells. -/
def twoSpec (T : TypeId) (a b : Value) : Fat.Spec := fun v lo hi w => v = .slice (some ⟨lo, 0, none⟩) 2 2 ∧ lo < hi ∧ Box w lo #[a, b] T
theorem twoSpec_lasting (T : TypeId) (a b : Value) : Fat.Lasting (twoSpec T a b) := fun _ _ _ _ _ hb _ h => ⟨h.1, h.2.1, h.2.2.later hb⟩
theorem twoSpec_new {w : World} (T : TypeId) (a b : Value) : Below w.heap.size w (w.alloc (.cells #[a, b] T)) ∧ twoSpec T a b (.slice (some ⟨w.heap.size, 0, none⟩) 2 2) w.heap.size (w.heap.size + 1) (w.alloc (.cells #[a, b] T)) :=
  ⟨al (Below.refl _ _) _, rfl, by simp, Box.new w _ T⟩
def minSpec (a b : Int) (i : Nat) : Fat.Spec := if i = 12 then isSpec (.int .i64 b) else if i = 13 then twoSpec 3 (.int .i64 a) (.int .i64 b) else isSpec (.int .i64 (min a b))
theorem minSpec_lasting (a b : Int) (i : Nat) : Fat.Lasting (minSpec a b i) := by
  unfold minSpec
  (repeat' split) <;> first | exact isSpec_lasting _ | exact twoSpec_lasting _ _ _

theorem own_snoc {W W' : World} {base m : Nat} {E : TypeId} {size : Nat} {v v' : Value} {xs : List (List Value)} {ys : List Value} (h : Own W base E size v xs) (hm : xs.length = m) (h2 : W'.ownsRow base E size v' (m + 1) (xs.flatten ++ ys)) (hl : ys.length = size) : Own W' base E size v' (xs ++ [ys]) := by
  subst hm
  refine ⟨by simpa using h2, fun y hy => ?_⟩
  rcases List.mem_append.1 hy with hy | hy
  · exact h.2 y hy
  · simp at hy; subst hy; exact hl
theorem own_rows {W : World} {base m : Nat} {E : TypeId} {size : Nat} {v : Value} {xs : List (List Value)} (h : Own W base E size v xs) (hm : xs.length = m) : W.ownsRow base E size v m xs.flatten := by
  subst hm; exact h.1
theorem told_at {vs : List TV} {t : List (List (List Int))} (h : vs.map TV.told = t) {k : Nat} {x : TV} (hx : vs[k]? = some x) : t[k]? = some x.told := by
  rw [← h]; simp [hx]
theorem range_snoc {α : Type} (f : Nat → α) (k : Nat) : (List.range (k + 1)).map f = (List.range k).map f ++ [f k] := by rw [List.range_succ]; simp

set_option maxRecDepth 100000 in
set_option maxHeartbeats 8000000 in
theorem play_any (q : PV) (p : Ps) (a : Option Addr) (c : Nat) (vs : List TV) (t : List (List (List Int))) (w : World) (hB : PostAt w q p) (ho : p.Ok) (hT : TruthAt w a vs t) (hs : Shaped p t) :
    Calls Tryz.prog 34 #[postV q p, .slice a vs.length c] w (RetRow 73 3 ((journal p t).map Ent.vs) w) := by
  have HB := Lib.hid hB
  have HO := Lib.hid ho
  have HT := Lib.hid hT
  have HS := Lib.hid hs
  have hvl : vs.length = p.sends.length := by rw [← hs.1, ← hT.eq]; simp
  have hs4 := ho.s4
  have hpat := ho.pat
  have hrl : q.rs.length = p.routes.length := by rw [← hB.eq]; simp
  have hr3 := ho.r3
  have HEt := Lib.hid hT.eq
  have HVl := Lib.hid hvl
  have HRl := Lib.hid hrl
  have hv4 : vs.length ≤ 4 := by omega
  have hq3 : q.rs.length ≤ 3 := by omega
  clear hB ho hT hs hvl hrl hr3 hs4
  go_enter Tryz.func34, Tryz.ntmps34
  go_wp2_with fail
  refine named1 (p := Code.wp _ _ _ _) ?_
  intro W hW B2
  go_loopw [4, 5, 14] (fun v b i wr => ∃ k : Nat, k ≤ vs.length ∧ i = .int .i64 k ∧ b = .int .i64 (befI p t k) ∧ Below w.heap.size w wr ∧ Box wr w.heap.size #[.slice q.a1 p.sends.length q.c1, .slice q.a2 q.rs.length q.c2, .int .i64 p.pat] 61 ∧ Own wr w.heap.size 73 3 v (((List.range k).map (entI p t)).map Ent.vs)) (fun _ _ i _ => vs.length - (intOf i).toNat)
  case atStart => exact ⟨0, Nat.zero_le _, rfl, rfl, hW, B2, Own.nil _ _ _ _⟩
  case round =>
    clear hW B2 W
    obtain ⟨k, hk, rfl, rfl, hW, B2, hO⟩ := hrel
    have HOw := Lib.hid hO
    clear hO
    by_cases hlt : k < vs.length
    · obtain ⟨x, hx⟩ : ∃ x, vs[k]? = some x := ⟨vs[k], by simp⟩
      obtain ⟨tb, to_, ea, e0, z1, hX⟩ := (HT.out.later hW).one hx
      have htk := told_at HEt.out hx
      have hrow := HS.out.2 x.told (List.mem_of_getElem? htk)
      obtain ⟨s, hsk⟩ : ∃ s, p.sends[k]? = some s := ⟨p.sends[k]'(by have := HVl.out; omega), by simp⟩
      have hsb := HO.out.sends s (List.mem_of_getElem? hsk)
      have hxl : x.ls.length = q.rs.length := by
        have := hrow.1
        simp [TV.told] at this
        rw [this]; exact HRl.out.symm
      have HXl := Lib.hid hxl
      have hx3 : x.ls.length ≤ 3 := by omega
      have HRow := Lib.hid hrow
      have HX := Lib.hid hx
      have HSk := Lib.hid hsk
      have hH : hourI p t k = hourTo p.routes s x.told p.routes.length := by unfold hourI; rw [hsk, htk]
      have hD : deadI p k = s + p.pat := by unfold deadI; rw [hsk]
      have HH := Lib.hid hH
      have HD := Lib.hid hD
      have HTv := Lib.hid hX
      have hbef := befI_bd HO.out t k
      have r1 : (0 : Int) ≤ (k : Int) := by omega
      have r2 : (k : Int) < (vs.length : Int) := by omega
      rw [ea]
      clear hx hsk hrow htk hX hH hD hxl ea
      generalize hbv : befI p t k = bv at *
      have HBv := Lib.hid hbv
      clear hbv
      go_wp2_with fail
      clear e0 z1
      have hsame : Below wr.heap.size wr wr := Below.refl _ _
      obtain ⟨w0, hw0⟩ : ∃ w0, w0 = wr := ⟨_, rfl⟩
      rw [show Below wr.heap.size wr wr = Below w0.heap.size w0 wr by rw [hw0]] at hsame
      rw [← hw0] at HOw HTv
      clear hw0
      go_loopw [8, 21] (fun h i wi => ∃ m : Nat, m ≤ x.ls.length ∧ i = .int .i64 m ∧ h = .int .i64 (hourTo p.routes s x.told m) ∧ Below w.heap.size w wi ∧ Below w0.heap.size w0 wi ∧ Box wi w.heap.size #[.slice q.a1 p.sends.length q.c1, .slice q.a2 q.rs.length q.c2, .int .i64 p.pat] 61) (fun _ i _ => x.ls.length - (intOf i).toNat)
      case atStart => exact ⟨0, Nat.zero_le _, rfl, rfl, hW, hsame, B2⟩
      case round =>
        clear hW B2 hsame
        obtain ⟨m, hm, rfl, rfl, hW, hW0, B2⟩ := hrel
        by_cases hmt : m < x.ls.length
        · obtain ⟨y, hy⟩ : ∃ y, x.ls[m]? = some y := ⟨x.ls[m], by simp⟩
          obtain ⟨ib, io, ei, g0, z2, hI⟩ := (HTv.out.later hW0).one hy
          have hmq : m < q.rs.length := by have := HXl.out; omega
          obtain ⟨r, hr⟩ : ∃ r, q.rs[m]? = some r := ⟨q.rs[m], by simp⟩
          obtain ⟨pb, po, ea, f0, f1, z3, hR⟩ := (HB.out.later hW).route hr
          obtain ⟨sb, so, es, e0, z4⟩ := (HB.out.later hW).send HSk.out
          have hpr : p.routes[m]? = some r.rt := by rw [← HB.out.eq]; simp [hr]
          have hty : x.told[m]? = some y.xs := by simp [TV.told, hy]
          have hro := HO.out.routes r.rt (List.mem_of_getElem? hpr)
          have hok := HRow.out.2 m r.rt y.xs hpr hty
          have HSucc := Lib.hid (hourTo_succ (s := s) hpr hty)
          have HI := Lib.hid hI
          have HR := Lib.hid hR
          have HRo := Lib.hid hro
          have HOk := Lib.hid hok
          have c2 := B2.cell; have t2 := B2.lt
          rw [ea, es] at c2
          rw [ei]
          have hks : k < p.sends.length := by have := HVl.out; omega
          have r3 : (0 : Int) ≤ (m : Int) := by omega
          have r4 : (m : Int) < (x.ls.length : Int) := by omega
          have r5 : (m : Int) < (q.rs.length : Int) := by omega
          have r6 : (k : Int) < (p.sends.length : Int) := by omega
          clear hy hI hr hR hpr hty hro hok ea es ei
          generalize hourTo p.routes s x.told m = hv at *
          generalize hcv : comesR r.rt s y.xs = cv at *
          have HCv := Lib.hid hcv
          clear hcv
          have hWr := hW
          go_upto_region 9 with fail
          refine Fat.wp_region0 15 [12, 13, 14] (minSpec hv cv) (minSpec_lasting hv cv) (by kernel_rfl) (by kernel_rfl) ?_
          simp only [List.take_succ_cons, List.take_zero, Fat.pick, List.contains_cons, List.contains_nil, Nat.reduceAdd, Nat.reduceBEq]
          repeat (first | simp only [Bool.or_false] | simp only [Bool.or_true] | simp only [Bool.true_or] | simp only [Bool.false_eq_true] | simp only [if_true] | simp only [if_false])
          repeat (go_big_quiet_step (fail))
          refine wpQuiet_nil ?_
          refine ⟨?_, ?_, ?_⟩
          · intro i o hi hown ho vals lo hi' W hW hdep
            simp only [List.contains_cons, List.contains_nil, Bool.or_false] at hi
            (try simp only [Bool.or_eq_true] at hi)
            simp only [beq_iff_eq] at hi
            rcases hi with rfl | rfl | rfl
            all_goals first
              | exact absurd hown (by decide)
              | (simp only [List.getElem?_cons_succ, List.getElem?_cons_zero, Option.some.injEq] at ho; subst ho; refine .inl ⟨rfl, ?_⟩; simp only [Fat.putN, Fat.dstOf, Act.put, List.getElem?_toArray, List.getElem?_cons_succ, List.getElem?_cons_zero, Option.bind_some, List.setIfInBounds_toArray, List.set_cons_succ, List.set_cons_zero])
            · go_simp
              exact (comes_any r s y.xs _ y.c W (HR.out.later hW) HRo.out HOk.out hsb (RowAt.later HI.out hW)).mono fun e w'' ⟨he, h⟩ => ⟨_, he, h, by rw [HCv.out]; rfl⟩
            · obtain ⟨_, _, _, (hv12 : vals 12 = _)⟩ := hdep 12 rfl (by kernel_rfl)
              rw [hv12]
              go_simp
              exact twoSpec_new _ _ _
            · obtain ⟨_, _, _, (hv13 : vals 13 = _), _, (hB13 : Box W (lo 13) _ _)⟩ := hdep 13 rfl (by kernel_rfl)
              rw [hv13]
              go_simp
              exact (smallest_any hv cv _ W hB13).mono fun e w'' ⟨he, h⟩ => ⟨_, he, h, rfl⟩
          · intro i o hi hown ho vals lo hi' W hW hdep
            simp only [List.contains_cons, List.contains_nil, Bool.or_false] at hi
            (try simp only [Bool.or_eq_true] at hi)
            simp only [beq_iff_eq] at hi
            rcases hi with rfl | rfl | rfl
            all_goals first
              | exact absurd (by decide) hown
              | (simp only [List.getElem?_cons_succ, List.getElem?_cons_zero, Option.some.injEq] at ho; subst ho; refine ⟨rfl, ?_⟩; simp only [Fat.putN, Fat.dstOf, Act.put, List.getElem?_toArray, List.getElem?_cons_succ, List.getElem?_cons_zero, Option.bind_some, List.setIfInBounds_toArray, List.set_cons_succ, List.set_cons_zero]; (try simp only [Option.bind_none]))
          · intro vals lo' hi' w9 hb9 hphi hdis htied
            obtain ⟨_, _, _, (q12 : vals 12 = _)⟩ := hphi 12 rfl
            obtain ⟨_, _, _, (q13 : vals 13 = _), _⟩ := hphi 13 rfl
            obtain ⟨_, _, _, (q14 : vals 14 = _)⟩ := hphi 14 rfl
            simp only [Fat.putN, Fat.dstOf, Act.put, List.getElem?_toArray, List.getElem?_cons_succ, List.getElem?_cons_zero, Option.bind_some, List.setIfInBounds_toArray, List.set_cons_succ, List.set_cons_zero, List.drop_succ_cons, List.drop_zero]
            rw [q12, q13, q14, ← HSucc.out]
            clear q12 q13 q14 hphi hdis htied
            replace hW := over hWr hb9
            replace hW0 := over hW0 hb9
            replace B2 := B2.later hb9
            clear c2 t2 e0 f0 f1 g0 z2 z3 z4 hb9 hWr HSucc
            go_wp2_with fail
            go_roundw
            case rel => exact ⟨m + 1, by omega, by go_num, rfl, hW, hW0, B2⟩
            case measure => first | omega | (simp [intOf]; omega)
        · obtain rfl : m = x.ls.length := by omega
          have HHk : Hid (hourTo p.routes s x.told x.ls.length = hourI p t k) := by show _ = _; rw [HH.out, HXl.out, HRl.out]
          rw [HHk.out]
          obtain ⟨hv, hhv⟩ : ∃ hv, hv = hourI p t k := ⟨_, rfl⟩
          rw [← hhv]
          have HHv := Lib.hid hhv
          clear hhv HH hm hmt
          have c2 := B2.cell; have t2 := B2.lt
          go_wp2_with fail
          refine (receive_any q p k s bv hv _ (HB.out.later hW) HSk.out hsb hpat).mono ?_
          rintro e w2 ⟨rfl, hb2⟩
          have hE : (entI p t k).vs = [.int .i64 k, .int .i64 (max bv (min hv (s + p.pat))), .bool (decide (s + p.pat < hv))] := by
            simp only [entI, Ent.vs, befI, HBv.out, HD.out, ← HHv.out]
          have hN : befI p t (k + 1) = max bv (min hv (s + p.pat)) := by simp only [befI, HBv.out, HD.out, ← HHv.out]
          have HE := Lib.hid hE
          have HN := Lib.hid hN
          clear hE hN
          generalize max bv (min hv (s + p.pat)) = at_ at *
          generalize decide (s + p.pat < hv) = sk at *
          replace HOw := Lib.hid ((HOw.out.later hW0).later hb2)
          replace hW := over hW hb2; (try clear c2 t2); replace B2 := B2.later hb2; have c2 := B2.cell; have t2 := B2.lt; clear hb2 
          clear hW0
          go_upto_region 12 with fail
          have HNb : Hid (u4.ownBlock ≠ some w2.heap.size) := fun e => absurd (HOw.out.1.lt _ e).2 (Nat.lt_irrefl _)
          refine named1 (p := Code.wp _ _ _ _) ?_
          intro W8 hb8 B8
          replace HOw := Lib.hid (HOw.out.later hb8)
          replace hW := over hW hb8; (try clear c2 t2); replace B2 := B2.later hb8; have c2 := B2.cell; have t2 := B2.lt; clear hb8 
          have HS0 : Hid (∀ A B : World, Below W8.heap.size W8 A → A.grownBy B u4.ownBlock → B.cell? ⟨w2.heap.size, 0, none⟩ = some (.int .i64 k) ∧ B.cell? ⟨w2.heap.size, 1, none⟩ = some (.int .i64 at_) ∧ B.cell? ⟨w2.heap.size, 2, none⟩ = some (.bool sk)) := fun A B hA hg => by
            have cc : ∀ o, B.cell? ⟨w2.heap.size, o, none⟩ = W8.cell? ⟨w2.heap.size, o, none⟩ := fun o => (hg.cell_far ⟨w2.heap.size, o, none⟩ (Nat.lt_of_lt_of_le B8.lt hA.size) (fun e => HNb.out e.symm)).trans (hA.cell (p := ⟨w2.heap.size, o, none⟩) B8.lt)
            rw [cc, cc, cc]
            exact ⟨B8.cell 0, B8.cell 1, B8.cell 2⟩
          obtain ⟨i0, z0, hi0, hz0, hz1, hz2, hz3⟩ := elem_ent.get
          have hu := elem_ent.ht
          have hxy : k + 1 ≤ maxLen := by unfold maxLen; omega
          have hxz : (k + 1) * 24 ≤ 140737488355328 := by omega
          have hsz := hW.size
          have c8 := B8.cell; have t8 := B8.lt
          refine wp_region_noPanic ?_
          refine wp_region_held_drew (S := (fun w' => w'.cell? ⟨w2.heap.size, 0, none⟩ = some (.int .i64 k) ∧ w'.cell? ⟨w2.heap.size, 1, none⟩ = some (.int .i64 at_) ∧ w'.cell? ⟨w2.heap.size, 2, none⟩ = some (.bool sk))) (by kernel_rfl) (by (try dsimp only); go_keep) (fun hHeld => ?_)
          refine wpAnyH_take (i := 0) (oi := _) (v := ?_) rfl (by kernel_rfl) (by kernel_rfl) (by kernel_rfl) (fun _ _ _ h => h) (Or.inl ⟨by rfl, ?_⟩) (by assumption) ?_
          rotate_left
          · (intro w hSw; (try dsimp only at hSw); go_simp; try with_reducible rfl)
          (try dsimp only); (try simp only [Act.put]); (try simp only [List.setIfInBounds_toArray]); (try simp only [List.set_cons_succ]); (try simp only [List.set_cons_zero])
          refine wpAnyH_take (i := 1) (oi := _) (v := ?_) rfl (by kernel_rfl) (by kernel_rfl) (by kernel_rfl) (fun _ _ _ h => h) (Or.inl ⟨by rfl, ?_⟩) (by assumption) ?_
          rotate_left
          · (intro w hSw; (try dsimp only at hSw); go_simp; try with_reducible rfl)
          (try dsimp only); (try simp only [Act.put]); (try simp only [List.setIfInBounds_toArray]); (try simp only [List.set_cons_succ]); (try simp only [List.set_cons_zero])
          refine wpAnyH_take (i := 4) (oi := _) (v := ?_) rfl (by kernel_rfl) (by kernel_rfl) (by kernel_rfl) (fun _ _ _ h => h) (Or.inl ⟨by rfl, ?_⟩) (by assumption) ?_
          rotate_left
          · (intro w hSw; (try dsimp only at hSw); go_simp; try with_reducible rfl)
          (try dsimp only); (try simp only [Act.put]); (try simp only [List.setIfInBounds_toArray]); (try simp only [List.set_cons_succ]); (try simp only [List.set_cons_zero])
          refine wpAnyH_take (i := 5) (oi := _) (v := ?_) rfl (by kernel_rfl) (by kernel_rfl) (by kernel_rfl) (fun _ _ _ h => h) (Or.inl ⟨by rfl, ?_⟩) (by assumption) ?_
          rotate_left
          · (intro w hSw; (try dsimp only at hSw); go_simp; try with_reducible rfl)
          (try dsimp only); (try simp only [Act.put]); (try simp only [List.setIfInBounds_toArray]); (try simp only [List.set_cons_succ]); (try simp only [List.set_cons_zero])
          refine wpAnyH_ready (rs := [2]) (by kernel_rfl) (by simp) ?_
          refine AllReadyH.cons (o := _) rfl (fun K hK => ?_) AllReadyH.nil
          go_simp
          refine hK.out _ _ (by (try dsimp only); go_keep) (fun hHeld => ?_)
          clear hK K
          (try dsimp only); (try simp only [Act.put]); (try simp only [List.setIfInBounds_toArray]); (try simp only [List.set_cons_succ]); (try simp only [List.set_cons_zero])
          refine wpAnyH_ready (rs := [3]) (by kernel_rfl) (by simp) ?_
          refine AllReadyH.cons (o := _) rfl (fun K hK => ?_) AllReadyH.nil
          refine step_append_lies _ (by rfl) _ _ _ (by rfl) w.heap.size 73 i0 z0 3 24 hu hi0 hz0 hz1 hz2 hz3 (by omega) u4 k (((List.range k).map (entI p t)).map Ent.vs).flatten (by rfl) (by exact own_rows (HOw.out.later (show Below W8.heap.size W8 _ from (by repeat (first | exact Below.refl _ _ | refine al ?_ _ | refine Below.drew ?_ | refine sc ?_ (by simp) _)))) (by simp)) ⟨W8.heap.size, 0, none⟩ 1 1 [.int .i64 k, .int .i64 at_, .bool sk] (by rfl) (by rfl) (World.news_of_block (cs := #[.int .i64 k, .int .i64 at_, .bool sk]) (t := 73) (fr := (0, 0)) (by exact heap_alloc_new W8 _)) (by simp [Value.oneCell']) (by omega) hxy hxz (by simp; omega) (W8.heap.size + 1) (by simp) ?_
          intro g3 cap3 w6 hown6 hgrow hat hlt6
          refine hK.out _ _ (by (try dsimp only); exact HS0.out _ _ (by repeat (first | exact Below.refl _ _ | refine al ?_ _ | refine Below.drew ?_ | refine sc ?_ (by simp) _)) hgrow) (fun hHeld => ?_)
          clear hK K
          (try dsimp only); (try simp only [Act.put]); (try simp only [List.setIfInBounds_toArray]); (try simp only [List.set_cons_succ]); (try simp only [List.set_cons_zero])
          refine wpAnyH_ready (rs := [6]) (by kernel_rfl) (by simp) ?_
          refine AllReadyH.cons (o := _) rfl (fun K hK => ?_) AllReadyH.nil
          go_simp
          refine hK.out _ _ (by (try dsimp only); assumption) (fun hHeld => ?_)
          clear hK K
          (try dsimp only); (try simp only [Act.put]); (try simp only [List.setIfInBounds_toArray]); (try simp only [List.set_cons_succ]); (try simp only [List.set_cons_zero])
          refine wpAnyH_ready (rs := [7]) (by kernel_rfl) (by simp) ?_
          refine AllReadyH.cons (o := _) rfl (fun K hK => ?_) AllReadyH.nil
          go_simp
          refine hK.out _ _ (by (try dsimp only); assumption) (fun hHeld => ?_)
          clear hK K
          (try dsimp only); (try simp only [Act.put]); (try simp only [List.setIfInBounds_toArray]); (try simp only [List.set_cons_succ]); (try simp only [List.set_cons_zero])
          refine wpAnyH_done (by kernel_rfl) ?_ _
          refine NoPanic.normal ?_
          repeat (clear hHeld)
          have hBA : Below W8.heap.size W8 (W8.alloc (.cells #[.int .i64 k, .int .i64 at_, .bool sk] 73)).drew := (by repeat (first | exact Below.refl _ _ | refine al ?_ _ | refine Below.drew ?_ | refine sc ?_ (by simp) _))
          have hOA := HOw.out.later hBA
          have hB6 := below_grown hgrow (Nat.le_trans hsz hBA.size) fun kk hk => (hOA.1.lt kk hk).1
          replace hW := (over hW hBA).trans hB6
          replace B2 := (B2.later hBA).keep (KeepT.grown hOA (by decide) hgrow)
          have HO6 := Lib.hid (own_snoc hOA (m := k) (by simp) hown6 rfl)
          clear hBA hOA hB6 hown6 hgrow hat hlt6 HS0 HOw c2 t2 c8 t8 B8 hxy hxz hu hz0 hz1 hz2 hz3 hi0 hsz
          go_wp2_with fail
          rw [← HN.out]
          go_roundw
          case rel =>
            refine ⟨k + 1, by omega, by go_num, rfl, hW, B2, ?_⟩
            rw [range_snoc, List.map_append]
            have h := HO6.out
            rw [← HE.out] at h
            exact h
          case measure => first | omega | (simp [intOf]; omega)
    · obtain rfl : k = vs.length := by omega
      obtain ⟨ra, rc, rfl, _, _⟩ := HOw.out.row
      have HRes : Hid (journal p t = (List.range vs.length).map (entI p t)) := by show _ = _; rw [HVl.out]; rfl
      have hO := HOw.out
      rw [← HRes.out] at hO ⊢
      have HO2 := Lib.hid hO
      clear hO hk hlt HOw
      go_wp2_with fail
      go_ret
      exact ⟨_, rfl, hW, HO2.out⟩
end Cp
end Go.Proofs.YtingfmdbihbamaaGreat
