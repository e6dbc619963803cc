import Derived.Test.YtingfmdbihbamaaGreatWB
import Derived.Test.YtingfmdbihbamaaGreatPl0
section
/- Layer 1, the walks: the sun behind a station (the reference's), how many mirrors (the program's). -/
open Go.RowKit
namespace Go.Proofs.YtingfmdbihbamaaGreat
open Go.Hill

/-- A station, a station and a sun go into three new variables. -/
def tri (i1 i2 i3 i4 i5 : Nat) (T1 T2 : TypeId) (a b : Stn) (s : Sn) (i : Nat) : Fat.Spec :=
  if i = i1 then setSpec T1 #[.int .i64 a.X, .int .i64 a.Y, .int .i64 a.Z, .int .i64 a.M] else if i = i2 then setSpec T1 #[.int .i64 b.X, .int .i64 b.Y, .int .i64 b.Z, .int .i64 b.M] else if i = i3 then setSpec T2 #[.int .i64 s.E, .int .i64 s.N, .int .i64 s.U]
  else if i = i4 then newSpec T1 4 else if i = i5 then newSpec T1 4 else newSpec T2 3
theorem tri_lasting {i1 i2 i3 i4 i5 : Nat} {T1 T2 : TypeId} {a b : Stn} {s : Sn} (i : Nat) : Fat.Lasting (tri i1 i2 i3 i4 i5 T1 T2 a b s i) := by
  unfold tri; (repeat' split) <;> first | exact setSpec_lasting _ _ | exact newSpec_lasting _ _
theorem tri_local {i1 i2 i3 i4 i5 : Nat} {T1 T2 : TypeId} {a b : Stn} {s : Sn} (i : Nat) : Fat.Local (tri i1 i2 i3 i4 i5 T1 T2 a b s i) := by
  unfold tri; (repeat' split) <;> first | exact setSpec_local _ _ | exact newSpec_local _ _

set_option maxRecDepth 100000 in
set_option maxHeartbeats 1000000 in
theorem mirrors_any (q : LV) (n2 n3 : Nat) (bw : Nat) (mv : Value) (st : List Stn) (sn : List Sn) (i j t : Nat) (a b : Stn) (s : Sn) (w : World) (h1 : RowAt w q.a1 4 (st.map Stn.vs)) (h4 : RowAt w q.a4 3 (sn.map Sn.vs))
    (hi : st[i]? = some a) (hj : st[j]? = some b) (ht : sn[t]? = some s) (ha : a.In) (hb : b.In) (hs : s.In)
    (B1 : Box w bw #[.slice q.a1 st.length q.c1, .slice q.a2 n2 q.c2, .slice q.a3 n3 q.c3, .slice q.a4 sn.length q.c4, mv] 190) :
    Calls Tryz.prog 122 #[.pointer (some ⟨bw, 0, none⟩), .agg #[.int .i64 i, .int .i64 j], .int .i64 t] w (Ret (.int .i64 (needM s a b)) w) := by
  have k1 : i < st.length := (List.getElem?_eq_some_iff.1 hi).1
  have k2 : j < st.length := (List.getElem?_eq_some_iff.1 hj).1
  have k3 : t < sn.length := (List.getElem?_eq_some_iff.1 ht).1
  obtain ⟨p1, o1, ea1, hC1⟩ := h1.at k1
  obtain ⟨p4, o4, ea4, hC4⟩ := h4.at k3
  have r1 : (0 : Int) ≤ (i : Int) := by omega
  have r2 : (i : Int) < (st.length : Int) := by omega
  have r3 : (0 : Int) ≤ (j : Int) := by omega
  have r4 : (j : Int) < (st.length : Int) := by omega
  have r5 : (0 : Int) ≤ (t : Int) := by omega
  have r6 : (t : Int) < (sn.length : Int) := by omega
  obtain ⟨m1, m2⟩ := dot_mul hs ha hb
  have HE : Hid (needM s a b = if s.E * (b.X - a.X) + s.N * (b.Y - a.Y) < 0 then 2 else 1) := by unfold Hid needM behind dot; by_cases h : s.E * (b.X - a.X) + s.N * (b.Y - a.Y) < 0 <;> simp [h]
  rw [ea1, ea4] at B1
  have HC1 := Lib.hid hC1
  have HC4 := Lib.hid hC4
  have HI := Lib.hid hi
  have HJ := Lib.hid hj
  have HT := Lib.hid ht
  clear ea1 ea4 hC1 hC4 h1 h4 hi hj ht
  unfold Stn.In at ha hb
  unfold Sn.In at hs
  go_enter Tryz.func122, Tryz.ntmps122
  go_wp2_with fail
  refine named1 (p := Code.wp _ _ _ _) ?_
  intro W hW B4
  (try clear c1 t1); replace B1 := B1.later hW; have c1 := B1.cell; have t1 := B1.lt
  have c4 := B4.cell; have t4 := B4.lt
  obtain ⟨e0, e1, e2, e3⟩ := cells_st (HC1.out.later hW) HI.out
  obtain ⟨f0, f1, f2, f3⟩ := cells_st (HC1.out.later hW) HJ.out
  obtain ⟨g0, g1, g2⟩ := cells_sn (HC4.out.later hW) HT.out
  have z1 : p1 < W.heap.size := block_lt_of_cell e0
  have z4 : p4 < W.heap.size := block_lt_of_cell g0
  refine Fat.wp_region 32 [26, 27, 28, 29, 30, 31] [(29, 26), (30, 27), (31, 28)] (tri 29 30 31 26 27 86 87 a b s) tri_lasting tri_local (by kernel_rfl) (by kernel_rfl) ?_
  simp only [List.take_succ_cons, List.take_nil, Fat.pick, List.contains_cons, List.contains_nil, Nat.reduceAdd, Nat.reduceBEq]
  repeat (first | simp only [Bool.or_false] | simp only [Bool.or_true] | simp only [Bool.true_or] | simp only [Bool.false_eq_true] | simp only [if_true] | simp only [if_false])
  repeat (go_big_quiet_step (fail))
  refine wpQuiet_nil ?_
  refine ⟨?_, ?_, ?_⟩
  · intro i o hi hown ho vals lo hi' W hW hdep
    simp only [List.contains_cons, List.contains_nil, Bool.or_false] at hi
    (try simp only [Bool.or_eq_true] at hi)
    simp only [beq_iff_eq] at hi
    rcases hi with rfl | rfl | rfl | rfl | rfl | rfl
    all_goals first
      | exact absurd hown (by decide)
      | (simp only [List.getElem?_cons_succ, List.getElem?_cons_zero, Option.some.injEq] at ho; subst ho; refine .inl ⟨rfl, ?_⟩; simp only [Fat.putN, Fat.dstOf, Act.put, List.getElem?_toArray, List.getElem?_cons_succ, List.getElem?_cons_zero, Option.bind_some, List.setIfInBounds_toArray, List.set_cons_succ, List.set_cons_zero])
    · go_simp
      exact newSpec_new _ _ _
    · go_simp
      exact newSpec_new _ _ _
    · go_simp
      exact newSpec_new _ _ _
  · intro i o hi hown ho vals lo hi' W hW hdep
    simp only [List.contains_cons, List.contains_nil, Bool.or_false] at hi
    (try simp only [Bool.or_eq_true] at hi)
    simp only [beq_iff_eq] at hi
    rcases hi with rfl | rfl | rfl | rfl | rfl | rfl
    all_goals first
      | exact absurd (by decide) hown
      | (simp only [List.getElem?_cons_succ, List.getElem?_cons_zero, Option.some.injEq] at ho; subst ho; refine ⟨rfl, ?_⟩; simp only [Fat.putN, Fat.dstOf, Act.put, List.getElem?_toArray, List.getElem?_cons_succ, List.getElem?_cons_zero, Option.bind_some, List.setIfInBounds_toArray, List.set_cons_succ, List.set_cons_zero]; (try simp only [Option.bind_none]))
    · obtain ⟨_, _, _, hn⟩ := hdep 26 rfl (by kernel_rfl)
      exact gives_fill (x := .tmp 7) (y := .tmp 18) rfl hn #[.int .i64 a.X, .int .i64 a.Y, .int .i64 a.Z, .int .i64 a.M] rfl rfl rfl (by kernel_rfl) rfl
    · obtain ⟨_, _, _, hn⟩ := hdep 27 rfl (by kernel_rfl)
      exact gives_fill (x := .tmp 8) (y := .tmp 27) rfl hn #[.int .i64 b.X, .int .i64 b.Y, .int .i64 b.Z, .int .i64 b.M] rfl rfl rfl (by kernel_rfl) rfl
    · obtain ⟨_, _, _, hn⟩ := hdep 28 rfl (by kernel_rfl)
      exact gives_fill (x := .tmp 9) (y := .tmp 35) rfl hn #[.int .i64 s.E, .int .i64 s.N, .int .i64 s.U] rfl rfl rfl (by kernel_rfl) rfl
  · intro vals lo hi' w5 hb3 hphi hdis htied
    obtain ⟨_, _, _, (q26 : vals 26 = _), _⟩ := hphi 26 rfl
    obtain ⟨_, _, _, (q27 : vals 27 = _), _⟩ := hphi 27 rfl
    obtain ⟨_, _, _, (q28 : vals 28 = _), _⟩ := hphi 28 rfl
    obtain ⟨_, _, _, _, (B9 : Box w5 (lo 29) _ _)⟩ := hphi 29 rfl
    obtain ⟨_, _, _, _, (B10 : Box w5 (lo 30) _ _)⟩ := hphi 30 rfl
    obtain ⟨_, _, _, _, (B11 : Box w5 (lo 31) _ _)⟩ := hphi 31 rfl
    rw [(htied 29 rfl (by decide)).1] at B9
    rw [(htied 30 rfl (by decide)).1] at B10
    rw [(htied 31 rfl (by decide)).1] at B11
    simp only [Fat.putN, Fat.dstOf, Act.put, List.getElem?_toArray, List.getElem?_cons_succ, List.getElem?_cons_zero, Option.bind_some, List.setIfInBounds_toArray, List.set_cons_succ, List.set_cons_zero, List.drop_succ_cons, List.drop_nil]
    (try simp only [Option.bind_none])
    rw [q26, q27, q28]
    clear q26 q27 q28 hphi hdis htied vals
    replace B9 : Box w5 (lo 26) _ _ := B9
    replace B10 : Box w5 (lo 27) _ _ := B10
    replace B11 : Box w5 (lo 28) _ _ := B11
    generalize lo 26 = b9 at *
    generalize lo 27 = b10 at *
    generalize lo 28 = b11 at *
    replace hW := over hW hb3
    clear hb3 e0 e1 e2 e3 f0 f1 f2 f3 g0 g1 g2 z1 z4 B4 c4 t4 B1 c1 t1
    have c9 := B9.cell; have t9 := B9.lt; have c10 := B10.cell; have t10 := B10.lt; have c11 := B11.cell; have t11 := B11.lt
    go_wp2_with fail
    all_goals
      go_ret
      exact ⟨ret_int (by rw [HE.out]; split <;> omega), hW⟩
end Go.Proofs.YtingfmdbihbamaaGreat
end

section
/- Layer 1, the walks: the error of a land (the reference's). -/
open Go.RowKit
namespace Go.Proofs.YtingfmdbihbamaaGreat
open Go.Hill

theorem take_all {α : Type} {p : α → Bool} {l : List α} {k : Nat} {x : α} (h : (l.take k).all p = true) (hx : l[k]? = some x) (hp : p x = true) : (l.take (k + 1)).all p = true := by
  obtain ⟨hk, rfl⟩ := List.getElem?_eq_some_iff.1 hx
  rw [List.take_succ_eq_append_getElem hk, List.all_append, h]; simp [hp]
theorem all_false {α : Type} {p : α → Bool} {l : List α} {k : Nat} {x : α} (hx : l[k]? = some x) (hp : p x = false) : l.all p = false := by
  rw [List.all_eq_false]; exact ⟨x, List.mem_of_getElem? hx, by simp [hp]⟩
theorem take_full {α : Type} {p : α → Bool} {l : List α} {k : Nat} (h : (l.take k).all p = true) (hk : l.length ≤ k) : l.all p = true := by
  rwa [List.take_of_length_le hk] at h

theorem chk_one {L : Land} (hl : L.lim = false) (ha : L.arg = true) : L.chk = 1 := by simp [Land.chk, hl, ha]
theorem arg_empty {L : Land} (h : L.st.length = 0 ∨ L.cs.length = 0 ∨ L.sn.length = 0) : L.arg = true := by
  unfold Land.arg
  rcases h with h | h | h <;> rw [h] <;> simp
theorem chk_zero {L : Land} (hl : L.lim = false) (ha : L.arg = false) : L.chk = 0 := by simp [Land.chk, hl, ha]

set_option maxRecDepth 100000 in
set_option maxHeartbeats 4000000 in
theorem fault_any (q : LV) (L : Land) (w : World) (hL : LandAt w q L) (l1 : L.st.length ≤ 1000) (l2 : L.rd.length ≤ 1000) (l3 : L.cs.length ≤ 1000) (l4 : L.sn.length ≤ 1000) (l5 : ∀ c ∈ L.cs, c.length ≤ 1000) :
    Calls Tryz.prog 5 #[.agg #[.slice q.a1 L.st.length q.c1, .slice q.a2 L.rd.length q.c2, .slice q.a3 L.cs.length q.c3, .slice q.a4 L.sn.length q.c4]] w (Ret (.int .i64 L.chk) w) := by
  obtain ⟨cl, hcl, hrow, hcs⟩ := hL.cs
  have hcll : cl.length = L.cs.length := by rw [← hcl]; simp
  have HL := Lib.hid hL
  have HRow := Lib.hid hrow
  have HCs := Lib.hid hcs
  have HCl := Lib.hid hcl
  have HCll := Lib.hid hcll
  have H5 := Lib.hid l5
  have HM : Hid (∀ c ∈ cl, c.cs.length ≤ 1000) := fun c hc => l5 c.cs (by rw [← hcl]; exact List.mem_map_of_mem hc)
  have E4 : Hid ((cl.all fun x => decide (x.cs.length ≤ 4)) = L.cs.all fun c => decide (c.length ≤ 4)) := by rw [Hid, ← hcl]; simp [List.all_map, Function.comp_def]
  have E5 : Hid ((cl.all fun x => x.cs.all (·.ok L.sn.length)) = L.cs.all fun c => c.all (·.ok L.sn.length)) := by rw [Hid, ← hcl]; simp [List.all_map, Function.comp_def]
  clear hL hrow hcs hcl hcll l5
  by_cases hv : L.st.length ≤ 6 ∧ L.rd.length ≤ 6 ∧ L.cs.length ≤ 4 ∧ L.sn.length ≤ 12
  case neg =>
    go_enter Tryz.func5, Tryz.ntmps5
    go_wp2_with fail
    all_goals first
      | (go_ret; exact ⟨ret_int (by simp [Land.chk, Land.lim]; omega), (by repeat (first | exact Below.refl _ _ | refine al ?_ _ | refine Below.drew ?_ | refine sc ?_ (by simp) _))⟩)
      | (exfalso; omega)
  obtain ⟨v1, v2, v3, v4⟩ := hv
  have d1 : decide ((6 : Int) < (L.st.length : Int)) = false := by simp; omega
  have d2 : decide ((6 : Int) < (L.rd.length : Int)) = false := by simp; omega
  have d3 : decide ((4 : Int) < (L.cs.length : Int)) = false := by simp; omega
  have d4 : decide ((12 : Int) < (L.sn.length : Int)) = false := by simp; omega
  go_enter Tryz.func5, Tryz.ntmps5
  go_wp2_with fail
  clear d1 d2 d3 d4
  refine named1 (p := Code.wp _ _ _ _) ?_
  intro W hW B1
  go_loopw [3] (fun i wr => ∃ k : Nat, k ≤ L.cs.length ∧ i = .int .i64 k ∧ Below W.heap.size W wr ∧ ((cl.take k).all fun x => decide (x.cs.length ≤ 4)) = true) (fun i _ => L.cs.length - (intOf i).toNat)
  case atStart => exact ⟨0, Nat.zero_le _, rfl, Below.refl _ _, rfl⟩
  case round =>
    obtain ⟨k, hk, rfl, hb, hp⟩ := hrel
    have HP := Lib.hid hp
    clear hp
    (try clear c1 t1); replace B1 := B1.later hb; have c1 := B1.cell; have t1 := B1.lt
    by_cases hlt : k < L.cs.length
    · obtain ⟨b3, o3, ea, hC⟩ := RowAt.at (k := k) HRow.out (by rw [HCll.out]; exact hlt)
      obtain ⟨x, hx⟩ : ∃ x, cl[k]? = some x := ⟨cl[k]'(by rw [HCll.out]; exact hlt), by simp⟩
      have e0 := cells_one ((hC.later hW).later hb) hx
      have hxl := HM.out x (List.mem_of_getElem? hx)
      have HX := Lib.hid hx
      rw [ea] at c1
      clear hx hC ea
      by_cases hx4 : x.cs.length ≤ 4
      · go_wp2_with fail
        go_roundw
        case rel => exact ⟨k + 1, by omega, by go_num, hb, take_all HP.out HX.out (by simpa using hx4)⟩
        case measure => simp [intOf]; omega
      · go_wp2_with fail
        go_ret
        exact ⟨ret_int (by rw [Land.chk, if_pos]; rw [Land.lim, ← E4.out, all_false HX.out (by simpa using hx4)]; simp), over hW hb⟩
    · have HLim : Hid (L.lim = false) := by
        have := take_full HP.out (by rw [HCll.out]; omega)
        rw [E4.out] at this
        rw [Hid, Land.lim, this]; simp; omega
      clear HP
      by_cases he : L.st.length = 0 ∨ L.cs.length = 0 ∨ L.sn.length = 0
      · have HE := Lib.hid he
        clear he
        go_wp2_with fail
        all_goals first
          | (go_ret; exact ⟨ret_int (chk_one HLim.out (arg_empty HE.out)).symm, over hW hb⟩)
          | (exfalso; have := HE.out; simp_all; done)
      have HE0 : Hid (L.st.length ≠ 0 ∧ L.cs.length ≠ 0 ∧ L.sn.length ≠ 0) := by unfold Hid; omega
      have d1 : ((L.st.length : Int) == 0) = false := by simp; intro h; simp [h] at he
      have d2 : ((L.cs.length : Int) == 0) = false := by simp; intro h; simp [h] at he
      have d3 : ((L.sn.length : Int) == 0) = false := by simp; intro h; simp [h] at he
      clear he
      go_wp2_with fail
      clear d1 d2 d3
      clear hlt hk
      replace hW := over hW hb
      obtain ⟨W2, rfl⟩ : ∃ W2 : World, W2 = wr := ⟨_, rfl⟩
      clear hb
      go_loopw [4] (fun i wr => ∃ k : Nat, k ≤ L.st.length ∧ i = .int .i64 k ∧ Below W2.heap.size W2 wr ∧ (L.st.take k).all Stn.ok = true ∧ apartTo L.st k = true) (fun i _ => L.st.length - (intOf i).toNat)
      case atStart => exact ⟨0, Nat.zero_le _, rfl, Below.refl _ _, rfl, rfl⟩
      case round =>
        obtain ⟨k, hk, rfl, hb, hp, hap⟩ := hrel
        have HP := Lib.hid hp
        have HA := Lib.hid hap
        clear hp hap
        (try clear c1 t1); replace B1 := B1.later hb; have c1 := B1.cell; have t1 := B1.lt
        by_cases hlt : k < L.st.length
        · obtain ⟨b3, o3, ea, hC⟩ := RowAt.at (k := k) HL.out.st hlt
          obtain ⟨x, hx⟩ : ∃ x, L.st[k]? = some x := ⟨L.st[k], by simp⟩
          obtain ⟨e0, e1, e2, e3⟩ := cells_st ((hC.later hW).later hb) hx
          have HX := Lib.hid hx
          have HC := Lib.hid hC
          rw [ea] at c1 B1
          clear hx hC ea
          go_wp2_with fail
          obtain ⟨wo, rfl⟩ : ∃ wo : World, wo = wr := ⟨_, rfl⟩
          refine named1 (p := fun W => Calls _ _ _ W _) ?_
          intro w1 hb1 B5
          replace hb := over hb hb1
          (try clear c1 t1); replace B1 := B1.later hb1; have c1 := B1.cell; have t1 := B1.lt
          have c5 := B5.cell; have t5 := B5.lt
          clear hb1 e0 e1 e2 e3
          have HO : Hid (x.ok = (inB x.X 0 100 && inB x.Y 0 100 && inB x.Z 0 1000 && inB x.M 1 2)) := rfl
          go_wp2_with (go_at_call 16; refine (in_any _ _ _ _).mono ?_; rintro e w' ⟨rfl, hb'⟩; replace hb := over hb hb'; (try clear c1 t1 c5 t5); replace B1 := B1.later hb'; replace B5 := B5.later hb'; have c1 := B1.cell; have t1 := B1.lt; have c5 := B5.cell; have t5 := B5.lt; clear hb')
          all_goals first
            | (go_ret; exact ⟨ret_int (chk_one HLim.out (by rw [Land.arg, all_false HX.out (show x.ok = false by rw [HO.out]; simp_all)]; simp)).symm, over hW hb⟩)
            | skip
          have HXk : Hid (x.ok = true) := by rw [Hid, HO.out]; simp_all
          clear HO
          rename World => w2
          go_loopw [6] (fun i wi => ∃ m : Nat, m ≤ k ∧ i = .int .i64 m ∧ Below w2.heap.size w2 wi ∧ ∀ j, j < m → sameAt L.st j k = false) (fun i _ => k - (intOf i).toNat)
          case atStart => exact ⟨0, Nat.zero_le _, rfl, Below.refl _ _, fun j hj => by omega⟩
          case round =>
            obtain ⟨m, hm, rfl, hb2, hno⟩ := hrel
            have HN := Lib.hid hno
            clear hno
            (try clear c1 t1 c5 t5); replace B1 := B1.later hb2; replace B5 := B5.later hb2; have c1 := B1.cell; have t1 := B1.lt; have c5 := B5.cell; have t5 := B5.lt
            by_cases hlm : m < k
            · obtain ⟨y, hy⟩ : ∃ y, L.st[m]? = some y := ⟨L.st[m]'(by omega), by simp⟩
              obtain ⟨e0, e1, e2, e3⟩ := cells_st ((HC.out.later hW).later (over hb hb2)) hy
              have z1 : b3 < wr.heap.size := block_lt_of_cell e0
              have HS : Hid (sameAt L.st m k = (y.X == x.X && y.Y == x.Y)) := by simp [Hid, sameAt, hy, HX.out]
              clear hy
              have y1 : (0 : Int) ≤ (m : Int) := by omega
              have y2 : (m : Int) < (L.st.length : Int) := by omega
              by_cases hXX : y.X = x.X
              · have hXB : (y.X == x.X) = true := by simpa using hXX
                by_cases hYY : y.Y = x.Y
                · have hYB : (y.Y == x.Y) = true := by simpa using hYY
                  have HSS : Hid (sameAt L.st m k = true) := by rw [Hid, HS.out, hXB, hYB]; rfl
                  clear HS hXX hYY
                  go_wp2_with fail
                  refine Fat.wp_region_tail 20 (by kernel_rfl) (by kernel_rfl) ?_
                  simp only [List.take_succ_cons, List.drop_succ_cons, List.take_nil, List.drop_nil]
                  repeat (go_big_quiet_step (fail))
                  refine wpQuiet_nil ?_
                  intro w4 hb4
                  replace hb2 := over hb2 hb4
                  clear hb4
                  go_wp2_with fail
                  go_ret
                  exact ⟨ret_int (chk_one HLim.out (by rw [Land.arg, not_apart hlm hlt HSS.out]; simp)).symm, over hW (over hb hb2)⟩
                · have hYB : (y.Y == x.Y) = false := by simpa using hYY
                  have HSS : Hid (sameAt L.st m k = false) := by rw [Hid, HS.out, hXB, hYB]; rfl
                  clear HS hXX hYY
                  go_wp2_with fail
                  refine Fat.wp_region_tail 20 (by kernel_rfl) (by kernel_rfl) ?_
                  simp only [List.take_succ_cons, List.drop_succ_cons, List.take_nil, List.drop_nil]
                  repeat (go_big_quiet_step (fail))
                  refine wpQuiet_nil ?_
                  intro w4 hb4
                  replace hb2 := over hb2 hb4
                  clear hb4
                  go_wp2_with fail
                  go_roundw
                  case rel =>
                    refine ⟨m + 1, by omega, by go_num, hb2, fun j hj => ?_⟩
                    rcases Nat.lt_succ_iff_lt_or_eq.1 hj with h | h
                    · exact HN.out j h
                    · subst h; exact HSS.out
                  case measure => simp [intOf]; omega
              · have hXB : (y.X == x.X) = false := by simpa using hXX
                have HSS : Hid (sameAt L.st m k = false) := by rw [Hid, HS.out, hXB]; rfl
                clear HS hXX
                go_wp2_with fail
                refine Fat.wp_region_tail 20 (by kernel_rfl) (by kernel_rfl) ?_
                simp only [List.take_succ_cons, List.drop_succ_cons, List.take_nil, List.drop_nil]
                repeat (go_big_quiet_step (fail))
                refine wpQuiet_nil ?_
                intro w4 hb4
                replace hb2 := over hb2 hb4
                clear hb4
                go_wp2_with fail
                go_roundw
                case rel =>
                  refine ⟨m + 1, by omega, by go_num, hb2, fun j hj => ?_⟩
                  rcases Nat.lt_succ_iff_lt_or_eq.1 hj with h | h
                  · exact HN.out j h
                  · subst h; exact HSS.out
                case measure => simp [intOf]; omega
            · go_wp2_with fail
              go_roundw
              case rel =>
                refine ⟨k + 1, by omega, by go_num, over hb hb2, take_all HP.out HX.out HXk.out, ?_⟩
                rw [apartTo_succ, HA.out, all_range fun j hj => by rw [HN.out j (by omega)]; rfl]
                rfl
              case measure => simp [intOf]; omega
        · have HSt := Lib.hid (take_full HP.out (by omega))
          have HAp : Hid (apartTo L.st L.st.length = true) := by
            obtain rfl : k = L.st.length := by omega
            exact HA.out
          clear HP HA
          replace hW := over hW hb
          clear hb
          go_wp2_with fail
          obtain ⟨W3, rfl⟩ : ∃ W3 : World, W3 = wr := ⟨_, rfl⟩
          clear hlt hk
          go_loopw [7] (fun i wr => ∃ k : Nat, k ≤ L.rd.length ∧ i = .int .i64 k ∧ Below W3.heap.size W3 wr ∧ (L.rd.take k).all Wl.rg = true) (fun i _ => L.rd.length - (intOf i).toNat)
          case atStart => exact ⟨0, Nat.zero_le _, rfl, Below.refl _ _, rfl⟩
          case round =>
            obtain ⟨k, hk, rfl, hb, hp⟩ := hrel
            have HP := Lib.hid hp
            clear hp
            (try clear c1 t1); replace B1 := B1.later hb; have c1 := B1.cell; have t1 := B1.lt
            by_cases hlt : k < L.rd.length
            · obtain ⟨b3, o3, ea, hC⟩ := RowAt.at (k := k) HL.out.rd hlt
              obtain ⟨x, hx⟩ : ∃ x, L.rd[k]? = some x := ⟨L.rd[k], by simp⟩
              have HX := Lib.hid hx
              have HC := Lib.hid hC
              obtain ⟨e0, e1, e2, e3, e4, e5⟩ := cells_wl ((hC.later hW).later hb) hx
              rw [ea] at c1 B1
              clear hx hC ea
              go_wp2_with fail
              refine (iswall_any x _).mono ?_
              rintro e w1 ⟨rfl, hb1⟩
              replace hb := over hb hb1
              (try clear c1 t1); replace B1 := B1.later hb1; have c1 := B1.cell; have t1 := B1.lt
              clear hb1 e0 e1 e2 e3 e4 e5
              obtain ⟨_, _, _, _, e4, _⟩ := cells_wl ((HC.out.later hW).later hb) HX.out
              obtain ⟨xo, hxo⟩ : ∃ b, b = x.ok := ⟨_, rfl⟩
              rw [← hxo]
              have HXo := Lib.hid hxo
              clear hxo
              cases xo with
              | false =>
                go_wp2_with fail
                go_ret
                exact ⟨ret_int (chk_one HLim.out (by rw [Land.arg, all_false HX.out (show x.rg = false by rw [Wl.rg, ← HXo.out]; rfl)]; simp)).symm, over hW hb⟩
              | true =>
                by_cases hB0 : x.B = 0
                · have hBB : (x.B != 0) = false := by simp [hB0]
                  have HB0 := Lib.hid hB0
                  clear hB0
                  go_wp2_with fail
                  go_roundw
                  case rel => exact ⟨k + 1, by omega, by go_num, hb, take_all HP.out HX.out (show x.rg = true by rw [Wl.rg, ← HXo.out, HB0.out]; rfl)⟩
                  case measure => simp [intOf]; omega
                · have hBB : (x.B != 0) = true := by simpa using hB0
                  have HB0 := Lib.hid hB0
                  clear hB0
                  go_wp2_with fail
                  go_ret
                  exact ⟨ret_int (chk_one HLim.out (by rw [Land.arg, all_false HX.out (show x.rg = false by rw [Wl.rg, ← HXo.out]; simpa using HB0.out)]; simp)).symm, over hW hb⟩
            · have HRd := Lib.hid (take_full HP.out (by omega))
              clear HP
              replace hW := over hW hb
              clear hb
              go_wp2_with fail
              obtain ⟨W4, rfl⟩ : ∃ W4 : World, W4 = wr := ⟨_, rfl⟩
              clear hlt hk
              go_loopw [8] (fun i wr => ∃ k : Nat, k ≤ L.cs.length ∧ i = .int .i64 k ∧ Below W4.heap.size W4 wr ∧ ((cl.take k).all fun x => x.cs.all (·.ok L.sn.length)) = true) (fun i _ => L.cs.length - (intOf i).toNat)
              case atStart => exact ⟨0, Nat.zero_le _, rfl, Below.refl _ _, rfl⟩
              case round =>
                obtain ⟨k, hk, rfl, hb, hp⟩ := hrel
                have HP := Lib.hid hp
                clear hp
                (try clear c1 t1); replace B1 := B1.later hb; have c1 := B1.cell; have t1 := B1.lt
                by_cases hlt : k < L.cs.length
                · obtain ⟨b3, o3, ea, hC⟩ := RowAt.at (k := k) HRow.out (by rw [HCll.out]; exact hlt)
                  obtain ⟨x, hx⟩ : ∃ x, cl[k]? = some x := ⟨cl[k]'(by rw [HCll.out]; exact hlt), by simp⟩
                  have hxl := HM.out x (List.mem_of_getElem? hx)
                  have HX := Lib.hid hx
                  have HC := Lib.hid hC
                  rw [ea] at c1 B1
                  clear hx hC ea
                  go_wp2_with fail
                  obtain ⟨W5, rfl⟩ : ∃ W5 : World, W5 = wr := ⟨_, rfl⟩
                  go_loopw [9] (fun i wi => ∃ m : Nat, m ≤ x.cs.length ∧ i = .int .i64 m ∧ Below W5.heap.size W5 wi ∧ ((x.cs.take m).all (·.ok L.sn.length)) = true) (fun i _ => x.cs.length - (intOf i).toNat)
                  case atStart => exact ⟨0, Nat.zero_le _, rfl, Below.refl _ _, rfl⟩
                  case round =>
                    obtain ⟨m, hm, rfl, hb2, hp2⟩ := hrel
                    have HP2 := Lib.hid hp2
                    clear hp2
                    (try clear c1 t1); replace B1 := B1.later hb2; have c1 := B1.cell; have t1 := B1.lt
                    have e0 := cells_one ((HC.out.later hW).later (over hb hb2)) HX.out
                    by_cases hlm : m < x.cs.length
                    · obtain ⟨b4, o4, ea, hC⟩ := RowAt.at (k := m) (HCs.out x (List.mem_of_getElem? HX.out)) hlm
                      obtain ⟨y, hy⟩ : ∃ y, x.cs[m]? = some y := ⟨x.cs[m], by simp⟩
                      obtain ⟨f0, f1, f2, f3, f4, f5, f6, f7⟩ := cells_cd ((hC.later hW).later (over hb hb2)) hy
                      have HY := Lib.hid hy
                      rw [ea] at e0
                      clear hy hC ea
                      have HO : Hid (y.ok L.sn.length = (y.wl.ok && inB y.fr 0 y.to && decide (y.to < L.sn.length))) := rfl
                      go_wp2_with fail
                      obtain ⟨wo, rfl⟩ : ∃ wo : World, wo = wr := ⟨_, rfl⟩
                      refine named1 (p := fun W => Calls _ _ _ W _) ?_
                      intro w1 hb1 B10
                      replace hb2 := over hb2 hb1
                      (try clear c1 t1); replace B1 := B1.later hb1; have c1 := B1.cell; have t1 := B1.lt
                      clear hb1 e0 f0 f1 f2 f3 f4 f5 f6 f7
                      refine (iswall_any y.wl _).mono ?_
                      rintro e w3 ⟨rfl, hb3⟩
                      replace hb2 := over hb2 hb3
                      (try clear c1 t1 c10 t10); replace B1 := B1.later hb3; replace B10 := B10.later hb3; have c1 := B1.cell; have t1 := B1.lt; have c10 := B10.cell; have t10 := B10.lt
                      clear hb3
                      obtain ⟨yo, hyo⟩ : ∃ b, b = y.wl.ok := ⟨_, rfl⟩
                      rw [← hyo]
                      have HYo := Lib.hid hyo
                      clear hyo
                      cases yo with
                      | false =>
                        go_wp2_with fail
                        go_ret
                        exact ⟨ret_int (chk_one HLim.out (by rw [Land.arg, ← E5.out, all_false HX.out (all_false HY.out (by rw [HO.out, ← HYo.out]; rfl))]; simp)).symm, over hW (over hb hb2)⟩
                      | true =>
                        go_wp2_with fail
                        refine (in_any _ _ _ _).mono ?_
                        rintro e w4 ⟨rfl, hb4⟩
                        replace hb2 := over hb2 hb4
                        (try clear c1 t1 c10 t10); replace B1 := B1.later hb4; replace B10 := B10.later hb4; have c1 := B1.cell; have t1 := B1.lt; have c10 := B10.cell; have t10 := B10.lt
                        clear hb4
                        obtain ⟨yi, hyi⟩ : ∃ b, b = inB y.fr 0 y.to := ⟨_, rfl⟩
                        rw [← hyi]
                        have HYi := Lib.hid hyi
                        clear hyi
                        cases yi with
                        | false =>
                          go_wp2_with fail
                          go_ret
                          exact ⟨ret_int (chk_one HLim.out (by rw [Land.arg, ← E5.out, all_false HX.out (all_false HY.out (by rw [HO.out, ← HYi.out, Bool.and_false]; rfl))]; simp)).symm, over hW (over hb hb2)⟩
                        | true =>
                          by_cases hto : y.to < L.sn.length
                          · have HT : Hid (y.ok L.sn.length = true) := by rw [Hid, HO.out, ← HYo.out, ← HYi.out]; simpa using hto
                            go_wp2_with fail
                            go_roundw
                            case rel => exact ⟨m + 1, by omega, by go_num, hb2, take_all HP2.out HY.out HT.out⟩
                            case measure => simp [intOf]; omega
                          · have HT : Hid (y.ok L.sn.length = false) := by rw [Hid, HO.out, ← HYo.out, ← HYi.out]; simpa using hto
                            go_wp2_with fail
                            go_ret
                            exact ⟨ret_int (chk_one HLim.out (by rw [Land.arg, ← E5.out, all_false HX.out (all_false HY.out HT.out)]; simp)).symm, over hW (over hb hb2)⟩
                    · have HT := Lib.hid (take_full HP2.out (by omega))
                      go_wp2_with fail
                      go_roundw
                      case rel => exact ⟨k + 1, by omega, by go_num, over hb hb2, take_all HP.out HX.out HT.out⟩
                      case measure => simp [intOf]; omega
                · have HCd : Hid ((L.cs.all fun c => c.all (·.ok L.sn.length)) = true) := by rw [Hid, ← E5.out]; exact take_full HP.out (by rw [HCll.out]; omega)
                  clear HP
                  replace hW := over hW hb
                  clear hb
                  go_wp2_with fail
                  obtain ⟨W6, rfl⟩ : ∃ W6 : World, W6 = wr := ⟨_, rfl⟩
                  clear hlt hk
                  go_loopw [11] (fun i wr => ∃ k : Nat, k ≤ L.sn.length ∧ i = .int .i64 k ∧ Below W6.heap.size W6 wr ∧ (L.sn.take k).all Sn.ok = true) (fun i _ => L.sn.length - (intOf i).toNat)
                  case atStart => exact ⟨0, Nat.zero_le _, rfl, Below.refl _ _, rfl⟩
                  case round =>
                    obtain ⟨k, hk, rfl, hb, hp⟩ := hrel
                    have HP := Lib.hid hp
                    clear hp
                    (try clear c1 t1); replace B1 := B1.later hb; have c1 := B1.cell; have t1 := B1.lt
                    by_cases hlt : k < L.sn.length
                    · obtain ⟨b3, o3, ea, hC⟩ := RowAt.at (k := k) HL.out.sn hlt
                      obtain ⟨x, hx⟩ : ∃ x, L.sn[k]? = some x := ⟨L.sn[k], by simp⟩
                      obtain ⟨e0, e1, e2⟩ := cells_sn ((hC.later hW).later hb) hx
                      have HX := Lib.hid hx
                      rw [ea] at c1 B1
                      clear hx hC ea
                      go_wp2_with fail
                      obtain ⟨wo, rfl⟩ : ∃ wo : World, wo = wr := ⟨_, rfl⟩
                      refine named1 (p := fun W => Calls _ _ _ W _) ?_
                      intro w1 hb1 B12
                      replace hb := over hb hb1
                      (try clear c1 t1); replace B1 := B1.later hb1; have c1 := B1.cell; have t1 := B1.lt
                      have c12 := B12.cell; have t12 := B12.lt
                      clear hb1 e0 e1 e2
                      have HO : Hid (x.ok = (inB x.E (-100) 100 && inB x.N (-100) 100 && inB x.U (-100) 100)) := rfl
                      go_wp2_with (go_at_call 16; refine (in_any _ _ _ _).mono ?_; rintro e w' ⟨rfl, hb'⟩; replace hb := over hb hb'; (try clear c1 t1 c12 t12); replace B1 := B1.later hb'; replace B12 := B12.later hb'; have c1 := B1.cell; have t1 := B1.lt; have c12 := B12.cell; have t12 := B12.lt; clear hb')
                      all_goals first
                        | (go_ret; exact ⟨ret_int (chk_one HLim.out (by rw [Land.arg, all_false HX.out (show x.ok = false by rw [HO.out]; simp_all)]; simp)).symm, over hW hb⟩)
                        | skip
                      have HXk : Hid (x.ok = true) := by rw [Hid, HO.out]; simp_all
                      go_roundw
                      case rel => exact ⟨k + 1, by omega, by go_num, hb, take_all HP.out HX.out HXk.out⟩
                      case measure => simp [intOf]; omega
                    · have HSn := Lib.hid (take_full HP.out (by omega))
                      go_wp2_with fail
                      go_ret
                      exact ⟨ret_int (chk_zero HLim.out (by have := HE0.out; rw [Land.arg, HSt.out, HAp.out, HRd.out, HCd.out, HSn.out]; simp at this ⊢; exact ⟨⟨this.1, this.2.1⟩, this.2.2⟩)).symm, over hW hb⟩
end Go.Proofs.YtingfmdbihbamaaGreat
end

section
/- The statements' own helpers: errors, lists compared, lands that are thin. -/
open Go.RowKit
namespace Go.Proofs.YtingfmdbihbamaaGreat
open Go.Hill

/-- Lengths that no counter outgrows. -/
structure Small (L : Land) : Prop where
  l1 : L.st.length ≤ 1000
  l2 : L.rd.length ≤ 1000
  l3 : L.cs.length ≤ 1000
  l4 : L.sn.length ≤ 1000
  l5 : ∀ c ∈ L.cs, c.length ≤ 1000


/-- The error of a land with stations, a case and an hour. -/
def Land.ask (L : Land) (fr to k t : Int) : Int := if L.chk = 0 then askd L.st.length L.cs.length L.sn.length fr to k t else L.chk


/-- A list of ints in memory. -/

theorem take_eq_succ {α : Type} {l m : List α} {k : Nat} {x : α} (h : l.take k = m.take k) (h1 : l[k]? = some x) (h2 : m[k]? = some x) : l.take (k + 1) = m.take (k + 1) := by
  obtain ⟨k1, rfl⟩ := List.getElem?_eq_some_iff.1 h1
  obtain ⟨k2, e⟩ := List.getElem?_eq_some_iff.1 h2
  rw [List.take_succ_eq_append_getElem k1, List.take_succ_eq_append_getElem k2, h, e]

end Go.Proofs.YtingfmdbihbamaaGreat
end

section
/- The statements' own helpers: walls converted, thin lands. -/
open Go.RowKit
namespace Go.Proofs.YtingfmdbihbamaaGreat
open Go.Hill

theorem wall_any (s : Wl) (w : World) : Calls Tryz.prog 21 #[.agg #[.int .i64 s.X1, .int .i64 s.Y1, .int .i64 s.X2, .int .i64 s.Y2, .int .i64 s.B, .int .i64 s.T]] w (Ret (.agg #[.int .i64 s.X1, .int .i64 s.Y1, .int .i64 s.X2, .int .i64 s.Y2, .int .i64 s.B, .int .i64 s.T]) w) := by
  go_enter Tryz.func21, Tryz.ntmps21
  go_wp2
  exact bodyPost_ret (v := .agg #[.int .i64 s.X1, .int .i64 s.Y1, .int .i64 s.X2, .int .i64 s.Y2, .int .i64 s.B, .int .i64 s.T]) (by simp [results, Tryz.results21, go_sem]) rfl ⟨rfl, (by repeat (first | exact Below.refl _ _ | refine al ?_ _ | refine Below.drew ?_ | refine sc ?_ (by simp) _))⟩

/-- A land that is thin. -/
def thinB (L : Land) : Bool := ((L.cs.take 10).all fun c => decide (c.length ≤ 7)) && decide (L.st.length ≤ 9) && decide (L.rd.length ≤ 9) && decide (L.cs.length ≤ 9) && decide (L.sn.length ≤ 15)

theorem thin_small {L : Land} (h : thinB L = true) : Small L := by
  unfold thinB at h
  simp only [Bool.and_eq_true, decide_eq_true_eq] at h
  obtain ⟨⟨⟨⟨h1, h2⟩, h3⟩, h4⟩, h5⟩ := h
  refine ⟨by omega, by omega, by omega, by omega, fun c hc => ?_⟩
  rw [List.take_of_length_le (by omega), List.all_eq_true] at h1
  have := h1 c hc
  simp at this; omega

/-- Lengths as a slice in memory has them. -/
structure Sane (L : Land) : Prop where
  l1 : L.st.length ≤ 9223372036854775807
  l2 : L.rd.length ≤ 9223372036854775807
  l3 : L.cs.length ≤ 9223372036854775807
  l4 : L.sn.length ≤ 9223372036854775807
  l5 : ∀ c ∈ L.cs, c.length ≤ 9223372036854775807

theorem take_all2 {α : Type} {p : α → Bool} {l : List α} {k n : Nat} {x : α} (hx : l[k]? = some x) (hk : k < n) (hp : p x = false) : (l.take n).all p = false := by
  rw [List.all_eq_false]
  exact ⟨x, List.mem_of_getElem? (i := k) (by rw [List.getElem?_take_of_lt hk]; exact hx), by simp [hp]⟩

set_option maxRecDepth 100000 in
set_option maxHeartbeats 1000000 in
theorem thin_any (q : LV) (L : Land) (w : World) (hL : LandAt w q L) (hs : Sane L) :
    Calls Tryz.prog 4 #[.agg #[.slice q.a1 L.st.length q.c1, .slice q.a2 L.rd.length q.c2, .slice q.a3 L.cs.length q.c3, .slice q.a4 L.sn.length q.c4]] w (Ret (.bool (thinB L)) w) := by
  obtain ⟨cl, hcl, hrow, hcs⟩ := hL.cs
  have hcll : cl.length = L.cs.length := by rw [← hcl]; simp
  obtain ⟨l1, l2, l3, l4, l5⟩ := hs
  have HRow := Lib.hid hrow
  have HCll := Lib.hid hcll
  have HM : Hid (∀ c ∈ cl, c.cs.length ≤ 9223372036854775807) := fun c hc => l5 c.cs (by rw [← hcl]; exact List.mem_map_of_mem hc)
  have E4 : Hid (((cl.take 10).all fun x => decide (x.cs.length ≤ 7)) = (L.cs.take 10).all fun c => decide (c.length ≤ 7)) := by rw [Hid, ← hcl, ← List.map_take, List.all_map]; rfl
  clear hL hrow hcs hcl hcll l5
  go_enter Tryz.func4, Tryz.ntmps4
  go_wp2_with fail
  refine named1 (p := Code.wp _ _ _ _) ?_
  intro W hW B1
  go_loopw [3] (fun i wr => ∃ k : Nat, k ≤ L.cs.length ∧ k ≤ 10 ∧ i = .int .i64 k ∧ Below W.heap.size W wr ∧ ((cl.take k).all fun x => decide (x.cs.length ≤ 7)) = true) (fun i _ => 10 - (intOf i).toNat)
  case atStart => exact ⟨0, Nat.zero_le _, Nat.zero_le _, rfl, Below.refl _ _, rfl⟩
  case round =>
    obtain ⟨k, hk, hk10, rfl, hb, hp⟩ := hrel
    have HP := Lib.hid hp
    clear hp
    (try clear c1 t1); replace B1 := B1.later hb; have c1 := B1.cell; have t1 := B1.lt
    by_cases hlt : k < L.cs.length ∧ k < 10
    · obtain ⟨hlt, hl10⟩ := hlt
      obtain ⟨b3, o3, ea, hC⟩ := RowAt.at (k := k) HRow.out (by rw [HCll.out]; exact hlt)
      obtain ⟨x, hx⟩ : ∃ x, cl[k]? = some x := ⟨cl[k]'(by rw [HCll.out]; exact hlt), by simp⟩
      have e0 := cells_one ((hC.later hW).later hb) hx
      have hxl := HM.out x (List.mem_of_getElem? hx)
      have HX := Lib.hid hx
      rw [ea] at c1
      clear hx hC ea
      by_cases hx7 : x.cs.length ≤ 7
      · go_wp2_with fail
        go_roundw
        case rel => exact ⟨k + 1, by omega, by omega, by go_num, hb, take_all HP.out HX.out (by simpa using hx7)⟩
        case measure => simp [intOf]; omega
      · go_wp2_with fail
        go_ret
        exact ⟨ret_bool (by rw [thinB, ← E4.out, take_all2 HX.out hl10 (by simpa using hx7)]; rfl), over hW hb⟩
    · have HQ : Hid (((L.cs.take 10).all fun c => decide (c.length ≤ 7)) = true) := by
        rw [Hid, ← E4.out]
        by_cases h10 : k = 10
        · subst h10; exact HP.out
        · rw [List.take_of_length_le (by rw [HCll.out]; omega)]
          exact take_full HP.out (by rw [HCll.out]; omega)
      have HT : Hid (thinB L = (decide (L.st.length ≤ 9) && decide (L.rd.length ≤ 9) && decide (L.cs.length ≤ 9) && decide (L.sn.length ≤ 15))) := by rw [Hid, thinB, HQ.out]; rfl
      clear HP HQ
      by_cases hkc : k < L.cs.length
      all_goals
        go_wp2_with fail
        all_goals
          go_ret
          exact ⟨ret_bool (by rw [HT.out, Bool.eq_iff_iff]; simp; omega), over hW hb⟩
end Go.Proofs.YtingfmdbihbamaaGreat
end

section
/- The statements' own helpers: lands that are ready, pairs of stations, lists within lists. -/
open Go.RowKit
namespace Go.Proofs.YtingfmdbihbamaaGreat
open Go.Hill

def readyB (L : Land) : Bool := thinB L && L.chk == 0 && decide (1 < L.st.length)


/-- Two different stations, by a number. -/
def pairA (n c : Nat) : Nat := c % n
def pairB (n c : Nat) : Nat := (c % n + 1 + c / 8 % (n - 1)) % n
theorem pair_spec {n c : Nat} (h : 1 < n) : pairA n c < n ∧ pairB n c < n ∧ pairA n c ≠ pairB n c := by
  unfold pairA pairB
  have h1 := Nat.mod_lt c (show 0 < n by omega)
  have h2 := Nat.mod_lt (c / 8) (show 0 < n - 1 by omega)
  generalize c % n = x at *
  generalize c / 8 % (n - 1) = y at *
  refine ⟨h1, Nat.mod_lt _ (by omega), ?_⟩
  by_cases h3 : x + 1 + y < n
  · rw [Nat.mod_eq_of_lt h3]; omega
  · rw [Nat.mod_eq_sub_mod (by omega), Nat.mod_eq_of_lt (by omega)]; omega


/-- All numbers of one list are in another one. -/
def withinB (l m : List Int) : Bool := l.all fun x => m.contains x
theorem withinB_true {l m : List Int} (h : ∀ x, x ∈ l → m.contains x = true) : withinB l m = true := by
  simpa [withinB] using h
theorem withinB_false {l m : List Int} {k : Nat} {x : Int} (h : l[k]? = some x) (hm : m.contains x = false) : withinB l m = false := by
  have := List.mem_of_getElem? h
  have hm' : ¬ x ∈ m := by simpa using hm
  simp only [withinB, List.all_eq_false]
  exact ⟨x, this, by simpa using hm'⟩
theorem contains_take_succ {m : List Int} {j : Nat} {x y : Int} (h : m[j]? = some y) : (m.take (j + 1)).contains x = ((m.take j).contains x || y == x) := by
  rw [List.take_add_one, h]
  have e : (y == x) = decide (x = y) := by
    by_cases e : y = x
    · subst e; simp
    · have e' : ¬ x = y := fun h => e h.symm
      simp [e, e']
  rw [e]; simp

end Go.Proofs.YtingfmdbihbamaaGreat
end
