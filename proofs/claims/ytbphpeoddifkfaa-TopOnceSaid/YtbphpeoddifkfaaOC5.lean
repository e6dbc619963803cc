/- Layer 4, the walks: dispatches decoded. -/
import Derived.Test.YtbphpeoddifkfaaOC4
open Go.RowKit
namespace Go.Proofs.Ytbphpeoddifkfaa
open Go.Once

theorem word_any (q : BV) (b : Bk) (n : Int) (bk : Nat) (w : World) (B : Box w bk #[.int .i64 b.size, .int .i64 b.words, .slice q.a1 b.keys.length q.c1, .slice q.a2 b.days.length q.c2] 42) : Calls Try.prog 48 #[.int .i64 n, .pointer (some ⟨bk, 0, none⟩)] w (Ret (.bool (decide (b.words ≤ n))) w) := by
  have c3 := B.cell
  have t3 := B.lt
  go_enter Try.func48, Try.ntmps48
  go_wp2_with fail
  go_ret
  exact ⟨rfl, (by repeat (first | exact Below.refl _ _ | refine al ?_ _ | refine Below.drew ?_ | refine sc ?_ (by simp) _))⟩

theorem idxI_lt {α : Type} {p : α → Bool} {l : List α} (h : idxI p l ≠ -1) : ∃ i : Nat, idxI p l = i ∧ i < l.length := by
  unfold idxI at *
  cases hf : l.findIdx? p with
  | none => rw [hf] at h; simp at h
  | some i => rw [List.findIdx?_eq_some_iff_getElem] at hf; exact ⟨i, rfl, hf.1⟩

set_option maxRecDepth 100000 in
set_option maxHeartbeats 2000000 in
theorem delete_any (q : BV) (b : Bk) (l : List Int) (a : Option Addr) (c bk base : Nat) (w : World) (h : Own w base 3 1 (.slice a l.length c) (ivs l)) (hl : l.length ≤ 20) (B : Box w bk #[.int .i64 b.size, .int .i64 b.words, .slice q.a1 b.keys.length q.c1, .slice q.a2 b.days.length q.c2] 42) (hbase : base ≤ w.heap.size) :
    Calls Try.prog 46 #[.slice a l.length c, .func (.func 48) #[] #[.pointer (some ⟨bk, 0, none⟩)]] w (RetDel base w) := by
  have HI := Lib.hid (index_int l a c w h.rowAt.2.2 48 #[] #[.pointer (some ⟨bk, 0, none⟩)] (fun n => decide (b.words ≤ n)) (fun _ _ => by kernel_rfl) (by omega) (fun x _ w' hb => word_any q b x bk w' (B.later hb)))
  have hix := idxI_lt (p := fun n => decide (b.words ≤ n)) (l := l)
  generalize idxI (fun n => decide (b.words ≤ n)) l = r at *
  have HO := Lib.hid h
  have hlc := h.rowAt.2.1
  clear h
  have hq : ∀ w, (zeroValue 3).run Try.prog w = .ok (.int .i64 0) w := fun w => Try.zeroValue3 w
  by_cases hr : r = -1
  · subst hr
    go_enter Try.func46, Try.ntmps46
    go_wp2_with fail
    refine HI.out.mono ?_
    rintro e w1 ⟨rfl, hb1⟩
    go_wp2_with fail
    go_ret
    exact ⟨_, rfl, hb1.mono hbase⟩
  · obtain ⟨i0, rfl, hi0⟩ := hix hr
    obtain ⟨g, cur, rfl, hg, hB, _⟩ := own_row HO.out (by omega)
    clear hr hB
    go_enter Try.func46, Try.ntmps46
    go_wp2_with fail
    refine HI.out.mono ?_
    rintro e w1 ⟨rfl, hb1⟩
    have h12 : ((i0 : Int) == -1) = false := beq_eq_false_iff_ne.2 (by omega)
    go_wp2_with fail
    clear h12
    go_loopw [5, 6] (fun iv jv wr => ∃ (i j : Nat) (l' : List Int), iv = .int .i64 i ∧ jv = .int .i64 j ∧ i < j ∧ j ≤ l.length ∧ l'.length = l.length ∧ Below base w wr ∧ Own wr base 3 1 (.slice (some ⟨g, 0, none⟩) l.length c) (ivs l') ∧ Box wr bk #[.int .i64 b.size, .int .i64 b.words, .slice q.a1 b.keys.length q.c1, .slice q.a2 b.days.length q.c2] 42) (fun _ jv _ => l.length - (intOf jv).toNat)
    case atStart => exact ⟨i0, i0 + 1, l, rfl, by go_num, by omega, by omega, rfl, hb1.mono hbase, HO.out.later hb1, B.later hb1⟩
    case round =>
      clear hb1
      obtain ⟨i, j, l', rfl, rfl, hij, hj, hll, hW, ho, hB⟩ := hrel
      have HO' := Lib.hid ho
      have HLl := Lib.hid hll
      obtain ⟨g', cur', e', _, hBx, hC⟩ := own_row ho (by omega)
      cases e'
      have HBx := Lib.hid hBx
      clear ho hll
      by_cases hlt : j < l.length
      · obtain ⟨x, hx⟩ : ∃ x, l'[j]? = some x := ⟨l'[j]'(by have := HLl.out; omega), by simp⟩
        obtain ⟨y, hy⟩ : ∃ y, l'[i]? = some y := ⟨l'[i]'(by have := HLl.out; omega), by simp⟩
        have e0 := cells_one (f := fun n : Int => Value.int .i64 n) hC hx
        have e1 := cells_one (f := fun n : Int => Value.int .i64 n) hC hy
        have z1 := block_lt_of_cell e0
        have HX := Lib.hid hx
        have HY := Lib.hid hy
        clear hx hy hC hBx
        rw [Nat.zero_add] at e0 e1
        have r1 : (0 : Int) ≤ (j : Int) := by omega
        have r2 : (j : Int) < (l.length : Int) := by omega
        have r3 : (0 : Int) ≤ (i : Int) := by omega
        have r4 : (i : Int) < (l.length : Int) := by omega
        go_wp2_with fail
        refine (word_any q b x bk _ hB).mono ?_
        rintro e w2 ⟨rfl, hb2⟩
        replace HO' := Lib.hid (HO'.out.later hb2)
        replace hB := hB.later hb2
        replace hW := hW.trans (hb2.mono (by have := hW.size; omega))
        have e1' := (hb2.cell (p := ⟨g, i, none⟩) z1).trans e1
        have f1 := (HBx.out.later hb2).frozen
        have z2 := Nat.lt_of_lt_of_le z1 hb2.size
        clear e0 e1 z1 hb2 HBx
        obtain ⟨pv, hpv⟩ : ∃ pv, decide (b.words ≤ x) = pv := ⟨_, rfl⟩
        rw [hpv]
        clear hpv
        cases pv with
        | true =>
          go_wp2_with fail
          go_roundw
          case rel => exact ⟨i, j + 1, l', rfl, by go_num, by omega, by omega, HLl.out, hW, HO'.out, hB⟩
          case measure => first | omega | (simp [intOf]; omega)
        | false =>
          go_wp2_with fail
          go_roundw
          case rel =>
            have hs := HO'.out.set (i := i) (j := 0) (x := [.int .i64 y]) (by simp [HY.out]) (by decide) (.int .i64 x)
            rw [Nat.mul_one, Nat.add_zero] at hs
            refine ⟨i + 1, j + 1, l'.set i x, by go_num, by go_num, by omega, by omega, by simp [HLl.out], ?_, ?_, ?_⟩
            · have hgw := hW.size
              exact hW.setCell (p := ⟨g, i, none⟩) hg _
            · rw [ivs, List.map_set]; exact hs
            · exact (setCell_but w2 g i (.int .i64 x)).box hB (fun e => own_ne HO'.out hB (by decide) (by rw [e]; rfl))
          case measure => first | omega | (simp [intOf]; omega)
      · obtain rfl : j = l.length := by omega
        have hcl : ∀ ty, (Builtin.clear_ #[23] ty #[.slice (some ⟨g, i, none⟩) (l.length - i) (c - i)]).run Try.prog wr = .ok (.tuple #[]) (wr.setCells g i (List.replicate (l.length - i) (.int .i64 0))) := fun ty =>
          Lib.run_clear_slice wr _ _ ty _ elem_int.ht hq rfl rfl g i _ _ (by omega) (fun t ht => by
            obtain ⟨y, hy⟩ : ∃ y, l'[i + t]? = some y := ⟨l'[i + t]'(by have := HLl.out; omega), by simp⟩
            have e1 := cells_one (f := fun n : Int => Value.int .i64 n) hC hy
            rw [Nat.zero_add] at e1
            rw [e1]; rfl) (fun t ht => hBx.frozen _)
        have hbut := (setCells_form (b := g) (List.replicate (l.length - i) (Value.int .i64 0)) i hBx).2
        have hfin : Below base w (wr.setCells g i (List.replicate (l.length - i) (.int .i64 0))) := ⟨hbut.os.trans hW.os, hbut.tape.trans hW.tape, hbut.output.trans hW.output, by rw [hbut.size]; exact hW.size, fun k hk => (hbut.block k (by omega)).trans (hW.block k hk)⟩
        have HFin := Lib.hid hfin
        have r3 : (0 : Int) ≤ (i : Int) := by omega
        have r4 : (i : Int) < (l.length : Int) := by omega
        clear hfin hbut hC hBx
        go_wp2_with fail
        go_ret
        exact ⟨_, rfl, HFin.out⟩

theorem ints_front {W : World} {a : Option Addr} {xs ys : List Int} (h : IntsAt W a (xs ++ ys)) : IntsAt W a xs := by
  rcases h with h | ⟨b, o, e, hC⟩
  · have : xs = [] := by simp at h; exact h.1
    subst this; exact .inl rfl
  · refine .inr ⟨b, o, e, fun i x hx j v hv => hC i x ?_ j v hv⟩
    have hi := (List.getElem?_eq_some_iff.1 hx).1
    rw [List.map_append, List.getElem?_append_left hi]; exact hx
theorem ints_behind {W : World} {b o : Nat} {x : Int} {ys : List Int} (h : IntsAt W (some ⟨b, o, none⟩) (x :: ys)) : IntsAt W (some ⟨b, o + 1, none⟩) ys := by
  rcases h with h | ⟨b', o', e, hC⟩
  · simp at h
  · cases e
    refine .inr ⟨b, o + 1, rfl, fun i y hy j v hv => ?_⟩
    have := hC (i + 1) y (by simpa using hy) j v hv
    rw [show o + 1 + i * 1 + j = o + (i + 1) * 1 + j by omega]
    exact this

/-- A list of numbers, and no error; the words are of no account. -/
def RetDec (l : List Int) (w : World) (e : Ending) (w' : World) : Prop := ∃ a c v, e = .returned (.tuple #[.slice a l.length c, v, .int .i64 0]) ∧ Below w.heap.size w w' ∧ IntsAt w' a l
theorem dec_codes {b : Bk} (ho : b.Ok) {k : Ky} (hk : k.Ok b.size) {l : List Int} (h : ∀ x ∈ l, 0 ≤ x ∧ x < b.size) : ((codesOf b.size k l).mapIdx fun i n => decOf b.size ((invOf b.size k.m : Nat) : Int) k n i) = l := by
  have hi := (invOf_ok ho.size hk.m1 hk.m2).1
  unfold codesOf
  apply List.ext_getElem
  · simp
  · intro i h1 h2
    simp only [List.getElem_mapIdx]
    have hb := h l[i] (List.getElem_mem h2)
    exact decOf_code k l[i] i hi hb.1 hb.2

set_option maxRecDepth 100000 in
set_option maxHeartbeats 4000000 in
theorem Decode_any (q : BV) (b : Bk) (day : Nat) (l : List Int) (a : Option Addr) (c : Nat) (w : World) (hB : BookAt w q b) (ho : b.Ok) (hd : day < b.days.length) (hl : IntsAt w a (codeAll b day l)) (hc : (codeAll b day l).length ≤ c) (h10 : l.length ≤ 10) (hlb : ∀ x ∈ l, 0 ≤ x ∧ x < b.size) :
    Calls Try.prog 16 #[bookV q b, .int .i64 day, .slice a (codeAll b day l).length c] w (RetDec l w) := by
  have hS := size_bd ho.size
  obtain ⟨x, k, hx, rfl, hy, hok⟩ := dayKey_at ho hd
  have hdec := dec_codes ho hok hlb
  have hd8 := ho.d8
  have hk5 := ho.k5
  have hkk : k < b.keys.length := (List.getElem?_eq_some_iff.1 hy).1
  have hiv : 0 ≤ indOf b day ∧ indOf b day < b.size := by
    have h1 : 0 ≤ indOf b day := Int.emod_nonneg _ (by omega)
    have h2 : indOf b day < b.keys.length := Int.emod_lt_of_pos _ (by omega)
    omega
  have hcd : codeAll b day l = indOf b day :: codesOf b.size (dayKey b day) l ++ [chkOf b.size (indOf b day :: codesOf b.size (dayKey b day) l)] := rfl
  have hcb : ∀ x ∈ indOf b day :: codesOf b.size (dayKey b day) l, 0 ≤ x ∧ x < b.size := by
    intro y hy
    rcases List.mem_cons.1 hy with rfl | hy
    · exact hiv
    · obtain ⟨i, hi, rfl⟩ := List.mem_mapIdx.1 hy
      exact codeOf_bd ho.size (dayKey b day) l[i] i
  have hvb : 0 ≤ chkOf b.size (indOf b day :: codesOf b.size (dayKey b day) l) ∧ chkOf b.size (indOf b day :: codesOf b.size (dayKey b day) l) < b.size := ⟨Int.emod_nonneg _ (by omega), Int.emod_lt_of_pos _ (by omega)⟩
  have hcl : (codesOf b.size (dayKey b day) l).length = l.length := by simp [codesOf]
  have hab : ∀ x ∈ codeAll b day l, 0 ≤ x ∧ x < b.size := by
    intro y hy
    rw [hcd] at hy
    rcases List.mem_append.1 hy with hy | hy
    · exact hcb y hy
    · simp at hy; subst hy; exact hvb
  obtain ⟨m, hm⟩ : ∃ m, m = l.length + 1 := ⟨_, rfl⟩
  have hal : (codeAll b day l).length = m + 1 := by rw [hcd]; simp [hcl]; omega
  rw [hcd] at hl
  have HInd : Hid (∀ W, Below w.heap.size w W → Calls Try.prog 27 #[.agg #[.int .i64 b.size, .int .i64 b.words, .slice q.a1 b.keys.length q.c1, .slice q.a2 b.days.length q.c2], .int .i64 day] W (Ret (.int .i64 (indOf b day)) W)) := fun W hb => ind_any q b day W (hB.later hb) ho hd
  have HCk : Hid (∀ W, Below w.heap.size w W → Calls Try.prog 30 #[.agg #[.int .i64 b.size, .int .i64 b.words, .slice q.a1 b.keys.length q.c1, .slice q.a2 b.days.length q.c2], .slice a m c] W (Ret (.int .i64 (chkOf b.size (indOf b day :: codesOf b.size (dayKey b day) l))) W)) := fun W hb => by
    have h := check_any q b (indOf b day :: codesOf b.size (dayKey b day) l) a c W hS (ints_front (RowAt.later hl hb)) (fun x hx => by have := hcb x hx; omega) (by simp [hcl]; omega)
    rwa [show (indOf b day :: codesOf b.size (dayKey b day) l).length = m by simp [hcl]; omega] at h
  have HAll : Hid (∀ W, Below w.heap.size w W → Calls Try.prog 25 #[.slice a (m + 1) c, .func (.func 26) #[.agg #[.int .i64 b.size, .int .i64 b.words, .slice q.a1 b.keys.length q.c1, .slice q.a2 b.days.length q.c2]] #[]] W (Ret (.bool true) W)) := fun W hb => by
    have h := all_cint (codeAll b day l) a c W (by rw [hcd]; exact RowAt.later hl hb) 26 #[bookV q b] #[] (fun n => inB n 0 (b.size - 1)) (fun _ _ => by kernel_rfl) (by omega) (fun x _ w' _ => plain_any q b x w' hS)
    rwa [List.all_eq_true.2 (fun x hx => by have := hab x hx; simp [inB]; omega), hal] at h
  obtain ⟨pa, oa, ea, hC⟩ := RowAt.at (k := 0) hl (by simp)
  subst ea
  have HTurn : Hid (∀ W, Below w.heap.size w W → Calls Try.prog 28 #[.agg #[.int .i64 b.size, .int .i64 b.words, .slice q.a1 b.keys.length q.c1, .slice q.a2 b.days.length q.c2], .agg #[.func (.func 45) #[] #[]], .agg #[.int .i64 (dayKey b day).m, .int .i64 (dayKey b day).a, .int .i64 (dayKey b day).s], .slice (some ⟨pa, oa + 1, none⟩) (m - 1) (c - 1)] W (RetRow 3 1 (ivs l) W)) := fun W hb => by
    have h := turned_any q b (dayKey b day) (codesOf b.size (dayKey b day) l) (some ⟨pa, oa + 1, none⟩) (c - 1) W 45 (fun i n => decOf b.size ((invOf b.size (dayKey b day).m : Nat) : Int) (dayKey b day) n i) (fun _ _ => by kernel_rfl) (ints_front (ints_behind (RowAt.later hl hb))) (by omega) (fun i n hn W => decode_any q b (dayKey b day) n i W ho.size hok (hcb n (List.mem_cons_of_mem _ (List.mem_of_getElem? hn))) (by have := (List.getElem?_eq_some_iff.1 hn).1; omega))
    rwa [hdec, hcl, show l.length = m - 1 by omega] at h
  have e0 := cells_one (f := fun n : Int => Value.int .i64 n) (x := indOf b day) hC (k := 0) rfl
  have e1 := cells_one (f := fun n : Int => Value.int .i64 n) (x := chkOf b.size (indOf b day :: codesOf b.size (dayKey b day) l)) hC (k := m) (by
    rw [List.getElem?_append_right (by simp [hcl]; omega)]; simp [hcl, hm])
  have hclen := hc
  rw [hal] at hclen ⊢
  have HB := Lib.hid hB
  have HO := Lib.hid ho
  have HX := Lib.hid hx
  have HY := Lib.hid hy
  have i1 : inB day 0 (b.days.length - 1) = true := by simp [inB]; omega
  have i2 : inB (m : Int) 1 11 = true := by simp [inB]; omega
  have HI1 := Lib.hid i1
  have HI2 := Lib.hid i2
  generalize chkOf b.size (indOf b day :: codesOf b.size (dayKey b day) l) = cv at *
  generalize indOf b day = iv at *
  have hm1 : 1 ≤ m := by omega
  have hm11 : m ≤ 11 := by omega
  have HM := Lib.hid hm
  clear hm hab hal hcl hvb hcb hcd hiv hdec hok hx hy hl hC hc hB ho i1 i2 hlb
  have z1 := block_lt_of_cell e0
  go_enter Try.func16, Try.ntmps16
  go_wp2_with fail
  refine named1 (p := fun W => Calls _ _ _ W _) ?_
  intro W hW B3
  have c3 := B3.cell; have t3 := B3.lt
  refine (checkBook_any q b W (HB.out.later hW) HO.out).mono ?_
  rintro e w1 ⟨rfl, hb1⟩
  replace hW := over hW hb1; (try clear c3 t3); replace B3 := B3.later hb1; have c3 := B3.cell; have t3 := B3.lt; clear hb1 
  go_wp2_with fail
  refine (day_any q b day _ (by omega)).mono ?_
  rintro e w2 ⟨rfl, hb2⟩
  rw [HI1.out]
  replace hW := over hW hb2; (try clear c3 t3); replace B3 := B3.later hb2; have c3 := B3.cell; have t3 := B3.lt; clear hb2 
  go_wp2_with fail
  refine (cwithin_any _ _ _ _).mono ?_
  rintro e w3 ⟨rfl, hb3⟩
  rw [HI2.out]
  replace hW := over hW hb3; (try clear c3 t3); replace B3 := B3.later hb3; have c3 := B3.cell; have t3 := B3.lt; clear hb3 
  go_wp2_with fail
  refine (HAll.out _ hW).mono ?_
  rintro e w4 ⟨rfl, hb4⟩
  replace hW := over hW hb4; (try clear c3 t3); replace B3 := B3.later hb4; have c3 := B3.cell; have t3 := B3.lt; clear hb4 
  clear HAll
  go_upto_region 9 with fail
  rw [Nat.add_zero] at e0
  replace e0 := (hW.cell z1).trans e0
  replace e1 := (hW.cell z1).trans e1
  have z2 := block_lt_of_cell e0
  have c3 := B3.cell; have t3 := B3.lt
  have hWr := hW
  refine Fat.wp_region0 6 [5] (fun _ => isSpec (.int .i64 iv)) (fun _ => isSpec_lasting _) (by kernel_rfl) (by kernel_rfl) ?_
  simp only [List.take_succ_cons, List.take_zero, Fat.pick, List.contains_cons, List.contains_nil, Nat.reduceAdd, Nat.reduceBEq]
  repeat (first | simp only [Bool.or_false] | simp only [Bool.or_true] | simp only [Bool.true_or] | simp only [Bool.false_eq_true] | simp only [if_true] | simp only [if_false])
  repeat (go_big_quiet_step (fail))
  refine wpQuiet_nil ?_
  refine ⟨?_, ?_, ?_⟩
  · intro i o hi hown ho vals lo hi' W hW hdep
    simp only [List.contains_cons, List.contains_nil, Bool.or_false] at hi
    (try simp only [Bool.or_eq_true] at hi)
    simp only [beq_iff_eq] at hi
    rcases hi with rfl
    all_goals first
      | exact absurd hown (by decide)
      | (simp only [List.getElem?_cons_succ, List.getElem?_cons_zero, Option.some.injEq] at ho; subst ho; refine .inl ⟨rfl, ?_⟩; simp only [Fat.putN, Fat.dstOf, Act.put, List.getElem?_toArray, List.getElem?_cons_succ, List.getElem?_cons_zero, Option.bind_some, List.setIfInBounds_toArray, List.set_cons_succ, List.set_cons_zero])
    go_simp
    exact (HInd.out W (over hWr hW)).mono fun e w'' ⟨he, h⟩ => ⟨_, he, h, rfl⟩
  · intro i o hi hown ho vals lo hi' W hW hdep
    simp only [List.contains_cons, List.contains_nil, Bool.or_false] at hi
    (try simp only [Bool.or_eq_true] at hi)
    simp only [beq_iff_eq] at hi
    rcases hi with rfl
    all_goals first
      | exact absurd (by decide) hown
      | (simp only [List.getElem?_cons_succ, List.getElem?_cons_zero, Option.some.injEq] at ho; subst ho; refine ⟨rfl, ?_⟩; simp only [Fat.putN, Fat.dstOf, Act.put, List.getElem?_toArray, List.getElem?_cons_succ, List.getElem?_cons_zero, Option.bind_some, List.setIfInBounds_toArray, List.set_cons_succ, List.set_cons_zero]; (try simp only [Option.bind_none]))
  · intro vals lo hi' w5 hb5 hphi hdis htied
    obtain ⟨_, _, _, (q5 : vals 5 = _)⟩ := hphi 5 rfl
    simp only [Fat.putN, Fat.dstOf, Act.put, List.getElem?_toArray, List.getElem?_cons_succ, List.getElem?_cons_zero, Option.bind_some, List.setIfInBounds_toArray, List.set_cons_succ, List.set_cons_zero, List.drop_succ_cons, List.drop_zero]
    rw [q5]
    replace e1 := (hb5.cell (p := ⟨pa, oa + m, none⟩) z2).trans e1
    have z3 := block_lt_of_cell e1
    clear q5 hphi hdis htied e0 z2
    replace hW := over hW hb5; (try clear c3 t3); replace B3 := B3.later hb5; have c3 := B3.cell; have t3 := B3.lt; clear hb5 
    go_upto_region 11 with fail
    clear HInd
    have c3 := B3.cell; have t3 := B3.lt
    have hWr2 := hW
    refine Fat.wp_region0 9 [8] (fun _ => isSpec (.int .i64 cv)) (fun _ => isSpec_lasting _) (by kernel_rfl) (by kernel_rfl) ?_
    simp only [List.take_succ_cons, List.take_zero, Fat.pick, List.contains_cons, List.contains_nil, Nat.reduceAdd, Nat.reduceBEq]
    repeat (first | simp only [Bool.or_false] | simp only [Bool.or_true] | simp only [Bool.true_or] | simp only [Bool.false_eq_true] | simp only [if_true] | simp only [if_false])
    repeat (go_big_quiet_step (fail))
    refine wpQuiet_nil ?_
    refine ⟨?_, ?_, ?_⟩
    · intro i o hi hown ho vals lo hi' W hW hdep
      simp only [List.contains_cons, List.contains_nil, Bool.or_false] at hi
      (try simp only [Bool.or_eq_true] at hi)
      simp only [beq_iff_eq] at hi
      rcases hi with rfl
      all_goals first
        | exact absurd hown (by decide)
        | (simp only [List.getElem?_cons_succ, List.getElem?_cons_zero, Option.some.injEq] at ho; subst ho; refine .inl ⟨rfl, ?_⟩; simp only [Fat.putN, Fat.dstOf, Act.put, List.getElem?_toArray, List.getElem?_cons_succ, List.getElem?_cons_zero, Option.bind_some, List.setIfInBounds_toArray, List.set_cons_succ, List.set_cons_zero])
      go_simp
      exact (HCk.out W (over hWr2 hW)).mono fun e w'' ⟨he, h⟩ => ⟨_, he, h, rfl⟩
    · intro i o hi hown ho vals lo hi' W hW hdep
      simp only [List.contains_cons, List.contains_nil, Bool.or_false] at hi
      (try simp only [Bool.or_eq_true] at hi)
      simp only [beq_iff_eq] at hi
      rcases hi with rfl
      all_goals first
        | exact absurd (by decide) hown
        | (simp only [List.getElem?_cons_succ, List.getElem?_cons_zero, Option.some.injEq] at ho; subst ho; refine ⟨rfl, ?_⟩; simp only [Fat.putN, Fat.dstOf, Act.put, List.getElem?_toArray, List.getElem?_cons_succ, List.getElem?_cons_zero, Option.bind_some, List.setIfInBounds_toArray, List.set_cons_succ, List.set_cons_zero]; (try simp only [Option.bind_none]))
    · intro vals lo hi' w6 hb6 hphi hdis htied
      obtain ⟨_, _, _, (q8 : vals 8 = _)⟩ := hphi 8 rfl
      simp only [Fat.putN, Fat.dstOf, Act.put, List.getElem?_toArray, List.getElem?_cons_succ, List.getElem?_cons_zero, Option.bind_some, List.setIfInBounds_toArray, List.set_cons_succ, List.set_cons_zero, List.drop_succ_cons, List.drop_zero]
      rw [q8]
      clear q8 hphi hdis htied HCk e1 z3
      replace hW := over hW hb6; (try clear c3 t3); replace B3 := B3.later hb6; have c3 := B3.cell; have t3 := B3.lt; clear hb6 
      go_upto_region 13 with fail
      obtain ⟨pd, od, ed, hCd⟩ := RowAt.at HB.out.days hd
      obtain ⟨pk, ok, ek, hCk⟩ := RowAt.at HB.out.keys hkk
      have f0 := cells_one (hCd.later hW) HX.out
      obtain ⟨g0, g1, g2⟩ := cells_ky (hCk.later hW) HY.out
      have z3 := block_lt_of_cell f0
      have z4 := block_lt_of_cell g0
      have HEq := Lib.hid (And.intro ed ek)
      rw [ed, ek] at c3 B3 HTurn
      clear hCd hCk ed ek c3 t3
      have c3 := B3.cell; have t3 := B3.lt
      have hWr3 := hW
      generalize dayKey b day = ky at *
      refine Fat.wp_region0 15 [14] (fun _ => ownSpec w.heap.size 3 1 (ivs l)) (fun _ => ownSpec_lasting _ _ _ _) (by kernel_rfl) (by kernel_rfl) ?_
      simp only [List.take_succ_cons, List.take_zero, Fat.pick, List.contains_cons, List.contains_nil, Nat.reduceAdd, Nat.reduceBEq]
      repeat (first | simp only [Bool.or_false] | simp only [Bool.or_true] | simp only [Bool.true_or] | simp only [Bool.false_eq_true] | simp only [if_true] | simp only [if_false])
      repeat (go_big_quiet_step (fail))
      refine wpQuiet_nil ?_
      refine ⟨?_, ?_, ?_⟩
      · intro i o hi hown ho vals lo hi' W hW hdep
        simp only [List.contains_cons, List.contains_nil, Bool.or_false] at hi
        (try simp only [Bool.or_eq_true] at hi)
        simp only [beq_iff_eq] at hi
        rcases hi with rfl
        all_goals first
          | exact absurd hown (by decide)
          | (simp only [List.getElem?_cons_succ, List.getElem?_cons_zero, Option.some.injEq] at ho; subst ho; refine .inl ⟨rfl, ?_⟩; simp only [Fat.putN, Fat.dstOf, Act.put, List.getElem?_toArray, List.getElem?_cons_succ, List.getElem?_cons_zero, Option.bind_some, List.setIfInBounds_toArray, List.set_cons_succ, List.set_cons_zero])
        go_simp
        exact (HTurn.out W (over hWr3 hW)).mono fun e w'' ⟨v, he, h, ho⟩ => ⟨v, he, h, ho.mono (over hWr3 hW).size⟩
      · intro i o hi hown ho vals lo hi' W hW hdep
        simp only [List.contains_cons, List.contains_nil, Bool.or_false] at hi
        (try simp only [Bool.or_eq_true] at hi)
        simp only [beq_iff_eq] at hi
        rcases hi with rfl
        all_goals first
          | exact absurd (by decide) hown
          | (simp only [List.getElem?_cons_succ, List.getElem?_cons_zero, Option.some.injEq] at ho; subst ho; refine ⟨rfl, ?_⟩; simp only [Fat.putN, Fat.dstOf, Act.put, List.getElem?_toArray, List.getElem?_cons_succ, List.getElem?_cons_zero, Option.bind_some, List.setIfInBounds_toArray, List.set_cons_succ, List.set_cons_zero]; (try simp only [Option.bind_none]))
      · intro vals lo hi' w7 hb7 hphi hdis htied
        obtain ⟨_, _, _, (hcr : Own w7 _ _ _ (vals 14) _)⟩ := hphi 14 rfl
        obtain ⟨ra, rc, e14, hrl, hrr⟩ := hcr.row
        rw [show (ivs l).length = l.length from List.length_map _] at e14 hrl
        have hrr' : IntsAt w7 ra l := hrr
        simp only [Fat.putN, Fat.dstOf, Act.put, List.getElem?_toArray, List.getElem?_cons_succ, List.getElem?_cons_zero, Option.bind_some, List.setIfInBounds_toArray, List.set_cons_succ, List.set_cons_zero, List.drop_succ_cons, List.drop_zero]
        rw [e14]
        clear e14 hphi hdis htied HTurn f0 g0 g1 g2 z3 z4 hcr hrr
        replace hW := over hW hb7; (try clear c3 t3); replace B3 := B3.later hb7; have c3 := B3.cell; have t3 := B3.lt; clear hb7 
        have HR := Lib.hid hrr'
        clear hrr'
        have HW7 := Lib.hid hW.size
        go_wp2_with fail
        refine (clone_any l ra rc _ HR.out (by omega)).mono ?_
        rintro e w8 ⟨v8, rfl, hb8, hO8⟩
        obtain ⟨a8, c8, rfl, _⟩ := hO8.row
        rw [show (ivs l).length = l.length from List.length_map _] at hO8 ⊢
        have HO8 := Lib.hid hO8
        have hR8 : IntsAt w8 ra l := RowAt.later HR.out hb8
        have HR8 := Lib.hid hR8
        have HB8 := Lib.hid hb8
        clear hO8 hR8
        replace hW := over hW hb8; (try clear c3 t3); replace B3 := B3.later hb8; have c3 := B3.cell; have t3 := B3.lt; clear hb8 
        have hB3 := B3
        rw [← HEq.out.2, ← HEq.out.1] at hB3
        go_wp2_with fail
        refine (delete_any q b l a8 c8 w.heap.size w7.heap.size _ HO8.out (by omega) hB3 HB8.out.size).mono ?_
        rintro e w9 ⟨v9, rfl, hb9⟩
        have hR9 : IntsAt w9 ra l := RowAt.later HR.out (HB8.out.trans hb9)
        have hW9 : Below w.heap.size w w9 := hW.trans (hb9.mono HW7.out)
        have HR9 := Lib.hid hR9
        have HW9 := Lib.hid hW9
        clear hR9 hW9 hb9
        go_wp2_with fail
        exact bodyPost_ret (v := .tuple #[.slice ra l.length rc, v9, .int .i64 0]) (by simp [results, Try.results16, go_sem]) rfl ⟨ra, rc, v9, rfl, HW9.out, HR9.out⟩
end Go.Proofs.Ytbphpeoddifkfaa
