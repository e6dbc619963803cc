/- Layer 4, the walks: dispatches coded. -/
import Derived.Test.YtbphpeoddifkfaaOC3
import Derived.Deep.DeepCutAuto
import Derived.Deep.CutBlock
import Derived.Deep.RegionHeld3
import Derived.Deep.DrawnRows
import Derived.Lib.SliceRun
open Go.RowKit
namespace Go.Proofs.Ytbphpeoddifkfaa
open Go.Once

/-- A list of numbers of the call's own, and no error. -/
def RetL (l : List Int) (w : World) (e : Ending) (w' : World) : Prop :=
  ∃ a c, e = .returned (.tuple #[.slice a l.length c, .int .i64 0]) ∧ Below w.heap.size w w' ∧ Own w' w.heap.size 3 1 (.slice a l.length c) (ivs l)

theorem dayKey_at {b : Bk} (ho : b.Ok) {day : Nat} (hd : day < b.days.length) : ∃ (x : Int) (k : Nat), b.days[day]? = some x ∧ x = k ∧ b.keys[k]? = some (dayKey b day) ∧ (dayKey b day).Ok b.size := by
  obtain ⟨x, hx⟩ : ∃ x, b.days[day]? = some x := ⟨b.days[day], by simp⟩
  have hxb := ho.days x (List.mem_of_getElem? hx)
  obtain ⟨y, hy⟩ : ∃ y, b.keys[x.toNat]? = some y := ⟨b.keys[x.toNat]'(by omega), by simp⟩
  have hk : dayKey b day = y := by unfold dayKey; rw [hx]; simp only [Option.getD_some]; rw [hy]; rfl
  rw [hk]
  exact ⟨x, x.toNat, hx, by omega, hy, ho.keys y (List.mem_of_getElem? hy)⟩

def codeSpec (b : Bk) (k : Ky) (l : List Int) (iv : Int) (n0 : Nat) (i : Nat) : Fat.Spec := if i = 2 then isSpec (.int .i64 iv) else if i = 3 then oneSpec 3 #[.int .i64 iv] else ownSpec n0 3 1 (ivs (codesOf b.size k l))
theorem codeSpec_lasting (b : Bk) (k : Ky) (l : List Int) (iv : Int) (n0 i : Nat) : Fat.Lasting (codeSpec b k l iv n0 i) := by
  unfold codeSpec
  (repeat' split) <;> first | exact isSpec_lasting _ | exact oneSpec_lasting _ _ | exact ownSpec_lasting _ _ _ _

set_option maxRecDepth 100000 in
set_option maxHeartbeats 4000000 in
theorem Code_any (q : BV) (b : Bk) (day : Nat) (l : List Int) (a : Option Addr) (c : Nat) (w : World) (hB : BookAt w q b) (ho : b.Ok) (hd : day < b.days.length) (hl : IntsAt w a l) (h10 : l.length ≤ 10) (hlb : ∀ x ∈ l, 0 ≤ x ∧ x < b.size) :
    Calls Try.prog 9 #[bookV q b, .int .i64 day, .slice a l.length c] w (RetL (codeAll b day l) w) := by
  have HB := Lib.hid hB
  have HO := Lib.hid ho
  have HL := Lib.hid hl
  have HLb := Lib.hid hlb
  have hS := size_bd ho.size
  obtain ⟨x, k, hx, rfl, hy, hok⟩ := dayKey_at ho hd
  have hd8 := ho.d8
  have hk5 := ho.k5
  have hkk : k < b.keys.length := (List.getElem?_eq_some_iff.1 hy).1
  have HX := Lib.hid hx
  have HY := Lib.hid hy
  have HOk := Lib.hid hok
  have i1 : inB day 0 (b.days.length - 1) = true := by simp [inB]; omega
  have HI1 := Lib.hid i1
  have d1 : decide ((10 : Int) < (l.length : Int)) = false := by simp; omega
  have HAll : Hid (∀ W, Below w.heap.size w W → Calls Try.prog 25 #[.slice a l.length c, .func (.func 26) #[.agg #[.int .i64 b.size, .int .i64 b.words, .slice q.a1 b.keys.length q.c1, .slice q.a2 b.days.length q.c2]] #[]] W (Ret (.bool true) W)) := fun W hb => by
    have h := all_cint l a c W (RowAt.later hl hb) 26 #[bookV q b] #[] (fun n => inB n 0 (b.size - 1)) (fun _ _ => by kernel_rfl) (by omega) (fun x _ w' _ => plain_any q b x w' hS)
    rwa [List.all_eq_true.2 (fun x hx => by have := hlb x hx; simp [inB]; omega)] at h
  have HTurn : Hid (∀ W, Below w.heap.size w W → Calls Try.prog 28 #[.agg #[.int .i64 b.size, .int .i64 b.words, .slice q.a1 b.keys.length q.c1, .slice q.a2 b.days.length q.c2], .agg #[.func (.func 29) #[] #[]], .agg #[.int .i64 (dayKey b day).m, .int .i64 (dayKey b day).a, .int .i64 (dayKey b day).s], .slice a l.length c] W (RetRow 3 1 (ivs (codesOf b.size (dayKey b day) l)) W)) := fun W hb =>
    turned_any q b (dayKey b day) l a c W 29 (fun i n => codeOf b.size (dayKey b day) n i) (fun _ _ => by kernel_rfl) (RowAt.later hl hb) (by omega) (fun i n hn W => code_any q b (dayKey b day) n i W hS hok (hlb n (List.mem_of_getElem? hn)) (by have := (List.getElem?_eq_some_iff.1 hn).1; omega))
  clear hl hlb hok hx hy ho hB i1
  go_enter Try.func9, Try.ntmps9
  go_wp2_with fail
  refine named1 (p := fun W => Calls _ _ _ W _) ?_
  intro W hW B3
  have c3 := B3.cell; have t3 := B3.lt
  refine (checkBook_any q b W (HB.out.later hW) HO.out).mono ?_
  rintro e w1 ⟨rfl, hb1⟩
  replace hW := over hW hb1; (try clear c3 t3); replace B3 := B3.later hb1; have c3 := B3.cell; have t3 := B3.lt; clear hb1 
  go_wp2_with fail
  refine (day_any q b day _ (by omega)).mono ?_
  rintro e w2 ⟨rfl, hb2⟩
  rw [HI1.out]
  replace hW := over hW hb2; (try clear c3 t3); replace B3 := B3.later hb2; have c3 := B3.cell; have t3 := B3.lt; clear hb2 
  go_wp2_with fail
  refine (HAll.out _ hW).mono ?_
  rintro e w3 ⟨rfl, hb3⟩
  replace hW := over hW hb3; (try clear c3 t3); replace B3 := B3.later hb3; have c3 := B3.cell; have t3 := B3.lt; clear hb3 
  go_upto_region 10 with fail
  clear HAll
  have HInd : Hid (∀ W, Below w.heap.size w W → Calls Try.prog 27 #[.agg #[.int .i64 b.size, .int .i64 b.words, .slice q.a1 b.keys.length q.c1, .slice q.a2 b.days.length q.c2], .int .i64 day] W (Ret (.int .i64 (indOf b day)) W)) := fun W hb => ind_any q b day W (HB.out.later hb) HO.out hd
  obtain ⟨pd, od, ed, hCd⟩ := RowAt.at HB.out.days hd
  obtain ⟨pk, ok, ek, hCk⟩ := RowAt.at HB.out.keys hkk
  have e0 := cells_one (hCd.later hW) HX.out
  obtain ⟨f0, f1, f2⟩ := cells_ky (hCk.later hW) HY.out
  have z1 := block_lt_of_cell e0
  have z2 := block_lt_of_cell f0
  have HEq := Lib.hid (And.intro ed ek)
  rw [ed, ek] at c3 B3 HInd HTurn
  clear hCd hCk ed ek c3 t3
  have hcl : (codesOf b.size (dayKey b day) l).length = l.length := by simp [codesOf]
  have hcd : codeAll b day l = (indOf b day :: codesOf b.size (dayKey b day) l) ++ [chkOf b.size (indOf b day :: codesOf b.size (dayKey b day) l)] := rfl
  have hbd : ∀ x ∈ indOf b day :: codesOf b.size (dayKey b day) l, 0 ≤ x ∧ x ≤ 41 := by
    intro y hy
    rcases List.mem_cons.1 hy with rfl | hy
    · have h1 : 0 ≤ indOf b day := Int.emod_nonneg _ (by omega)
      have h2 : indOf b day < b.keys.length := Int.emod_lt_of_pos _ (by omega)
      omega
    · obtain ⟨i, hi, rfl⟩ := List.mem_mapIdx.1 hy
      have := codeOf_bd HO.out.size (dayKey b day) l[i] i
      omega
  have HBd := Lib.hid hbd
  have HCd := Lib.hid hcd
  have HCl := Lib.hid hcl
  clear hbd hcd hcl
  generalize dayKey b day = ky at *
  generalize indOf b day = iv at *
  have c3 := B3.cell; have t3 := B3.lt
  have hWr := hW
  refine Fat.wp_region0 17 [2, 3, 16] (codeSpec b ky l iv w.heap.size) (codeSpec_lasting b ky l iv w.heap.size) (by kernel_rfl) (by kernel_rfl) ?_
  simp only [List.take_succ_cons, List.take_zero, Fat.pick, List.contains_cons, List.contains_nil, Nat.reduceAdd, Nat.reduceBEq]
  repeat (first | simp only [Bool.or_false] | simp only [Bool.or_true] | simp only [Bool.true_or] | simp only [Bool.false_eq_true] | simp only [if_true] | simp only [if_false])
  repeat (go_big_quiet_step (fail))
  refine wpQuiet_nil ?_
  refine ⟨?_, ?_, ?_⟩
  · intro i o hi hown ho vals lo hi' W hW hdep
    simp only [List.contains_cons, List.contains_nil, Bool.or_false] at hi
    (try simp only [Bool.or_eq_true] at hi)
    simp only [beq_iff_eq] at hi
    rcases hi with rfl | rfl | rfl
    all_goals first
      | exact absurd hown (by decide)
      | (simp only [List.getElem?_cons_succ, List.getElem?_cons_zero, Option.some.injEq] at ho; subst ho; refine .inl ⟨rfl, ?_⟩; simp only [Fat.putN, Fat.dstOf, Act.put, List.getElem?_toArray, List.getElem?_cons_succ, List.getElem?_cons_zero, Option.bind_some, List.setIfInBounds_toArray, List.set_cons_succ, List.set_cons_zero])
    · go_simp
      exact (HInd.out W (over hWr hW)).mono fun e w'' ⟨he, h⟩ => ⟨_, he, h, rfl⟩
    · obtain ⟨_, _, _, (hv : vals 2 = _)⟩ := hdep 2 rfl (by kernel_rfl)
      rw [hv]
      go_simp
      exact oneSpec_new _ _ _
    · go_simp
      exact (HTurn.out W (over hWr hW)).mono fun e w'' ⟨v, he, h, ho⟩ => ⟨v, he, h, ho.mono (over hWr hW).size⟩
  · intro i o hi hown ho vals lo hi' W hW hdep
    simp only [List.contains_cons, List.contains_nil, Bool.or_false] at hi
    (try simp only [Bool.or_eq_true] at hi)
    simp only [beq_iff_eq] at hi
    rcases hi with rfl | rfl | rfl
    all_goals first
      | exact absurd (by decide) hown
      | (simp only [List.getElem?_cons_succ, List.getElem?_cons_zero, Option.some.injEq] at ho; subst ho; refine ⟨rfl, ?_⟩; simp only [Fat.putN, Fat.dstOf, Act.put, List.getElem?_toArray, List.getElem?_cons_succ, List.getElem?_cons_zero, Option.bind_some, List.setIfInBounds_toArray, List.set_cons_succ, List.set_cons_zero]; (try simp only [Option.bind_none]))
  · intro vals lo hi' w5 hb5 hphi hdis htied
    obtain ⟨_, _, _, (q2 : vals 2 = _)⟩ := hphi 2 rfl
    obtain ⟨u1, _, _, (q3 : vals 3 = _), _, (B33 : Box w5 (lo 3) _ _)⟩ := hphi 3 rfl
    obtain ⟨_, _, _, (hcr : Own w5 _ _ _ (vals 16) _)⟩ := hphi 16 rfl
    obtain ⟨ra, rc, e16, _, hrr⟩ := hcr.row
    simp only [Fat.putN, Fat.dstOf, Act.put, List.getElem?_toArray, List.getElem?_cons_succ, List.getElem?_cons_zero, Option.bind_some, List.setIfInBounds_toArray, List.set_cons_succ, List.set_cons_zero, List.drop_succ_cons, List.drop_zero]
    rw [q2, q3, e16]
    have hO1 := own_one B33 (show w.heap.size ≤ lo 3 by have := hWr.size; omega)
    clear q2 q3 hphi hdis htied e16 hcr
    generalize lo 3 = b33 at *
    clear e0 f0 f1 f2 z1 z2 c3 t3
    replace B3 := B3.later hb5
    replace hW := over hWr hb5
    refine wpList_append_row rfl (.tmp 33) (.tmp 46) 23 rfl elem_int (by decide) hW.size rfl hO1 (ivs (codesOf b.size ky l)) (ivs_one _) (ivs_cell _) rfl rfl hrr (by simp [HCl.out]; omega) (by decide) ?_
    intro v9 w6 hb6 hg6 hO6
    replace B3 : Box w6 _ _ _ := (hg6.block _ B3.lt fun he => own_ne hO1 B3 (by decide) he.symm).trans B3
    replace hW := hW.trans hb6
    clear hb6 hg6 hO1 hrr hb5 hWr B33
    obtain ⟨ra9, rc9, rfl, hle9, hr9⟩ := hO6.row
    have hr9' : IntsAt w6 ra9 (iv :: codesOf b.size ky l) := hr9
    have hl9 : ([[Value.int .i64 iv]] ++ ivs (codesOf b.size ky l)).length = (iv :: codesOf b.size ky l).length := by simp
    rw [hl9] at hO6 ⊢
    have HO6 := Lib.hid (show Own w6 w.heap.size 3 1 (.slice ra9 (iv :: codesOf b.size ky l).length rc9) (ivs (iv :: codesOf b.size ky l)) from hO6)
    have HR9 := Lib.hid hr9'
    clear hO6 hr9 hr9' hl9 hle9
    have hll : (iv :: codesOf b.size ky l).length = l.length + 1 := by simp [HCl.out]
    generalize hls : iv :: codesOf b.size ky l = ls at *
    have HCk : Hid (∀ W, Below w6.heap.size w6 W → Calls Try.prog 30 #[.agg #[.int .i64 b.size, .int .i64 b.words, .slice (some ⟨pk, ok, none⟩) b.keys.length q.c1, .slice (some ⟨pd, od, none⟩) b.days.length q.c2], .slice ra9 ls.length rc9] W (Ret (.int .i64 (chkOf b.size ls)) W)) := fun W hb => by
      have h := check_any q b ls ra9 rc9 W hS (RowAt.later HR9.out hb) HBd.out (by omega)
      rw [show bookV q b = .agg #[.int .i64 b.size, .int .i64 b.words, .slice q.a1 b.keys.length q.c1, .slice q.a2 b.days.length q.c2] from rfl, HEq.out.1, HEq.out.2] at h
      exact h
    have HLl := Lib.hid hll
    have HLs := Lib.hid hls
    clear hll hls
    have c3 := B3.cell; have t3 := B3.lt
    go_wp2_with fail
    refine (HCk.out _ (Below.refl _ _)).mono ?_
    rintro e w7 ⟨rfl, hb7⟩
    replace HO6 := Lib.hid (HO6.out.later hb7)
    replace hW := over hW hb7; clear hb7 B3 c3 t3
    go_wp2_with (at_builtin; refine named1 (p := wpList _ _ _ _ _) ?_; intro w8 hb8 BN; have hO := HO6.out.later hb8; refine wpList_grow rfl (.tmp 48) (.tmp 52) 23 rfl elem_int rfl hO rfl BN rfl (by decide) rfl (n := ls.length) (by simp) (by have := HLl.out; omega) (by decide) (by have := over hW hb8; exact this.size) ?_; intro a' c' W' hO' hb' hg')
    have hcd := HCd.out
    have hcl : (codeAll b day l).length = ls.length + 1 := by rw [hcd]; simp
    refine bodyPost_ret (v := .tuple #[.slice a' (ls.length + 1) c', .int .i64 0]) (by simp [results, Try.results9, go_sem]) rfl ⟨a', c', by rw [hcl], (over hW hb8).trans hb', ?_⟩
    rw [hcl, hcd, ivs, List.map_append]
    exact hO'

/-! ### The other way: what is deleted is of no account -/
def RetDel (n0 : Nat) (w : World) (e : Ending) (w' : World) : Prop := ∃ v, e = .returned v ∧ Below n0 w w'
set_option maxRecDepth 100000 in
set_option maxHeartbeats 2000000 in
theorem clone_any (l : List Int) (a : Option Addr) (c : Nat) (w : World) (h : IntsAt w a l) (hl : l.length ≤ 1000) :
    Calls Try.prog 47 #[.slice a l.length c] w (RetRow 3 1 (ivs l) w) := by
  have q22 : ∀ (w : World) (a : Option Addr) (n c n' c' : Nat), (binOp .eql 23 (.slice a n c) (.slice none n' c')).run Try.prog w = .ok (.bool a.isNone) w := fun w a n c n' c' => Lib.run_eql_slice_nil w _ _ a n c n' c' Try.underlying23
  cases a with
  | none =>
    have h0 : l = [] := by
      rcases h with h | ⟨b, o, h1, _⟩
      · simpa using h
      · cases h1
    subst h0
    go_enter Try.func47, Try.ntmps47
    go_wp2_with fail
    go_ret
    exact ⟨_, rfl, Below.refl _ _, Own.nil _ _ _ _⟩
  | some ad =>
    have HI := Lib.hid h
    clear h
    go_enter Try.func47, Try.ntmps47
    go_wp2_with (at_builtin; refine named1 (p := wpList _ _ _ _ _) ?_; intro w1 hb1 B1; refine wpList_fresh rfl (.tmp 5) (.tmp 6) 23 rfl elem_int (by decide) rfl B1 (Nat.le_refl _) (ivs l) (ivs_one l) (ivs_cell l) rfl (by simp) (HI.out.later hb1) (by simpa using hl) (by decide) ?_; intro v' w2 hb2 hown; replace hb2 := over hb1 hb2; clear hb1 B1)
    have HO := Lib.hid hown
    clear hown
    go_wp2_with fail
    go_ret
    exact ⟨_, rfl, hb2, HO.out⟩
end Go.Proofs.Ytbphpeoddifkfaa
