/- Lands copied: the walk. -/
import Derived.Test.YtmfnkmmbihmjnaaCopied1
open Go.RowKit
namespace Go.Proofs.Ytmfnkmmbihmjnaa
open Go.Hill

theorem elem_rst : Elem Try.prog 22 64 4 32 := ⟨by kernel_rfl, by kernel_rfl⟩
theorem elem_rwl : Elem Try.prog 23 55 6 48 := ⟨by kernel_rfl, by kernel_rfl⟩
theorem elem_rsn : Elem Try.prog 25 50 3 24 := ⟨by kernel_rfl, by kernel_rfl⟩
theorem elem_rcd : Elem Try.prog 59 61 8 64 := ⟨by kernel_rfl, by kernel_rfl⟩
theorem elem_rcs : Elem Try.prog 24 59 1 24 := ⟨by kernel_rfl, by kernel_rfl⟩

theorem own_cells2 {W : World} {base : Nat} {E : TypeId} {size : Nat} {v : Value} {xs : List (List Value)} (h : Own W base E size v xs) {k : Nat} (hk : v.ownBlock = some k) : ∃ cur, W.heap[k]? = some (.cells cur E (0, 0)) := by
  rcases h.1.2 with ⟨hv, _⟩ | ⟨g, cap, cur, hv, _, h3, _⟩
  · rw [hv] at hk; cases hk
  · rw [hv] at hk; cases hk; exact ⟨cur, h3⟩
/-- Cases in memory of the call's own, each in a row of its own. -/
def CV.val (x : CV) : Value := .slice x.a x.cs.length x.c
def CasesR (W : World) (n0 : Nat) (v : Value) (css : List (List Cd)) : Prop :=
  ∃ l : List CV, l.map (·.cs) = css ∧ Own W n0 59 1 v (l.map fun x => [x.val]) ∧ (∀ x ∈ l, Own W n0 61 8 x.val (x.cs.map Cd.vs)) ∧ l.Pairwise fun x y => ∀ g, x.val.ownBlock = some g → y.val.ownBlock ≠ some g

structure LandR (W : World) (n0 : Nat) (q : LV) (L : Land) : Prop where
  st : Own W n0 64 4 (.slice q.a1 L.st.length q.c1) (L.st.map Stn.vs)
  rd : Own W n0 55 6 (.slice q.a2 L.rd.length q.c2) (L.rd.map Wl.vs)
  cs : CasesR W n0 (.slice q.a3 L.cs.length q.c3) L.cs
  sn : Own W n0 50 3 (.slice q.a4 L.sn.length q.c4) (L.sn.map Sn.vs)
def RetCopy (L : Land) (w : World) (e : Ending) (w' : World) : Prop :=
  ∃ q : LV, e = .returned (.agg #[.slice q.a1 L.st.length q.c1, .slice q.a2 L.rd.length q.c2, .slice q.a3 L.cs.length q.c3, .slice q.a4 L.sn.length q.c4]) ∧ Below w.heap.size w w' ∧ LandR w' w.heap.size q L
theorem CasesR.nil (W : World) (n0 : Nat) : CasesR W n0 (.slice none 0 0) [] := ⟨[], rfl, Own.nil _ _ _ _, by simp, List.Pairwise.nil⟩
theorem CasesR.mono {W : World} {n0 n1 : Nat} {v : Value} {css : List (List Cd)} (h : CasesR W n1 v css) (hle : n0 ≤ n1) : CasesR W n0 v css := by
  obtain ⟨l, h1, h2, h3, h4⟩ := h
  exact ⟨l, h1, h2.mono hle, fun x hx => (h3 x hx).mono hle, h4⟩
theorem CasesR.but {W W' : World} {n0 b : Nat} {v : Value} {css : List (List Cd)} (h : CasesR W n0 v css) (hb : But b W W') (hlt : b < n0) : CasesR W' n0 v css := by
  obtain ⟨l, h1, h2, h3, h4⟩ := h
  exact ⟨l, h1, h2.but hb hlt, fun x hx => (h3 x hx).but hb hlt, h4⟩
theorem CasesR.row {W : World} {n0 : Nat} {v : Value} {css : List (List Cd)} (h : CasesR W n0 v css) : ∃ a c, v = .slice a css.length c := by
  obtain ⟨l, h1, h2, h3⟩ := h
  obtain ⟨a, c, hv, _, _⟩ := h2.row
  have hl : css.length = l.length := by rw [← h1]; simp
  exact ⟨a, c, by rw [hv, hl]; simp⟩
theorem CasesR.push {wr w5 W' W'' : World} {n1 b : Nat} {l : List CV} {v3 v' : Value} {x : CV} {css : List (List Cd)} (h1 : l.map (·.cs) = css) (hn : n1 ≤ wr.heap.size)
    (h3 : ∀ y ∈ l, Own wr n1 61 8 y.val (y.cs.map Cd.vs)) (h4 : l.Pairwise fun x y => ∀ g, x.val.ownBlock = some g → y.val.ownBlock ≠ some g) (hb : Below wr.heap.size wr w5) (hO : Own w5 n1 59 1 v3 (l.map fun y => [y.val]))
    (hx : Own w5 wr.heap.size 61 8 x.val (x.cs.map Cd.vs)) (hO' : Own W' n1 59 1 v' ((l.map fun y => [y.val]) ++ [[x.val]])) (hg : w5.grownBy W' v3.ownBlock)
    (hbut : But b W' W'') (hlt : b < n1) : CasesR W'' n1 v' (css ++ [x.cs]) := by
  refine ⟨l ++ [x], by simp [h1], ?_, ?_, ?_⟩
  · have := hO'.but hbut hlt
    simpa using this
  · intro y hy
    rcases List.mem_append.1 hy with hy | hy
    · exact (h3 y hy).aside hb hO (by decide) hg hbut hlt
    · simp at hy; subst hy
      exact ((hx.mono hn).apart hO (by decide) hg).but hbut hlt
  · rw [List.pairwise_append]
    refine ⟨h4, List.pairwise_singleton _ _, fun y hy z hz g hg1 hg2 => ?_⟩
    simp at hz; subst hz
    have a1 := ((h3 y hy).1.lt g hg1).2
    have a2 := (hx.1.lt g hg2).1
    omega

/-! ### What the operations of the first region are good for -/
def emptySpec (E : TypeId) : Fat.Spec := fun v lo hi w => v = .slice (some ⟨lo, 0, none⟩) 0 0 ∧ lo < hi ∧ Box w lo #[] E
theorem emptySpec_lasting (E : TypeId) : Fat.Lasting (emptySpec E) := fun _ _ _ _ _ hb _ h => ⟨h.1, h.2.1, h.2.2.later hb⟩
theorem emptySpec_new (E : TypeId) (w : World) : Below w.heap.size w (w.alloc (.cells #[] E)) ∧ emptySpec E (.slice (some ⟨w.heap.size, 0, none⟩) 0 0) w.heap.size (w.heap.size + 1) (w.alloc (.cells #[] E)) :=
  ⟨al (Below.refl _ _) _, rfl, by simp, Box.new w _ E⟩
def threeSpec (n0 : Nat) (L : Land) : Fat.Spec := fun v _ _ w => ∃ a1 c1 a2 c2 a4 c4, v = .agg #[.slice a1 L.st.length c1, .slice a2 L.rd.length c2, .slice none 0 0, .slice a4 L.sn.length c4] ∧
  Own w n0 64 4 (.slice a1 L.st.length c1) (L.st.map Stn.vs) ∧ Own w n0 55 6 (.slice a2 L.rd.length c2) (L.rd.map Wl.vs) ∧ Own w n0 50 3 (.slice a4 L.sn.length c4) (L.sn.map Sn.vs)
theorem threeSpec_lasting (n0 : Nat) (L : Land) : Fat.Lasting (threeSpec n0 L) := fun _ _ _ _ _ hb _ ⟨a1, c1, a2, c2, a4, c4, h, h1, h2, h3⟩ => ⟨a1, c1, a2, c2, a4, c4, h, h1.later hb, h2.later hb, h3.later hb⟩
def copySpec (n0 : Nat) (L : Land) (i : Nat) : Fat.Spec :=
  if i = 0 then emptySpec 64 else if i = 4 then emptySpec 55 else if i = 8 then emptySpec 50 else
  if i = 3 then ownSpec n0 64 4 (L.st.map Stn.vs) else if i = 7 then ownSpec n0 55 6 (L.rd.map Wl.vs) else if i = 11 then ownSpec n0 50 3 (L.sn.map Sn.vs) else
  if i = 12 then threeSpec n0 L else newSpec 27 4
theorem copySpec_lasting (n0 : Nat) (L : Land) (i : Nat) : Fat.Lasting (copySpec n0 L i) := by
  unfold copySpec
  (repeat' split) <;> first | exact emptySpec_lasting _ | exact ownSpec_lasting _ _ _ _ | exact threeSpec_lasting _ _ | exact newSpec_lasting _ _
theorem vs_st (l : List Stn) : (∀ x ∈ l.map Stn.vs, x.length = 4) ∧ ∀ x ∈ l.map Stn.vs, ∀ u ∈ x, u.oneCell' = true := by
  constructor
  · intro x hx; obtain ⟨s, _, rfl⟩ := List.mem_map.1 hx; rfl
  · intro x hx u hu; obtain ⟨s, _, rfl⟩ := List.mem_map.1 hx; simp [Stn.vs] at hu; rcases hu with rfl | rfl | rfl | rfl <;> rfl
theorem vs_wl (l : List Wl) : (∀ x ∈ l.map Wl.vs, x.length = 6) ∧ ∀ x ∈ l.map Wl.vs, ∀ u ∈ x, u.oneCell' = true := by
  constructor
  · intro x hx; obtain ⟨s, _, rfl⟩ := List.mem_map.1 hx; rfl
  · intro x hx u hu; obtain ⟨s, _, rfl⟩ := List.mem_map.1 hx; simp [Wl.vs] at hu; rcases hu with rfl | rfl | rfl | rfl | rfl | rfl <;> rfl
theorem vs_sn (l : List Sn) : (∀ x ∈ l.map Sn.vs, x.length = 3) ∧ ∀ x ∈ l.map Sn.vs, ∀ u ∈ x, u.oneCell' = true := by
  constructor
  · intro x hx; obtain ⟨s, _, rfl⟩ := List.mem_map.1 hx; rfl
  · intro x hx u hu; obtain ⟨s, _, rfl⟩ := List.mem_map.1 hx; simp [Sn.vs] at hu; rcases hu with rfl | rfl | rfl <;> rfl
theorem vs_cd (l : List Cd) : (∀ x ∈ l.map Cd.vs, x.length = 8) ∧ ∀ x ∈ l.map Cd.vs, ∀ u ∈ x, u.oneCell' = true := by
  constructor
  · intro x hx; obtain ⟨s, _, rfl⟩ := List.mem_map.1 hx; rfl
  · intro x hx u hu; obtain ⟨s, _, rfl⟩ := List.mem_map.1 hx; simp [Cd.vs] at hu; rcases hu with rfl | rfl | rfl | rfl | rfl | rfl | rfl | rfl <;> rfl

set_option maxRecDepth 100000 in
set_option maxHeartbeats 4000000 in
theorem copied_any (q : LV) (L : Land) (w : World) (hL : LandAt w q L) (hs : Small L) :
    Calls Try.prog 32 #[.agg #[.slice q.a1 L.st.length q.c1, .slice q.a2 L.rd.length q.c2, .slice q.a3 L.cs.length q.c3, .slice q.a4 L.sn.length q.c4]] w (RetCopy L w) := by
  have HL := Lib.hid hL
  have HS := Lib.hid hs
  obtain ⟨s1, s2, s3, s4, _⟩ := hs
  clear hL
  go_enter Try.func32, Try.ntmps32
  go_wp2_with fail
  refine named2 (p := Code.wp _ _ _ _) ?_
  intro W hW B1 B2
  have hWs : w.heap.size + 1 < W.heap.size := B2.lt
  have c1 := B1.cell; have t1 := B1.lt; have c2 := B2.cell; have t2 := B2.lt
  obtain ⟨n0, hn0⟩ : ∃ n, n = W.heap.size := ⟨_, rfl⟩
  have hsz : n0 ≤ W.heap.size := by omega
  have hn2 : w.heap.size + 1 < n0 := by omega
  clear hn0
  refine Fat.wp_region0 14 [0, 3, 4, 7, 8, 11, 12, 13] (copySpec n0 L) (copySpec_lasting n0 L) (by kernel_rfl) (by kernel_rfl) ?_
  simp only [List.take_succ_cons, List.take_zero, Fat.pick, List.contains_cons, List.contains_nil, Nat.reduceAdd, Nat.reduceBEq]
  repeat (first | simp only [Bool.or_false] | simp only [Bool.or_true] | simp only [Bool.true_or] | simp only [Bool.false_eq_true] | simp only [if_true] | simp only [if_false])
  repeat (go_big_quiet_step (fail))
  refine wpQuiet_nil ?_
  refine ⟨?_, ?_, ?_⟩
  · have hWr := hW
    intro i o hi hown ho vals lo hi' W hW hdep
    simp only [List.contains_cons, List.contains_nil, Bool.or_false] at hi
    (try simp only [Bool.or_eq_true] at hi)
    simp only [beq_iff_eq] at hi
    rcases hi with rfl | rfl | rfl | rfl | rfl | rfl | rfl | rfl
    all_goals first
      | exact absurd hown (by decide)
      | (simp only [List.getElem?_cons_succ, List.getElem?_cons_zero, Option.some.injEq] at ho; subst ho; refine .inl ⟨rfl, ?_⟩; simp only [Fat.putN, Fat.dstOf, Act.put, List.getElem?_toArray, List.getElem?_cons_succ, List.getElem?_cons_zero, Option.bind_some, List.setIfInBounds_toArray, List.set_cons_succ, List.set_cons_zero])
    · go_simp
      exact emptySpec_new _ _
    · obtain ⟨d1, d2, d3, (d4 : emptySpec _ _ _ _ _)⟩ := hdep 0 rfl (by kernel_rfl)
      refine gives_append elem_rst (by decide) (x := .tmp 5) (y := .tmp 7) rfl _ (lo 0) n0 ?_ d4.2.2 (by omega) _ (vs_st L.st).1 (vs_st L.st).2 _ _ _ rfl (by simp) ((HL.out.later hWr).later hW).st (by simpa using s1) (by decide)
      exact d4.1
    · go_simp
      exact emptySpec_new _ _
    · obtain ⟨d1, d2, d3, (d4 : emptySpec _ _ _ _ _)⟩ := hdep 4 rfl (by kernel_rfl)
      refine gives_append elem_rwl (by decide) (x := .tmp 9) (y := .tmp 11) rfl _ (lo 4) n0 ?_ d4.2.2 (by omega) _ (vs_wl L.rd).1 (vs_wl L.rd).2 _ _ _ rfl (by simp) ((HL.out.later hWr).later hW).rd (by simpa using s2) (by decide)
      exact d4.1
    · go_simp
      exact emptySpec_new _ _
    · obtain ⟨d1, d2, d3, (d4 : emptySpec _ _ _ _ _)⟩ := hdep 8 rfl (by kernel_rfl)
      refine gives_append elem_rsn (by decide) (x := .tmp 13) (y := .tmp 15) rfl _ (lo 8) n0 ?_ d4.2.2 (by omega) _ (vs_sn L.sn).1 (vs_sn L.sn).2 _ _ _ rfl (by simp) ((HL.out.later hWr).later hW).sn (by simpa using s4) (by decide)
      exact d4.1
    · obtain ⟨_, _, _, (h3 : Own _ _ _ _ (vals 3) _)⟩ := hdep 3 rfl (by kernel_rfl)
      obtain ⟨_, _, _, (h7 : Own _ _ _ _ (vals 7) _)⟩ := hdep 7 rfl (by kernel_rfl)
      obtain ⟨_, _, _, (h11 : Own _ _ _ _ (vals 11) _)⟩ := hdep 11 rfl (by kernel_rfl)
      obtain ⟨x1, y1, e1, _, _⟩ := h3.row
      obtain ⟨x2, y2, e2, _, _⟩ := h7.row
      obtain ⟨x4, y4, e4, _, _⟩ := h11.row
      rw [List.length_map] at e1 e2 e4
      rw [e1] at h3 ⊢
      rw [e2] at h7 ⊢
      rw [e4] at h11 ⊢
      go_simp
      exact ⟨Below.refl _ _, x1, y1, x2, y2, x4, y4, rfl, h3, h7, h11⟩
    · go_simp
      exact newSpec_new _ _ _
  · intro i o hi hown ho vals lo hi' W hW hdep
    simp only [List.contains_cons, List.contains_nil, Bool.or_false] at hi
    (try simp only [Bool.or_eq_true] at hi)
    simp only [beq_iff_eq] at hi
    rcases hi with rfl | rfl | rfl | rfl | rfl | rfl | rfl | rfl
    all_goals first
      | exact absurd (by decide) hown
      | (simp only [List.getElem?_cons_succ, List.getElem?_cons_zero, Option.some.injEq] at ho; subst ho; refine ⟨rfl, ?_⟩; simp only [Fat.putN, Fat.dstOf, Act.put, List.getElem?_toArray, List.getElem?_cons_succ, List.getElem?_cons_zero, Option.bind_some, List.setIfInBounds_toArray, List.set_cons_succ, List.set_cons_zero]; (try simp only [Option.bind_none]))
  · intro vals lo hi' w5 hb5 hphi hdis htied
    obtain ⟨_, _, _, a1, k1, a2, k2, a4, k4, (q12 : vals 12 = _), o1, o2, o4⟩ := hphi 12 rfl
    obtain ⟨g1, g2, g3, (q13 : vals 13 = _), _, cs0, (B3 : Box w5 (lo 13) _ _), hc0⟩ := hphi 13 rfl
    simp only [Fat.putN, Fat.dstOf, Act.put, List.getElem?_toArray, List.getElem?_cons_succ, List.getElem?_cons_zero, Option.bind_some, List.setIfInBounds_toArray, List.set_cons_succ, List.set_cons_zero, List.drop_succ_cons, List.drop_zero]
    rw [q12, q13]
    clear q12 q13 hphi hdis htied
    have hlo : n0 ≤ lo 13 := by omega
    generalize lo 13 = b3 at *
    refine wpList_store_box rfl rfl 27 (.tmp 3) (.tmp 17) rfl _ #[.slice a1 L.st.length k1, .slice a2 L.rd.length k2, .slice none 0 0, .slice a4 L.sn.length k4] rfl rfl B3 hc0 (by kernel_rfl) rfl ?_
    intro W5 C3 hbut
    have hW5 : Below w.heap.size w W5 := hbut.below (over hW hb5) (by omega)
    have hb3 : b3 < W5.heap.size := C3.lt
    have o1' : Own W5 n0 64 4 (.slice a1 L.st.length k1) (L.st.map Stn.vs) := o1.turn fun k hk => hbut.block k fun e => by
      obtain ⟨cur, hc⟩ := own_cells2 o1 hk
      rw [e, show w5.heap[b3]? = _ from B3] at hc; cases hc
    have o2' : Own W5 n0 55 6 (.slice a2 L.rd.length k2) (L.rd.map Wl.vs) := o2.turn fun k hk => hbut.block k fun e => by
      obtain ⟨cur, hc⟩ := own_cells2 o2 hk
      rw [e, show w5.heap[b3]? = _ from B3] at hc; cases hc
    have o4' : Own W5 n0 50 3 (.slice a4 L.sn.length k4) (L.sn.map Sn.vs) := o4.turn fun k hk => hbut.block k fun e => by
      obtain ⟨cur, hc⟩ := own_cells2 o4 hk
      rw [e, show w5.heap[b3]? = _ from B3] at hc; cases hc
    have D1 := hbut.box (B1.later hb5) (show w.heap.size ≠ b3 by omega)
    have D2 := hbut.box (B2.later hb5) (show w.heap.size + 1 ≠ b3 by omega)
    have O1 := Lib.hid o1'
    have O2 := Lib.hid o2'
    have O4 := Lib.hid o4'
    have HD1 := Lib.hid D1
    have HD2 := Lib.hid D2
    have HC3 := Lib.hid C3
    have HW5 := Lib.hid hW5
    obtain ⟨n1, hn1⟩ : ∃ n, n = W5.heap.size := ⟨_, rfl⟩
    have HN1 := Lib.hid hn1
    have hb31 : b3 < n1 := by omega
    clear o1 o2 o4 o1' o2' o4' hb5 B1 B2 B3 c1 t1 c2 t2 D1 D2 C3 hbut hW hWs g1 g2 g3 hc0 hW5 hn1 hb3 hsz
    go_wp2_with fail
    go_loopw [4] (fun i wr => ∃ k : Nat, k ≤ L.cs.length ∧ i = .int .i64 k ∧ Below w.heap.size w wr ∧ n1 ≤ wr.heap.size ∧ (∀ m, m < n1 → m ≠ b3 → wr.heap[m]? = W5.heap[m]?) ∧ ∃ v3, Box wr b3 #[.slice a1 L.st.length k1, .slice a2 L.rd.length k2, v3, .slice a4 L.sn.length k4] 27 ∧ CasesR wr n1 v3 (L.cs.take k)) (fun i _ => L.cs.length - (intOf i).toNat)
    case atStart => exact ⟨0, Nat.zero_le _, rfl, HW5.out, by rw [HN1.out]; exact Nat.le_refl _, fun _ _ _ => rfl, _, HC3.out, CasesR.nil _ _⟩
    case round =>
      obtain ⟨k, hk, rfl, hW, hsz, hsame, v3, B3, l, o3a, o3b, o3c, o3d⟩ := hrel
      have HSame := Lib.hid hsame
      have O3a := Lib.hid o3a
      have O3b := Lib.hid o3b
      have O3c := Lib.hid o3c
      have O3d := Lib.hid o3d
      have HLn : Hid (l.length = k) := by
        have := congrArg List.length o3a
        simp at this; unfold Hid; omega
      have B1 : Box wr w.heap.size #[.slice q.a1 L.st.length q.c1, .slice q.a2 L.rd.length q.c2, .slice q.a3 L.cs.length q.c3, .slice q.a4 L.sn.length q.c4] 27 := (hsame _ (by omega) (by omega)).trans HD1.out
      have B2 : Box wr (w.heap.size + 1) #[.slice none 0 0, .slice none 0 0, .slice none 0 0, .slice none 0 0] 27 := (hsame _ (by omega) (by omega)).trans HD2.out
      clear o3a o3b o3c o3d hsame
      have c1 := B1.cell; have t1 := B1.lt; have c3 := B3.cell; have t3 := B3.lt
      by_cases hlt : k < L.cs.length
      · obtain ⟨cl, hcl, hrow, hcs⟩ := HL.out.cs
        have hcll : cl.length = L.cs.length := by rw [← hcl]; simp
        obtain ⟨p1, o1, ea, hC1⟩ := RowAt.at (k := k) hrow (by rw [hcll]; exact hlt)
        obtain ⟨x, hx⟩ : ∃ x, cl[k]? = some x := ⟨cl[k]'(by rw [hcll]; exact hlt), by simp⟩
        have e0 := cells_one (hC1.later hW) hx
        have hxl := HS.out.l5 x.cs (by rw [← hcl]; exact List.mem_map_of_mem (List.mem_of_getElem? hx))
        have HX : Hid (L.cs[k]? = some x.cs) := by rw [Hid, ← hcl, List.getElem?_map, hx]; rfl
        have HR := Lib.hid (hcs x (List.mem_of_getElem? hx))
        have z1 := block_lt_of_cell e0
        clear hx hC1 hcl hrow hcs hcll
        rw [ea] at c1
        have r1 : (0 : Int) ≤ (k : Int) := by omega
        have r2 : (k : Int) < (L.cs.length : Int) := by omega
        clear ea
        go_wp2_with fail
        have hWr := hW
        obtain ⟨n2, hn2'⟩ : ∃ n, n = wr.heap.size := ⟨_, rfl⟩
        have HN2 := Lib.hid hn2'
        have hn2le : n2 ≤ wr.heap.size := by omega
        clear hn2'
        refine Fat.wp_region0 10 [2, 8, 9] (fun i => if i = 2 then emptySpec 61 else if i = 8 then ownSpec n2 61 8 (x.cs.map Cd.vs) else oneOwnSpec 59 n2 61 8 (x.cs.map Cd.vs))
          (fun i => by (repeat' split) <;> first | exact emptySpec_lasting _ | exact ownSpec_lasting _ _ _ _ | exact oneOwnSpec_lasting _ _ _ _ _) (by kernel_rfl) (by kernel_rfl) ?_
        simp only [List.take_succ_cons, List.take_zero, Fat.pick, List.contains_cons, List.contains_nil, Nat.reduceAdd, Nat.reduceBEq]
        repeat (first | simp only [Bool.or_false] | simp only [Bool.or_true] | simp only [Bool.true_or] | simp only [Bool.false_eq_true] | simp only [if_true] | simp only [if_false])
        repeat (go_big_quiet_step (fail))
        refine wpQuiet_nil ?_
        refine ⟨?_, ?_, ?_⟩
        · intro i o hi hown ho vals lo hi' W hW hdep
          simp only [List.contains_cons, List.contains_nil, Bool.or_false] at hi
          (try simp only [Bool.or_eq_true] at hi)
          simp only [beq_iff_eq] at hi
          rcases hi with rfl | rfl | rfl
          all_goals first
            | exact absurd hown (by decide)
            | (simp only [List.getElem?_cons_succ, List.getElem?_cons_zero, Option.some.injEq] at ho; subst ho; refine .inl ⟨rfl, ?_⟩; simp only [Fat.putN, Fat.dstOf, Act.put, List.getElem?_toArray, List.getElem?_cons_succ, List.getElem?_cons_zero, Option.bind_some, List.setIfInBounds_toArray, List.set_cons_succ, List.set_cons_zero])
          · go_simp
            exact emptySpec_new _ _
          · obtain ⟨d1, d2, d3, (d4 : emptySpec _ _ _ _ _)⟩ := hdep 2 rfl (by kernel_rfl)
            refine gives_append elem_rcd (by decide) (x := .tmp 27) (y := .tmp 32) rfl _ (lo 2) n2 ?_ d4.2.2 (by omega) _ (vs_cd x.cs).1 (vs_cd x.cs).2 _ _ _ rfl (by simp) ((HR.out.later hWr).later hW) (by simpa using hxl) (by decide)
            exact d4.1
          · obtain ⟨_, _, _, (hv : Own _ _ _ _ (vals 8) _)⟩ := hdep 8 rfl (by kernel_rfl)
            obtain ⟨a7, c7, e7, _, _⟩ := hv.row
            rw [List.length_map] at e7
            rw [e7] at hv ⊢
            go_simp
            exact oneOwnSpec_new _ hv
        · intro i o hi hown ho vals lo hi' W hW hdep
          simp only [List.contains_cons, List.contains_nil, Bool.or_false] at hi
          (try simp only [Bool.or_eq_true] at hi)
          simp only [beq_iff_eq] at hi
          rcases hi with rfl | rfl | rfl
          all_goals first
            | exact absurd (by decide) hown
            | (simp only [List.getElem?_cons_succ, List.getElem?_cons_zero, Option.some.injEq] at ho; subst ho; refine ⟨rfl, ?_⟩; simp only [Fat.putN, Fat.dstOf, Act.put, List.getElem?_toArray, List.getElem?_cons_succ, List.getElem?_cons_zero, Option.bind_some, List.setIfInBounds_toArray, List.set_cons_succ, List.set_cons_zero]; (try simp only [Option.bind_none]))
        · intro vals lo hi' w6 hb6 hphi hdis htied
          obtain ⟨_, _, _, (q9 : vals 9 = _), _, u, (B68 : Box w6 (lo 9) _ _), hu⟩ := hphi 9 rfl
          simp only [Fat.putN, Fat.dstOf, Act.put, List.getElem?_toArray, List.getElem?_cons_succ, List.getElem?_cons_zero, Option.bind_some, List.setIfInBounds_toArray, List.set_cons_succ, List.set_cons_zero, List.drop_succ_cons, List.drop_zero]
          rw [q9]
          clear q9 hphi hdis htied
          generalize vals 2 = v2 at *
          generalize vals 8 = v8 at *
          clear vals
          generalize lo 9 = b68 at *
          obtain ⟨ua, uc, eu, _, _⟩ := hu.row
          rw [List.length_map] at eu
          subst eu
          have hO := O3b.out.later hb6
          have HU := Lib.hid hu
          clear hu e0 z1
          have hszb : n1 ≤ w6.heap.size := Nat.le_trans hsz hb6.size
          refine wpList_grow rfl (.tmp 26) (.tmp 34) 24 rfl elem_rcs rfl hO rfl B68 rfl (by omega) rfl (n := k) (by rw [List.length_map]; exact HLn.out) (by omega) (by omega) hszb ?_
          intro a' c' W' hO' hb' hg'
          have C3 := (B3.later hb6).past hb' hb31
          clear c1 t1 c3 t3
          have c3 := C3.cell
          have t3 := C3.lt
          have f3 := C3.frozen
          go_wp2_with fail
          go_roundw
          case rel =>
            have hbut := setCell_but W' b3 2 (.slice a' (k + 1) c')
            refine ⟨k + 1, by omega, by go_num, hbut.below ((over hW hb6).trans (hb'.mono (by omega))) (by omega), by rw [hbut.size]; exact Nat.le_trans hszb hb'.size, fun m h1 h2 => ?_, _, setCell_box C3 2 _, ?_⟩
            · rw [hbut.block m h2, hb'.block m h1, hb6.block m (by omega)]; exact HSame.out m h1 h2
            · have := CasesR.push (x := ⟨ua, uc, x.cs⟩) O3a.out hsz O3c.out O3d.out hb6 hO (by rw [← HN2.out]; exact HU.out) hO' hg' hbut hb31
              rw [List.take_add_one, HX.out]
              exact this
          case measure => simp [intOf]; omega
      · obtain rfl : k = L.cs.length := by omega
        have o3 : CasesR wr n1 v3 (L.cs.take L.cs.length) := ⟨l, O3a.out, O3b.out, O3c.out, O3d.out⟩
        rw [List.take_of_length_le (Nat.le_refl _)] at o3
        obtain ⟨a3, k3, rfl⟩ := o3.row
        have O3 := Lib.hid o3
        clear o3 O3a O3b O3c O3d
        have c2 := B2.cell; have t2 := B2.lt
        have f2 := B2.frozen
        go_wp2_with (with_reducible refine wpList_store_box rfl rfl 27 (.tmp 2) (.tmp 37) rfl _ #[.slice a1 L.st.length k1, .slice a2 L.rd.length k2, .slice a3 L.cs.length k3, .slice a4 L.sn.length k4] rfl rfl B2 rfl (by kernel_rfl) rfl ?_; intro W' B2' hbut; clear c2 t2; have c2 := B2'.cell; have t2 := B2'.lt)
        have hturn : ∀ {E size v xs}, Own W5 n0 E size v xs → E ≠ 27 → Own W' w.heap.size E size v xs := fun {E size v xs} h hne => by
          refine (h.turn fun k hk => ?_).mono (by omega)
          have h1 := h.1.lt k hk
          rw [hbut.block k (by omega)]
          refine HSame.out k (by rw [HN1.out]; exact h1.2) fun e => ?_
          obtain ⟨cur, hc⟩ := own_cells2 h hk
          rw [e, show W5.heap[b3]? = _ from HC3.out] at hc
          cases hc; exact hne rfl
        refine bodyPost_ret (v := .agg #[.slice a1 L.st.length k1, .slice a2 L.rd.length k2, .slice a3 L.cs.length k3, .slice a4 L.sn.length k4]) (by simp [results, Try.results32, go_sem, c2]) rfl ⟨⟨a1, k1, a2, k2, a3, k3, a4, k4⟩, rfl, hbut.below hW (by omega), ?_⟩
        exact ⟨hturn O1.out (by decide), hturn O2.out (by decide), (O3.out.but hbut (by omega)).mono (by omega), hturn O4.out (by decide)⟩
end Go.Proofs.Ytmfnkmmbihmjnaa
