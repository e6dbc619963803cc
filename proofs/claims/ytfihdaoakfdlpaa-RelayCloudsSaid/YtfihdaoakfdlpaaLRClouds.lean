/- The statement on one more wall, on relays: its walk. -/
import Derived.Test.YtfihdaoakfdlpaaRV2
import Derived.Test.YtfihdaoakfdlpaaRD
import Derived.Deep.DeepCutAuto
import Derived.Deep.CutBlock
import Derived.Deep.RegionHeld3
import Derived.Deep.DrawnRows
import Derived.Deep.AppendLies
open Go.RowKit
namespace Go.Proofs.Ytfihdaoakfdlpaa
open Go.Hill
attribute [local go_sem ↓] Go.wp_at_zero Go.wp_at_succ

theorem earlE_ok {L : Land} {f s k : Nat} (hc : L.chk = 0) (hf : f < L.st.length) (hs : s ≤ L.sn.length) (hk : k < L.cs.length) : Land.earlE L f s k = (Land.fins L f s k (-1), 0) := by
  unfold Land.earlE
  rw [if_pos (askr_ok hc hf hf hs hk)]; rfl
theorem routeE_ok {L : Land} {f t s : Nat} (hc : L.chk = 0) (hf : f < L.st.length) (ht : t < L.st.length) (hs : s ≤ L.sn.length) : Land.routeE L f t s = (match L.route f t s with | some (l, u) => (l, (u : Int), 0) | none => ([], 0, 10)) := by
  unfold Land.routeE
  rw [if_pos (show L.askr f t s 0 = 0 from askr_ok (k := 0) hc hf ht hs (st_six hc).2.2.2.2.2)]; rfl
theorem lim_of {L : Land} (h : L.chk = 0) : L.rd.length ≤ 6 ∧ ∀ c ∈ L.cs, c.length ≤ 4 := by
  have h1 := (Go.Hill.chk_zero.1 h).1
  unfold Land.lim at h1
  simp only [Bool.or_eq_false_iff, decide_eq_false_iff_not, Bool.not_eq_false', List.all_eq_true, decide_eq_true_eq] at h1
  exact ⟨by omega, h1.2⟩
abbrev landK (q : LV) (L : Land) : Array Value := #[.slice q.a1 L.st.length q.c1, .slice q.a2 L.rd.length q.c2, .slice q.a3 L.cs.length q.c3, .slice q.a4 L.sn.length q.c4]
def threeLd (T : TypeId) (cs : Array Value) (i : Nat) : Fat.Spec := if 6 ≤ i then setSpec T cs else newSpec T 4
theorem threeLd_lasting {T : TypeId} {cs : Array Value} (i : Nat) : Fat.Lasting (threeLd T cs i) := by unfold threeLd; split <;> first | exact setSpec_lasting _ _ | exact newSpec_lasting _ _
theorem threeLd_local {T : TypeId} {cs : Array Value} (i : Nat) : Fat.Local (threeLd T cs i) := by unfold threeLd; split <;> first | exact setSpec_local _ _ | exact newSpec_local _ _
theorem own_empty {W : World} {base g size : Nat} {E : TypeId} (h : Box W g #[] E) (hb : base ≤ g) : Own W base E size (.slice (some ⟨g, 0, none⟩) 0 0) [] :=
  ⟨⟨by simp, .inr ⟨g, 0, #[], by simp, hb, h, Nat.le_refl _, by decide, by simp, by simp⟩⟩, by simp⟩
theorem step_fresh {P : Program} {ops : Array Oper} {o : Oper} {a : Act} {W : World} {K : Act → World → Prop} {Q : Exit → Act → World → Prop} {Z : Prop} (hgd : o.guard = none) (s x : Operand) (t : TypeId)
    (ho : o.op = .call { callee := .builtin .append, args := #[s, x], argTypes := #[t, t] }) {E : TypeId} {size bytes : Nat} (he : Elem P t E size bytes) (h0 : 0 < size) {g base : Nat} (hs : a.eval s = .slice (some ⟨g, 0, none⟩) 0 0) (hg : Box W g #[] E) (hb : base ≤ g)
    (xs : List (List Value)) (hl : ∀ x ∈ xs, x.length = size) (h1 : ∀ x ∈ xs, ∀ u ∈ x, u.oneCell' = true) {ad : Option Addr} {n c : Nat} (hx : a.eval x = .slice ad n c) (hnn : n = xs.length) (hr : RowAt W ad size xs) (hn : xs.length ≤ 1000) (hby : bytes ≤ 1000)
    (h : ∀ v' W', Below W.heap.size W W' → Own W' base E size v' xs → K (a.put o.dst v') W') : if Region.wanted o (yielded ops a.tmps) = true then Oper.wp P o a W K Q else Z := by
  subst hnn
  obtain ⟨v', w', hrun, h2, h3⟩ := run_append_fresh (ty := o.type) he h0 W g base hg hb xs hl h1 ad c hr hn hby
  rw [if_pos (by simp [Region.wanted, hgd])]
  unfold Oper.wp execOp
  simp only [ho, resolve, invoke, builtin, Sem.run_bind, Sem.run_pure, Result.andThen_ok, List.map_toArray, List.map_cons, List.map_nil, hs, hx, hrun]
  exact h v' w' h2 h3

theorem step_grow {P : Program} {ops : Array Oper} {o : Oper} {a : Act} {W : World} {K : Act → World → Prop} {Q : Exit → Act → World → Prop} {Z : Prop} (hgd : o.guard = none) (s x : Operand) (t : TypeId)
    (ho : o.op = .call { callee := .builtin .append, args := #[s, x], argTypes := #[t, t] }) {base : Nat} {E : TypeId} {size bytes : Nat} (he : Elem P t E size bytes) {v : Value} {xs : List (List Value)} (hs : a.eval s = v) (hown : Own W base E size v xs)
    {g c : Nat} {cells : Array Value} (hx : a.eval x = .slice (some ⟨g, 0, none⟩) 1 c) (hB : Box W g cells E) (hsz : cells.size = size) (h0 : 0 < size) (h1 : cells.toList.all (·.oneCell') = true)
    {n : Nat} (hnn : xs.length = n) (hn : n ≤ 1000) (hby : bytes ≤ 1000) (hbase : base ≤ W.heap.size)
    (h : ∀ a' c' W', Own W' base E size (.slice a' (n + 1) c') (xs ++ [cells.toList]) → Below base W W' → K (a.put o.dst (.slice a' (n + 1) c')) W') : if Region.wanted o (yielded ops a.tmps) = true then Oper.wp P o a W K Q else Z := by
  subst hnn
  obtain ⟨i, z, hi, hz, i1, i2, i3⟩ := he.get
  refine step_append_lies _ hgd s x t ho base E i z size bytes he.ht hi hz i1 i2 i3 h0 v xs.length xs.flatten hs hown.1 ⟨g, 0, none⟩ 1 c cells.toList hx (by simp [hsz]) (World.news_of_block (fr := (0, 0)) hB) (fun u hu => by rw [List.all_eq_true] at h1; exact h1 u hu) (by omega) (by unfold maxLen; omega) ?_ hbase W.heap.size rfl ?_
  · have : (xs.length + 1) * bytes ≤ 1001 * 1000 := Nat.mul_le_mul (by omega) hby
    omega
  · intro g' cap w' h2 h3 _ _
    exact h _ _ _ (own_snoc hown rfl h2 (by simp [hsz])) (below_grown h3 hbase fun k hk => (hown.1.lt k hk).1)
theorem cells_put {W : World} {b o k : Nat} {xs : List (List Value)} {cur : Array Value} {T : TypeId} (hB : Box W b cur T) (h : Cells W b o 1 xs) (h1 : ∀ x ∈ xs, x.length = 1) (hk : o + k < cur.size) (v : Value) : Cells (W.setCell ⟨b, o + k, none⟩ v) b o 1 (xs.set k [v]) := by
  have hB2 := setCell_box hB (o + k) v
  intro i x hx j u hu
  rw [hB2.cell, Array.getElem?_setIfInBounds]
  rw [List.getElem?_set] at hx
  by_cases hik : k = i
  · subst hik
    rw [if_pos rfl] at hx
    split at hx
    · cases hx
      cases j with
      | zero => simp at hu; subst hu; rw [if_pos (by omega), if_pos hk]
      | succ j => simp at hu
    · cases hx
  · rw [if_neg hik] at hx
    have hj : j = 0 := by
      have h2 := h1 x (List.mem_of_getElem? hx)
      have h3 := (List.getElem?_eq_some_iff.1 hu).1
      omega
    subst hj
    rw [if_neg (by omega), ← hB.cell]
    exact h i x hx 0 u hu
theorem vs_cv (l : List CV) : (∀ x ∈ (l.map fun x : CV => [Value.slice x.a x.cs.length x.c]), x.length = 1) ∧ ∀ x ∈ (l.map fun x : CV => [Value.slice x.a x.cs.length x.c]), ∀ u ∈ x, u.oneCell' = true := by
  constructor
  · intro x hx; obtain ⟨s, _, rfl⟩ := List.mem_map.1 hx; rfl
  · intro x hx u hu; obtain ⟨s, _, rfl⟩ := List.mem_map.1 hx; simp at hu; subst hu; rfl
theorem own_cap {W : World} {base : Nat} {E : TypeId} {size n c g : Nat} {xs : List (List Value)} (h : Own W base E size (.slice (some ⟨g, 0, none⟩) n c) xs) {cur : Array Value} (hB : Box W g cur E) : n ≤ c ∧ cur.size = c * size := by
  rcases h.1.2 with ⟨hv, _⟩ | ⟨g', cap, cur', hv, _, hg, hle, _, hsz, _⟩
  · cases hv
  · cases hv
    unfold Box at hB
    rw [hg] at hB
    cases hB
    exact ⟨by have := h.rowAt.1; omega, hsz⟩

structure CSt (w wx : World) (qX : LV) (LX : Land) (qY : LV) (LY : Land) (bx by' : Nat) (ta : Option Addr) (tl : List Int) : Prop where
  W : Below w.heap.size w wx
  X : LandAt wx qX LX
  Y : LandAt wx qY LY
  bX : Box wx bx (landK qX LX) 27
  bY : Box wx by' (landK qY LY) 27
  t : IntsAt wx ta tl
theorem CSt.later {w wx wy : World} {qX : LV} {LX : Land} {qY : LV} {LY : Land} {bx by' : Nat} {ta : Option Addr} {tl : List Int} (h : CSt w wx qX LX qY LY bx by' ta tl) (hb : Below wx.heap.size wx wy) : CSt w wy qX LX qY LY bx by' ta tl :=
  ⟨over h.W hb, h.X.later hb, h.Y.later hb, h.bX.later hb, h.bY.later hb, h.t.later hb⟩
set_option maxRecDepth 100000 in
set_option maxHeartbeats 16000000 in
theorem RelayClouds_any (q : LV) (L : Land) (a b c d : Nat) (x : Wl) (w : World) (hL : LandAt w q L) (hs : Sane L) (ga : a < 256) (gb : b < 256) (gc : c < 256) (gd : d < 256) :
    Calls Try.prog 5 #[landV q L, .int .u8 a, .int .u8 b, .int .u8 c, .int .u8 d, .agg #[.int .i64 x.X1, .int .i64 x.Y1, .int .i64 x.X2, .int .i64 x.Y2, .int .i64 x.B, .int .i64 x.T]] w (Ret (.bool true) w) := by
  obtain ⟨tv, htv⟩ : ∃ tv, tv = ready3B L := ⟨_, rfl⟩
  have HReady : Hid (∀ W, Below w.heap.size w W → Calls Try.prog 7 #[landV q L] W (Ret (.bool tv) W)) := fun W hW => by rw [htv]; exact ready3_any q L W (hL.later hW) hs
  have HL := Lib.hid hL
  have HTv := Lib.hid htv
  clear hL hs htv
  go_enter Try.func5, Try.ntmps5
  go_wp2_with fail
  refine named2 (p := fun W => Calls _ _ _ W _) ?_
  intro W hW B5 B7
  refine (HReady.out W hW).mono ?_
  rintro e w1 ⟨rfl, hb1⟩
  replace hW := over hW hb1; (try clear c5 t5 c7 t7); replace B5 := B5.later hb1; replace B7 := B7.later hb1; have c5 := B5.cell; have t5 := B5.lt; have c7 := B7.cell; have t7 := B7.lt; clear hb1 HReady
  cases tv with
  | false =>
    go_wp2_with fail
    refine (awake_any _).mono ?_
    rintro e w2 ⟨rfl, hb2⟩
    replace hW := over hW hb2
    clear hb2
    go_wp2_with fail
    go_ret
    exact ⟨rfl, hW⟩
  | true =>
    have htv := HTv.out.symm
    unfold ready3B at htv
    simp only [Bool.and_eq_true, beq_iff_eq] at htv
    have HS := Lib.hid (thin_small htv.1)
    have hc := htv.2
    obtain ⟨n6, n0, e12, e0, m4, m0⟩ := st_six hc
    have HN1 := Lib.hid (fun W => numbers_any q L a c d W hc ga gc gd)
    have HN2 := Lib.hid (fun W => numbers_any q L b 0 0 W hc gb (by omega) (by omega))
    have hf : a % L.st.length < L.st.length := Nat.mod_lt _ n0
    have ht : b % L.st.length < L.st.length := Nat.mod_lt _ n0
    have hs : c % (L.sn.length + 1) ≤ L.sn.length := Nat.le_of_lt_succ (Nat.mod_lt _ (by omega))
    have hk : d % L.cs.length < L.cs.length := Nat.mod_lt _ m0
    generalize a % L.st.length = f at *
    generalize b % L.st.length = t at *
    generalize c % (L.sn.length + 1) = s at *
    generalize d % L.cs.length = k at *
    have HC := Lib.hid hc
    obtain ⟨hr6', hd4⟩ := lim_of hc
    have hr6 : L.rd.length ≤ 1000 := by omega
    have HD4 := Lib.hid hd4
    clear hd4
    clear htv HTv hc
    go_wp2_with fail
    refine (HN1.out _).mono ?_
    rintro e w2 ⟨rfl, hb2⟩
    replace hW := over hW hb2; (try clear c5 t5 c7 t7); replace B5 := B5.later hb2; replace B7 := B7.later hb2; have c5 := B5.cell; have t5 := B5.lt; have c7 := B7.cell; have t7 := B7.lt; clear hb2 HN1
    go_wp2_with fail
    refine (HN2.out _).mono ?_
    rintro e w3 ⟨rfl, hb3⟩
    replace hW := over hW hb3; (try clear c5 t5 c7 t7); replace B5 := B5.later hb3; replace B7 := B7.later hb3; have c5 := B5.cell; have t5 := B5.lt; have c7 := B7.cell; have t7 := B7.lt; clear hb3 HN2
    go_upto_region 5 with fail
    have hlt3 : w.heap.size + 1 < w3.heap.size := t7
    refine Fat.wp_region 9 [3, 4, 5, 6, 7, 8] [(6, 3), (7, 4), (8, 5)] (threeLd 27 (landK q L)) threeLd_lasting threeLd_local (by kernel_rfl) (by kernel_rfl) ?_
    simp only [List.take_succ_cons, List.take_nil, Fat.pick, List.contains_cons, List.contains_nil, Nat.reduceAdd, Nat.reduceBEq]
    repeat (first | simp only [Bool.or_false] | simp only [Bool.or_true] | simp only [Bool.true_or] | simp only [Bool.false_eq_true] | simp only [if_true] | simp only [if_false])
    repeat (go_big_quiet_step (fail))
    refine wpQuiet_nil ?_
    refine ⟨?_, ?_, ?_⟩
    · intro i o hi hown ho vals lo hi' W hW hdep
      simp only [List.contains_cons, List.contains_nil, Bool.or_false] at hi
      (try simp only [Bool.or_eq_true] at hi)
      simp only [beq_iff_eq] at hi
      rcases hi with rfl | rfl | rfl | rfl | rfl | rfl
      all_goals first
        | exact absurd hown (by decide)
        | (simp only [List.getElem?_cons_succ, List.getElem?_cons_zero, Option.some.injEq] at ho; subst ho; refine .inl ⟨rfl, ?_⟩; simp only [Fat.putN, Fat.dstOf, Act.put, List.getElem?_toArray, List.getElem?_cons_succ, List.getElem?_cons_zero, Option.bind_some, List.setIfInBounds_toArray, List.set_cons_succ, List.set_cons_zero])
      · go_simp
        exact newSpec_new _ _ _
      · go_simp
        exact newSpec_new _ _ _
      · go_simp
        exact newSpec_new _ _ _
    · intro i o hi hown ho vals lo hi' W hW hdep
      simp only [List.contains_cons, List.contains_nil, Bool.or_false] at hi
      (try simp only [Bool.or_eq_true] at hi)
      simp only [beq_iff_eq] at hi
      rcases hi with rfl | rfl | rfl | rfl | rfl | rfl
      all_goals first
        | exact absurd (by decide) hown
        | (simp only [List.getElem?_cons_succ, List.getElem?_cons_zero, Option.some.injEq] at ho; subst ho; refine ⟨rfl, ?_⟩; simp only [Fat.putN, Fat.dstOf, Act.put, List.getElem?_toArray, List.getElem?_cons_succ, List.getElem?_cons_zero, Option.bind_some, List.setIfInBounds_toArray, List.set_cons_succ, List.set_cons_zero]; (try simp only [Option.bind_none]))
      · obtain ⟨_, _, _, hn⟩ := hdep 3 rfl (by kernel_rfl)
        exact gives_fill (x := .tmp 19) (y := .tmp 58) rfl hn (landK q L) rfl rfl rfl (by kernel_rfl) rfl
      · obtain ⟨_, _, _, hn⟩ := hdep 4 rfl (by kernel_rfl)
        exact gives_fill (x := .tmp 20) (y := .tmp 59) rfl hn (landK q L) rfl rfl rfl (by kernel_rfl) rfl
      · obtain ⟨_, _, _, hn⟩ := hdep 5 rfl (by kernel_rfl)
        exact gives_fill (x := .tmp 21) (y := .tmp 60) rfl hn (landK q L) rfl rfl rfl (by kernel_rfl) rfl
    · intro vals lo hi' w5 hb5 hphi hdis htied
      obtain ⟨ex1, -, -, (q3 : vals 3 = _), -⟩ := hphi 3 rfl
      obtain ⟨ey1, -, -, (q4 : vals 4 = _), -⟩ := hphi 4 rfl
      obtain ⟨ez1, -, -, (q5 : vals 5 = _), -⟩ := hphi 5 rfl
      obtain ⟨-, -, -, (ex2 : lo 6 < hi' 6), (BX : Box w5 (lo 6) _ _)⟩ := hphi 6 rfl
      obtain ⟨-, -, -, (ey2 : lo 7 < hi' 7), (BY : Box w5 (lo 7) _ _)⟩ := hphi 7 rfl
      obtain ⟨-, -, -, (ez2 : lo 8 < hi' 8), (BZ : Box w5 (lo 8) _ _)⟩ := hphi 8 rfl
      have x67 := hdis 6 7 rfl rfl (by decide)
      have x68 := hdis 6 8 rfl rfl (by decide)
      have x78 := hdis 7 8 rfl rfl (by decide)
      have l3 : lo 3 = lo 6 := (htied 6 rfl (by decide)).1.symm
      have l4 : lo 4 = lo 7 := (htied 7 rfl (by decide)).1.symm
      have l5 : lo 5 = lo 8 := (htied 8 rfl (by decide)).1.symm
      rw [l3] at ex1
      rw [l4] at ey1
      rw [l5] at ez1
      simp only [Fat.putN, Fat.dstOf, Act.put, List.getElem?_toArray, List.getElem?_cons_succ, List.getElem?_cons_zero, Option.bind_some, List.setIfInBounds_toArray, List.set_cons_succ, List.set_cons_zero, List.drop_succ_cons, List.drop_nil]
      (try simp only [Option.bind_none])
      rw [q3, q4, q5, l3, l4, l5]
      clear q3 q4 q5 hphi hdis htied vals l3 l4 l5
      replace ex1 : w.heap.size + 1 < lo 6 := by omega
      replace ey1 : w.heap.size + 1 < lo 7 := by omega
      replace ez1 : w.heap.size + 1 < lo 8 := by omega
      replace x67 : lo 6 ≠ lo 7 := by omega
      replace x68 : lo 6 ≠ lo 8 := by omega
      replace x78 : lo 7 ≠ lo 8 := by omega
      clear ex2 ey2 ez2
      generalize lo 6 = bx at *
      generalize lo 7 = «by» at *
      generalize lo 8 = bz at *
      replace BX : Box w5 bx (landK q L) 27 := BX
      replace BY : Box w5 «by» (landK q L) 27 := BY
      replace BZ : Box w5 bz (landK q L) 27 := BZ
      clear lo hi'
      replace hW := over hW hb5; (try clear c5 t5 c7 t7); replace B5 := B5.later hb5; replace B7 := B7.later hb5; have c5 := B5.cell; have t5 := B5.lt; have c7 := B7.cell; have t7 := B7.lt; clear hb5 
      have HBX := Lib.hid BX
      have HBY := Lib.hid BY
      have HBZ := Lib.hid BZ
      have HNe := Lib.hid (And.intro ex1 (And.intro ey1 (And.intro ez1 (And.intro x67 (And.intro x68 x78)))))
      clear BX BY BZ ex1 ey1 ez1 x67 x68 x78 hlt3
      have f7 := B7.frozen
      go_upto_region 7 with fail
      clear f7
      refine nameAny (p := Code.wp _ _ _ _) ?_
      intro V hV
      obtain ⟨z, hz0⟩ : ∃ z : Wl, z = ⟨x.X1, x.Y1, x.X2, x.Y2, 0, x.T⟩ := ⟨_, rfl⟩
      have but4 : But (w.heap.size + 1) w5 V := by rw [hV]; exact setCell_but _ _ _ _
      have D7 : Box V (w.heap.size + 1) #[.int .i64 z.X1, .int .i64 z.Y1, .int .i64 z.X2, .int .i64 z.Y2, .int .i64 z.B, .int .i64 z.T] 52 := by rw [hV, hz0]; exact setCell_box B7 4 _
      obtain ⟨nx, ny, nz, nxy, nxz, nyz⟩ := HNe.out
      replace hW := but4.below hW (by omega)
      replace B5 := but4.box B5 (by omega)
      replace HBX := Lib.hid (but4.box HBX.out (by omega))
      replace HBY := Lib.hid (but4.box HBY.out (by omega))
      replace HBZ := Lib.hid (but4.box HBZ.out (by omega))
      clear hV but4 B7 c7 t7 hz0
      have B7 := D7
      clear D7
      have c7 := B7.cell; have t7 := B7.lt
      clear c5 t5
      have c5 := B5.cell; have t5 := B5.lt
      have hszV : w.heap.size + 1 < V.heap.size := B7.lt
      have hltx : bx < V.heap.size := HBX.out.lt
      have hWr := hW
      refine Fat.wp_region0 6 [0, 3, 5] (fun i => if i = 0 then emptySpec 52 else if i = 3 then ownSpec V.heap.size 52 6 (L.rd.map Wl.vs) else oneSpec 52 #[.int .i64 z.X1, .int .i64 z.Y1, .int .i64 z.X2, .int .i64 z.Y2, .int .i64 z.B, .int .i64 z.T])
        (fun i => by (repeat' split) <;> first | exact emptySpec_lasting _ | exact ownSpec_lasting _ _ _ _ | exact oneSpec_lasting _ _) (by kernel_rfl) (by kernel_rfl) ?_
      simp only [List.take_succ_cons, List.take_zero, Fat.pick, List.contains_cons, List.contains_nil, Nat.reduceAdd, Nat.reduceBEq]
      repeat (first | simp only [Bool.or_false] | simp only [Bool.or_true] | simp only [Bool.true_or] | simp only [Bool.false_eq_true] | simp only [if_true] | simp only [if_false])
      repeat (go_big_quiet_step (fail))
      refine wpQuiet_nil ?_
      refine ⟨?_, ?_, ?_⟩
      · intro i o hi hown ho vals lo hi' W hW hdep
        simp only [List.contains_cons, List.contains_nil, Bool.or_false] at hi
        (try simp only [Bool.or_eq_true] at hi)
        simp only [beq_iff_eq] at hi
        rcases hi with rfl | rfl | rfl
        all_goals first
          | exact absurd hown (by decide)
          | (simp only [List.getElem?_cons_succ, List.getElem?_cons_zero, Option.some.injEq] at ho; subst ho; refine .inl ⟨rfl, ?_⟩; simp only [Fat.putN, Fat.dstOf, Act.put, List.getElem?_toArray, List.getElem?_cons_succ, List.getElem?_cons_zero, Option.bind_some, List.setIfInBounds_toArray, List.set_cons_succ, List.set_cons_zero])
        · go_simp
          exact emptySpec_new _ _
        · obtain ⟨d1, d2, d3, (d4 : emptySpec _ _ _ _ _)⟩ := hdep 0 rfl (by kernel_rfl)
          refine gives_append elem_rwl (by decide) (x := .tmp 62) (y := .tmp 64) rfl _ (lo 0) V.heap.size ?_ d4.2.2 (by omega) _ (vs_wl _).1 (vs_wl _).2 _ _ _ rfl (by simp) ((HL.out.later hWr).rd.later hW) (by simp; omega) (by decide)
          exact d4.1
        · go_simp
          exact oneSpec_new _ _ _
      · intro i o hi hown ho vals lo hi' W hW hdep
        simp only [List.contains_cons, List.contains_nil, Bool.or_false] at hi
        (try simp only [Bool.or_eq_true] at hi)
        simp only [beq_iff_eq] at hi
        rcases hi with rfl | rfl | rfl
        all_goals first
          | exact absurd (by decide) hown
          | (simp only [List.getElem?_cons_succ, List.getElem?_cons_zero, Option.some.injEq] at ho; subst ho; refine ⟨rfl, ?_⟩; simp only [Fat.putN, Fat.dstOf, Act.put, List.getElem?_toArray, List.getElem?_cons_succ, List.getElem?_cons_zero, Option.bind_some, List.setIfInBounds_toArray, List.set_cons_succ, List.set_cons_zero]; (try simp only [Option.bind_none]))
      · intro vals lo hi' w6 hb6 hphi hdis htied
        obtain ⟨-, -, -, (q3 : Own _ _ _ _ (vals 3) _)⟩ := hphi 3 rfl
        obtain ⟨-, -, -, (q5 : vals 5 = _), -, (BN : Box w6 (lo 5) _ _)⟩ := hphi 5 rfl
        simp only [Fat.putN, Fat.dstOf, Act.put, List.getElem?_toArray, List.getElem?_cons_succ, List.getElem?_cons_zero, Option.bind_some, List.setIfInBounds_toArray, List.set_cons_succ, List.set_cons_zero, List.drop_succ_cons, List.drop_zero]
        rw [q5]
        clear hphi hdis htied q5
        generalize vals 3 = v3 at *
        generalize vals 0 = v0 at *
        generalize lo 5 = b5 at *
        clear vals lo hi'
        refine wpList_grow2 rfl (.tmp 65) (.tmp 67) 23 rfl elem_rwl rfl q3 rfl BN rfl (by decide) rfl (n := L.rd.length) (by simp) hr6 (by decide) hb6.size ?_
        intro a' c' W' hO' hb' hg' hn'
        have hbV : Below V.heap.size V W' := hb6.trans hb'
        replace hW := over hW hbV; (try clear c5 t5 c7 t7); replace B5 := B5.later hbV; replace B7 := B7.later hbV; have c5 := B5.cell; have t5 := B5.lt; have c7 := B7.cell; have t7 := B7.lt; replace HBX := Lib.hid (HBX.out.later hbV); replace HBY := Lib.hid (HBY.out.later hbV); replace HBZ := Lib.hid (HBZ.out.later hbV); clear hbV hb6 hb' hg' hn' q3 BN
        have cX := HBX.out.cell
        have tX := HBX.out.lt
        have fX := HBX.out.frozen
        go_upto_region 8 with fail
        refine nameAny (p := Code.wp _ _ _ _) ?_
        intro V2 hV2
        have but5 : But bx W' V2 := by rw [hV2]; exact setCell_but _ _ _ _
        have DX : Box V2 bx #[.slice q.a1 L.st.length q.c1, .slice a' (L.rd.length + 1) c', .slice q.a3 L.cs.length q.c3, .slice q.a4 L.sn.length q.c4] 27 := by rw [hV2]; exact setCell_box HBX.out 1 _
        obtain ⟨nx, ny, nz, nxy, nxz, nyz⟩ := HNe.out
        have hO2 := hO'.turn fun b hb => but5.block b (by have := (hO'.1.lt b hb).1; omega)
        replace hW := but5.below hW (by omega)
        replace B5 := but5.box B5 (by omega)
        replace B7 := but5.box B7 (by omega)
        replace HBX := Lib.hid DX
        replace HBY := Lib.hid (but5.box HBY.out (by omega))
        replace HBZ := Lib.hid (but5.box HBZ.out (by omega))
        have HO2 := Lib.hid hO2
        clear hV2 but5 DX hO' hO2 cX tX fX hWr hltx hszV
        clear c5 t5 c7 t7
        have c5 := B5.cell; have t5 := B5.lt
        obtain ⟨cl, hcl, hrowc, hcsr⟩ := HL.out.cs
        have hcll : cl.length = L.cs.length := by rw [← hcl]; simp
        have HRow := Lib.hid (hrowc.later hW)
        have HRow0 := Lib.hid hrowc
        have HCl := Lib.hid hcl
        have HCsr := Lib.hid hcsr
        clear hcl hrowc hcsr
        have HB7 := Lib.hid B7
        have HW2 := Lib.hid hW
        have HB5 := Lib.hid B5
        clear B7 hW B5
        go_upto_region 9 with (at_builtin; refine named1 (p := wpList _ _ _ _ _) ?_; intro w7 hb7 BE; refine wpList_fresh rfl (.tmp 70) (.tmp 72) 24 rfl elem_rcs (by decide) rfl BE (base := V2.heap.size) (Nat.le_refl _) _ (vs_cv cl).1 (vs_cv cl).2 rfl (by simp [hcll]) (HRow.out.later hb7) (by simp; omega) (by decide) ?_; intro v7 W7 hb7' hO7; obtain ⟨a7, k7, e7, -, -⟩ := hO7.row; subst e7; rw [List.length_map, hcll] at hO7 ⊢; have HO7 := Lib.hid hO7; have hb77 := over hb7 hb7'; have hBY := HBY.out.later hb77; have cY := hBY.cell; have tY := hBY.lt; have fY := hBY.frozen; clear BE hb7 hb7' c5 t5 hO7)
        have hO7 := HO7.out
        obtain ⟨g, cur, e8, hgn, hBg, hCg⟩ := own_row hO7 m0
        subst e8
        obtain ⟨hcap, hcsz⟩ := own_cap hO7 hBg
        refine nameAny (p := Code.wp _ _ _ _) ?_
        intro V3 hV3
        have but6 : But «by» W7 V3 := by rw [hV3]; exact setCell_but _ _ _ _
        have DY : Box V3 «by» #[.slice q.a1 L.st.length q.c1, .slice q.a2 L.rd.length q.c2, .slice (some ⟨g, 0, none⟩) L.cs.length k7, .slice q.a4 L.sn.length q.c4] 27 := by rw [hV3]; exact setCell_box hBY 2 _
        have hltY : «by» < V2.heap.size := HBY.out.lt
        obtain ⟨nx, ny, nz, nxy, nxz, nyz⟩ := HNe.out
        have hW : Below w.heap.size w V3 := but6.below (over HW2.out hb77) (by omega)
        have B5 := but6.box (HB5.out.later hb77) (by omega)
        have B7 := but6.box (HB7.out.later hb77) (by omega)
        have hXl := HBX.out.lt
        have hZl := HBZ.out.lt
        replace HBX := Lib.hid (but6.box (HBX.out.later hb77) (by omega))
        replace HBY := Lib.hid DY
        replace HBZ := Lib.hid (but6.box (HBZ.out.later hb77) (by omega))
        have hBg3 := but6.box hBg (by omega)
        have hCg3 : Cells V3 g 0 1 (cl.map fun x => [.slice x.a x.cs.length x.c]) := fun i y hi j u hu => (World.cell?_of_block (but6.block g (by omega))).trans (hCg i y hi j u hu)
        have hO3 := (HO2.out.later hb77).turn fun b hb => but6.block b (by
          intro e; subst e
          have h1 := hBY
          obtain ⟨cc, hc2⟩ := own_cells2 (HO2.out.later hb77) hb
          unfold Box at h1
          rw [hc2] at h1; cases h1)
        have HO2 := Lib.hid hO3
        obtain ⟨cx, hcx⟩ : ∃ cx, cl[k]? = some cx := ⟨cl[k]'(by omega), by simp⟩
        have hCr := HCsr.out cx (List.mem_of_getElem? hcx)
        obtain ⟨bc, oc, ea3, hCc⟩ := RowAt.at (k := k) HRow0.out (by omega)
        have hcc0 : w.cell? ⟨bc, oc + k, none⟩ = some (.slice cx.a cx.cs.length cx.c) := cells_one (f := fun x : CV => Value.slice x.a x.cs.length x.c) hCc hcx
        have hbc : bc < w.heap.size := block_lt_of_cell hcc0
        have hcc : V3.cell? ⟨bc, oc + k, none⟩ = some (.slice cx.a cx.cs.length cx.c) := (hW.cell (p := ⟨bc, oc + k, none⟩) hbc).trans hcc0
        have hkc : L.kase k = cx.cs := by unfold Land.kase; rw [← HCl.out, List.getElem?_map, hcx]; rfl
        have hcxl4 : cx.cs.length ≤ 4 := HD4.out cx.cs (by rw [← HCl.out]; exact List.mem_map_of_mem (List.mem_of_getElem? hcx))
        have hcxl : cx.cs.length ≤ 1000 := by omega
        have HKc := Lib.hid hkc
        have HCc0 := Lib.hid hcc0
        have HCx := Lib.hid hcx
        have HCr := Lib.hid (hCr.later hW)
        have hB7' := B7
        have HSS : Hid (∀ B, Below V3.heap.size V3 B → (∀ o, B.cell? ⟨w.heap.size, o, none⟩ = (#[.slice q.a1 L.st.length q.c1, .slice q.a2 L.rd.length q.c2, .slice (some ⟨bc, oc, none⟩) L.cs.length q.c3, .slice q.a4 L.sn.length q.c4] : Array Value)[o]?) ∧ (∀ o, B.cell? ⟨w.heap.size + 1, o, none⟩ = (#[.int .i64 z.X1, .int .i64 z.Y1, .int .i64 z.X2, .int .i64 z.Y2, .int .i64 z.B, .int .i64 z.T] : Array Value)[o]?) ∧ B.cell? ⟨«by», 2, none⟩ = some (.slice (some ⟨g, 0, none⟩) L.cs.length k7) ∧ B.cell? ⟨bc, oc + k, none⟩ = some (.slice cx.a cx.cs.length cx.c)) := fun B hb => by
          rw [ea3] at B5
          exact ⟨(B5.later hb).cell, (B7.later hb).cell, ((HBY.out.later hb).cell 2).trans rfl, (hb.cell (p := ⟨bc, oc + k, none⟩) (Nat.lt_of_lt_of_le hbc hW.size)).trans hcc⟩
        have HBg := Lib.hid hBg3
        have HCg := Lib.hid hCg3
        have HC5 := Lib.hid B5
        have HW3 := Lib.hid hW
        have HEa := Lib.hid ea3
        have hgne : V2.heap.size ≤ g := hgn
        have hg3 : g < V3.heap.size := hBg3.lt
        have hgc : k < cur.size := by omega
        have HZ3 : Hid (bx < V3.heap.size ∧ «by» < V3.heap.size ∧ bz < V3.heap.size ∧ w.heap.size + 1 < V2.heap.size ∧ bx < V2.heap.size ∧ «by» < V2.heap.size ∧ bz < V2.heap.size) := ⟨HBX.out.lt, HBY.out.lt, HBZ.out.lt, by omega, hXl, hltY, hZl⟩
        have r7 : (0 : Int) ≤ (k : Int) := by omega
        have r8 : (k : Int) < (L.cs.length : Int) := by omega
        have r9 : 0 < L.sn.length := e0
        have hwr : IntKind.i64.wrap ((L.sn.length : Int) - 1) = (L.sn.length : Int) - 1 := IntWalk.i64_in _ (by omega)
        clear hcc0 hcc hkc hcx hCr hBg3 hCg3 B5 B7 hW HB5 HB7 HRow HRow0 hCc hgn hBg hCg hcsz hb77 hBY cY tY fY hO7 HO7 but6 DY hV3 hO3 hltY hXl hZl nx ny nz nxy nxz nyz HW2
        refine wp_region_noPanic ?_
        refine wp_region_held_drew (S := (fun B : World => (∀ o, B.cell? ⟨w.heap.size, o, none⟩ = (#[.slice q.a1 L.st.length q.c1, .slice q.a2 L.rd.length q.c2, .slice (some ⟨bc, oc, none⟩) L.cs.length q.c3, .slice q.a4 L.sn.length q.c4] : Array Value)[o]?) ∧ (∀ o, B.cell? ⟨w.heap.size + 1, o, none⟩ = (#[.int .i64 z.X1, .int .i64 z.Y1, .int .i64 z.X2, .int .i64 z.Y2, .int .i64 z.B, .int .i64 z.T] : Array Value)[o]?) ∧ B.cell? ⟨«by», 2, none⟩ = some (.slice (some ⟨g, 0, none⟩) L.cs.length k7) ∧ B.cell? ⟨bc, oc + k, none⟩ = some (.slice cx.a cx.cs.length cx.c))) (by kernel_rfl) (by (try dsimp only); exact HSS.out _ (by repeat (first | exact Below.refl _ _ | refine al ?_ _ | refine Below.drew ?_ | refine sc ?_ (by simp) _))) (fun hHeld => ?_)
        refine wpAnyH_take (i := 0) (oi := _) (v := ?_) rfl (by kernel_rfl) (by kernel_rfl) (by kernel_rfl) (fun _ _ _ h => h) (Or.inl ⟨by rfl, ?_⟩) (by assumption) ?_
        rotate_left
        · (intro w hSw; (try dsimp only at hSw); go_simp; try with_reducible rfl)
        (try dsimp only); (try simp only [Act.put]); (try simp only [List.setIfInBounds_toArray]); (try simp only [List.set_cons_succ]); (try simp only [List.set_cons_zero])
        refine wpAnyH_take (i := 1) (oi := _) (v := ?_) rfl (by kernel_rfl) (by kernel_rfl) (by kernel_rfl) (fun _ _ _ h => h) (Or.inl ⟨by rfl, ?_⟩) (by assumption) ?_
        rotate_left
        · (intro w hSw; (try dsimp only at hSw); go_simp; try with_reducible rfl)
        (try dsimp only); (try simp only [Act.put]); (try simp only [List.setIfInBounds_toArray]); (try simp only [List.set_cons_succ]); (try simp only [List.set_cons_zero])
        refine wpAnyH_take (i := 2) (oi := _) (v := ?_) rfl (by kernel_rfl) (by kernel_rfl) (by kernel_rfl) (fun _ _ _ h => h) (Or.inl ⟨by rfl, ?_⟩) (by assumption) ?_
        rotate_left
        · (intro w hSw; (try dsimp only at hSw); go_simp; try with_reducible rfl)
        (try dsimp only); (try simp only [Act.put]); (try simp only [List.setIfInBounds_toArray]); (try simp only [List.set_cons_succ]); (try simp only [List.set_cons_zero])
        refine wpAnyH_take (i := 4) (oi := _) (v := ?_) rfl (by kernel_rfl) (by kernel_rfl) (by kernel_rfl) (fun _ _ _ h => h) (Or.inl ⟨by rfl, ?_⟩) (by assumption) ?_
        rotate_left
        · (intro w hSw; (try dsimp only at hSw); go_simp; try with_reducible rfl)
        (try dsimp only); (try simp only [Act.put]); (try simp only [List.setIfInBounds_toArray]); (try simp only [List.set_cons_succ]); (try simp only [List.set_cons_zero])
        refine wpAnyH_take (i := 5) (oi := _) (v := ?_) rfl (by kernel_rfl) (by kernel_rfl) (by kernel_rfl) (fun _ _ _ h => h) (Or.inl ⟨by rfl, ?_⟩) (by assumption) ?_
        rotate_left
        · (intro w hSw; (try dsimp only at hSw); go_simp; try with_reducible rfl)
        (try dsimp only); (try simp only [Act.put]); (try simp only [List.setIfInBounds_toArray]); (try simp only [List.set_cons_succ]); (try simp only [List.set_cons_zero])
        refine wpAnyH_take (i := 6) (oi := _) (v := ?_) rfl (by kernel_rfl) (by kernel_rfl) (by kernel_rfl) (fun _ _ _ h => h) (Or.inl ⟨by rfl, ?_⟩) (by assumption) ?_
        rotate_left
        · (intro w hSw; (try dsimp only at hSw); go_simp; try with_reducible rfl)
        (try dsimp only); (try simp only [Act.put]); (try simp only [List.setIfInBounds_toArray]); (try simp only [List.set_cons_succ]); (try simp only [List.set_cons_zero])
        refine wpAnyH_take (i := 7) (oi := _) (v := ?_) rfl (by kernel_rfl) (by kernel_rfl) (by kernel_rfl) (fun _ _ _ h => h) (Or.inl ⟨by rfl, ?_⟩) (by assumption) ?_
        rotate_left
        · (intro w hSw; (try dsimp only at hSw); go_simp; try with_reducible rfl)
        (try dsimp only); (try simp only [Act.put]); (try simp only [List.setIfInBounds_toArray]); (try simp only [List.set_cons_succ]); (try simp only [List.set_cons_zero])
        refine wpAnyH_take (i := 8) (oi := _) (v := ?_) rfl (by kernel_rfl) (by kernel_rfl) (by kernel_rfl) (fun _ _ _ h => h) (Or.inl ⟨by rfl, ?_⟩) (by assumption) ?_
        rotate_left
        · (intro w hSw; (try dsimp only at hSw); go_simp; try with_reducible rfl)
        (try dsimp only); (try simp only [Act.put]); (try simp only [List.setIfInBounds_toArray]); (try simp only [List.set_cons_succ]); (try simp only [List.set_cons_zero])
        refine wpAnyH_take (i := 10) (oi := _) (v := ?_) rfl (by kernel_rfl) (by kernel_rfl) (by kernel_rfl) (fun _ _ _ h => h) (Or.inl ⟨by rfl, ?_⟩) (by assumption) ?_
        rotate_left
        · (intro w hSw; (try dsimp only at hSw); go_simp; try with_reducible rfl)
        (try dsimp only); (try simp only [Act.put]); (try simp only [List.setIfInBounds_toArray]); (try simp only [List.set_cons_succ]); (try simp only [List.set_cons_zero])
        refine wpAnyH_take (i := 11) (oi := _) (v := ?_) rfl (by kernel_rfl) (by kernel_rfl) (by kernel_rfl) (fun _ _ _ h => h) (Or.inl ⟨by rfl, ?_⟩) (by assumption) ?_
        rotate_left
        · (intro w hSw; (try dsimp only at hSw); go_simp; try with_reducible rfl)
        (try dsimp only); (try simp only [Act.put]); (try simp only [List.setIfInBounds_toArray]); (try simp only [List.set_cons_succ]); (try simp only [List.set_cons_zero])
        refine wpAnyH_ready (rs := [3]) (by kernel_rfl) (by simp) ?_
        refine AllReadyH.cons (o := _) rfl (fun K hK => ?_) AllReadyH.nil
        go_simp
        refine hK.out _ _ (by (try dsimp only); exact HSS.out _ (by repeat (first | exact Below.refl _ _ | refine al ?_ _ | refine Below.drew ?_ | refine sc ?_ (by simp) _))) (fun hHeld => ?_)
        clear hK K
        (try dsimp only); (try simp only [Act.put]); (try simp only [List.setIfInBounds_toArray]); (try simp only [List.set_cons_succ]); (try simp only [List.set_cons_zero])
        refine wpAnyH_ready (rs := [9]) (by kernel_rfl) (by simp) ?_
        refine AllReadyH.cons (o := _) rfl (fun K hK => ?_) AllReadyH.nil
        refine step_fresh rfl (.tmp 78) (.tmp 83) 53 (by rfl) elem_rcd (by decide) (by rfl) (Box.newAt _ _ rfl) (Nat.le_refl _) _ (vs_cd cx.cs).1 (vs_cd cx.cs).2 (by rfl) (by simp) (HCr.out.later (show Below V3.heap.size V3 _ from (by repeat (first | exact Below.refl _ _ | refine al ?_ _ | refine Below.drew ?_ | refine sc ?_ (by simp) _)))) (by simp; omega) (by decide) ?_
        intro v9 W9 hb9 hO9
        have hb39 : Below V3.heap.size V3 W9 := over (show Below V3.heap.size V3 _ from (by repeat (first | exact Below.refl _ _ | refine al ?_ _ | refine Below.drew ?_ | refine sc ?_ (by simp) _))) hb9
        have HB39 := Lib.hid hb39
        have HO9 := Lib.hid (hO9.mono (show V3.heap.size ≤ _ by simp))
        clear hb9 hO9 hb39
        refine hK.out _ _ (by (try dsimp only); exact HSS.out _ HB39.out) (fun hHeld => ?_)
        clear hK K
        (try dsimp only); (try simp only [Act.put]); (try simp only [List.setIfInBounds_toArray]); (try simp only [List.set_cons_succ]); (try simp only [List.set_cons_zero])
        refine wpAnyH_ready (rs := [12]) (by kernel_rfl) (by simp) ?_
        refine AllReadyH.cons (o := _) rfl (fun K hK => ?_) AllReadyH.nil
        go_simp
        refine (rend_any ⟨q.a1, q.c1, q.a2, q.c2, some ⟨bc, oc, none⟩, q.c3, q.a4, q.c4⟩ L _).mono ?_
        rintro e W12 ⟨rfl, hb12⟩
        have HB12 := Lib.hid (over HB39.out hb12)
        have HO12 := Lib.hid (HO9.out.later hb12)
        clear hb12 HO9 HB39
        refine hK.out _ _ (by (try dsimp only); exact HSS.out _ HB12.out) (fun hHeld => ?_)
        clear hK K
        (try dsimp only); (try simp only [Act.put]); (try simp only [List.setIfInBounds_toArray]); (try simp only [List.set_cons_succ]); (try simp only [List.set_cons_zero])
        refine wpAnyH_take (i := 13) (oi := _) (v := ?_) rfl (by kernel_rfl) (by kernel_rfl) (by kernel_rfl) (fun _ _ _ h => h) (Or.inl ⟨by rfl, ?_⟩) (by assumption) ?_
        rotate_left
        · (intro w hSw; (try dsimp only at hSw); go_simp; try with_reducible rfl)
        (try dsimp only); (try simp only [Act.put]); (try simp only [List.setIfInBounds_toArray]); (try simp only [List.set_cons_succ]); (try simp only [List.set_cons_zero])
        refine wpAnyH_take (i := 14) (oi := _) (v := ?_) rfl (by kernel_rfl) (by kernel_rfl) (by kernel_rfl) (fun _ _ _ h => h) (Or.inl ⟨by rfl, ?_⟩) (by assumption) ?_
        rotate_left
        · (intro w hSw; (try dsimp only at hSw); go_simp; try with_reducible rfl)
        (try dsimp only); (try simp only [Act.put]); (try simp only [List.setIfInBounds_toArray]); (try simp only [List.set_cons_succ]); (try simp only [List.set_cons_zero])
        refine wpAnyH_ready (rs := [15]) (by kernel_rfl) (by simp) ?_
        refine AllReadyH.cons (o := _) rfl (fun K hK => ?_) AllReadyH.nil
        go_simp
        refine hK.out _ _ (by (try dsimp only); exact HSS.out _ (over HB12.out (by repeat (first | exact Below.refl _ _ | refine al ?_ _ | refine Below.drew ?_ | refine sc ?_ (by simp) _)))) (fun hHeld => ?_)
        clear hK K
        (try dsimp only); (try simp only [Act.put]); (try simp only [List.setIfInBounds_toArray]); (try simp only [List.set_cons_succ]); (try simp only [List.set_cons_zero])
        refine wpAnyH_ready (rs := [16]) (by kernel_rfl) (by simp) ?_
        refine AllReadyH.cons (o := _) rfl (fun K hK => ?_) AllReadyH.nil
        refine step_grow rfl (.tmp 84) (.tmp 90) 53 (by rfl) elem_rcd (by rfl) (HO12.out.later (by repeat (first | exact Below.refl _ _ | refine al ?_ _ | refine Below.drew ?_ | refine sc ?_ (by simp) _))) (by rfl) (Box.newAt _ _ rfl) rfl (by decide) rfl (n := cx.cs.length) (by simp) hcxl (by decide) (by simp; have := HB12.out.size; omega) ?_
        intro a16 c16 W16 hO16 hb16
        have HB16 := Lib.hid (show Below V3.heap.size V3 W16 from (over HB12.out (by repeat (first | exact Below.refl _ _ | refine al ?_ _ | refine Below.drew ?_ | refine sc ?_ (by simp) _))).trans hb16)
        have HO16 := Lib.hid hO16
        clear hO16 hb16 HB12 HO12
        refine hK.out _ _ (by (try dsimp only); exact HSS.out _ HB16.out) (fun hHeld => ?_)
        clear hK K
        (try dsimp only); (try simp only [Act.put]); (try simp only [List.setIfInBounds_toArray]); (try simp only [List.set_cons_succ]); (try simp only [List.set_cons_zero])
        refine wpAnyH_take (i := 17) (oi := _) (v := ?_) rfl (by kernel_rfl) (by kernel_rfl) (by kernel_rfl) (fun _ _ _ h => h) (Or.inl ⟨by rfl, ?_⟩) (by assumption) ?_
        rotate_left
        · (intro w hSw; (try dsimp only at hSw); go_simp; try with_reducible rfl)
        (try dsimp only); (try simp only [Act.put]); (try simp only [List.setIfInBounds_toArray]); (try simp only [List.set_cons_succ]); (try simp only [List.set_cons_zero])
        have hBgB := HBg.out.later HB16.out
        have cg : W16.cell? ⟨g, k, none⟩ = some cur[k] := (hBgB.cell k).trans (Array.getElem?_eq_getElem hgc)
        have fg : W16.frozen? ⟨g, k, none⟩ = false := hBgB.frozen k
        have tg := hBgB.lt
        have HStep : Hid (∀ u, (∀ o, (W16.setCell ⟨g, k, none⟩ u).cell? ⟨w.heap.size, o, none⟩ = (#[.slice q.a1 L.st.length q.c1, .slice q.a2 L.rd.length q.c2, .slice (some ⟨bc, oc, none⟩) L.cs.length q.c3, .slice q.a4 L.sn.length q.c4] : Array Value)[o]?) ∧ (∀ o, (W16.setCell ⟨g, k, none⟩ u).cell? ⟨w.heap.size + 1, o, none⟩ = (#[.int .i64 z.X1, .int .i64 z.Y1, .int .i64 z.X2, .int .i64 z.Y2, .int .i64 z.B, .int .i64 z.T] : Array Value)[o]?) ∧ (W16.setCell ⟨g, k, none⟩ u).cell? ⟨«by», 2, none⟩ = some (.slice (some ⟨g, 0, none⟩) L.cs.length k7) ∧ (W16.setCell ⟨g, k, none⟩ u).cell? ⟨bc, oc + k, none⟩ = some (.slice cx.a cx.cs.length cx.c)) := fun u => by
          have c : ∀ b p, b < V2.heap.size → (W16.setCell ⟨g, k, none⟩ u).cell? ⟨b, p, none⟩ = W16.cell? ⟨b, p, none⟩ := fun b p h => World.cell?_of_block ((setCell_but W16 g k u).block b (by omega))
          obtain ⟨y1, y2, y3, y4, y5, y6, y7⟩ := HZ3.out
          obtain ⟨h1, h2, h3, h4⟩ := HSS.out _ HB16.out
          exact ⟨fun o => (c _ o (by omega)).trans (h1 o), fun o => (c _ o (by omega)).trans (h2 o), (c _ 2 (by omega)).trans h3, (c _ _ (by omega)).trans h4⟩
        clear hBgB
        refine wpAnyH_ready (rs := [18]) (by kernel_rfl) (by simp) ?_
        refine AllReadyH.cons (o := _) rfl (fun K hK => ?_) AllReadyH.nil
        go_simp
        refine hK.out _ _ (by (try dsimp only); exact HStep.out _) (fun hHeld => ?_)
        clear hK K
        (try dsimp only); (try simp only [Act.put]); (try simp only [List.setIfInBounds_toArray]); (try simp only [List.set_cons_succ]); (try simp only [List.set_cons_zero])
        refine wpAnyH_done (by kernel_rfl) ?_ _
        refine NoPanic.normal ?_
        repeat (clear hHeld)
        clear cg fg tg HStep
        go_upto_region 10 with fail
        refine nameAny (p := Code.wp _ _ _ _) ?_
        intro V4 hV4
        have but7 : But g W16 V4 := by rw [hV4]; exact setCell_but _ _ _ _
        obtain ⟨cd, hcd⟩ : ∃ cd : Cd, cd = ⟨z, 0, (L.sn.length : Int) - 1⟩ := ⟨_, rfl⟩
        have hO16 : Own W16 V3.heap.size 55 8 (.slice a16 (cx.cs.length + 1) c16) ((cx.cs ++ [cd]).map Cd.vs) := by
          rw [hcd, List.map_append]; exact HO16.out
        have hBgB := HBg.out.later HB16.out
        have hCgB : Cells W16 g 0 1 (cl.map fun x => [.slice x.a x.cs.length x.c]) := fun i y hi j u hu => (HB16.out.cell (p := ⟨g, 0 + i * 1 + j, none⟩) hg3).trans (HCg.out i y hi j u hu)
        have hCy := cells_put (k := k) hBgB hCgB (vs_cv cl).1 (by omega) (.slice a16 (cx.cs.length + 1) c16)
        rw [Nat.zero_add, ← hV4] at hCy
        have ecy : (cl.map fun x : CV => [Value.slice x.a x.cs.length x.c]).set k [.slice a16 (cx.cs.length + 1) c16] = (cl.set k ⟨a16, c16, cx.cs ++ [cd]⟩).map fun x : CV => [Value.slice x.a x.cs.length x.c] := by
          rw [List.map_set]; simp
        rw [ecy] at hCy
        obtain ⟨y1, y2, y3, y4, y5, y6, y7⟩ := HZ3.out
        have hW : Below w.heap.size w V4 := but7.below (over HW3.out HB16.out) (by omega)
        have B5 := but7.box (HC5.out.later HB16.out) (show w.heap.size ≠ g by omega)
        have hBZ := but7.box (HBZ.out.later HB16.out) (show bz ≠ g by omega)
        have HO16' := Lib.hid hO16
        have HCy := Lib.hid hCy
        have HBut7 := Lib.hid but7
        have HW4 := Lib.hid hW
        have BZ := hBZ
        have ngz : g ≠ bz := by omega
        have HYs := Lib.hid (And.intro y1 (And.intro y2 (And.intro y3 (And.intro y4 (And.intro y5 (And.intro y6 y7))))))
        clear hV4 hcd hO16 hBgB hCgB hCy ecy y1 y2 y3 y4 y5 y6 y7 but7 HSS HZ3 HC5 HW3 hW hBZ HO16
        rw [HEa.out] at B5
        have HB5 := Lib.hid B5
        have c5 := B5.cell; have t5 := B5.lt
        have cZ := BZ.cell
        have tZ := BZ.lt
        have fZ := BZ.frozen
        have HBZ4 := Lib.hid BZ
        have r10 : ¬ (k : Int) = (q.c3 : Int) := by have := HL.out.k3; omega
        have r11 : (k : Int) + 1 ≤ (q.c3 : Int) := by have := HL.out.k3; omega
        have r12 : ¬ k = q.c3 := by omega
        have r13 : (k : Int) + 1 ≤ (L.cs.length : Int) := by omega
        have r14 : (L.cs.length : Int) ≤ (q.c3 : Int) := by have := HL.out.k3; omega
        clear B5 BZ
        go_upto_region 11 with fail
        refine nameAny (p := Code.wp _ _ _ _) ?_
        intro V5 hV5
        have but8 : But bz V4 V5 := by rw [hV5]; exact setCell_but _ _ _ _
        have BO : Box V5 bz #[.slice q.a1 L.st.length q.c1, .slice q.a2 L.rd.length q.c2, .slice (some ⟨bc, oc + k, none⟩) 1 (q.c3 - k), .slice q.a4 L.sn.length q.c4] 27 := by rw [hV5]; exact setCell_box HBZ4.out 2 _
        clear hV5 c5 t5 cZ tZ fZ r10 r11 r12 r13 r14
        have but7 := HBut7.out
        obtain ⟨y1, y2, y3, y4, y5, y6, y7⟩ := HYs.out
        have hO16 := HO16'.out
        have hBgB := HBg.out.later HB16.out
        have hBZB := HBZ.out.later HB16.out
        have hne : ∀ {base E size v xs}, Own W16 base E size v xs → E ≠ 53 → E ≠ 27 → ∀ b, v.ownBlock = some b → V5.heap[b]? = W16.heap[b]? := fun hO hE hE2 b hb =>
          (but8.block b (fun e => by subst e; exact own_ne hO hBZB (Ne.symm hE2) hb)).trans (but7.block b fun e => by subst e; exact own_ne hO hBgB (Ne.symm hE) hb)
        have hO16' := hO16.turn (hne hO16 (by decide) (by decide))
        have hOX' := (HO2.out.later HB16.out).turn (hne (HO2.out.later HB16.out) (by decide) (by decide))
        have hCy : Cells V5 g 0 1 ((cl.set k ⟨a16, c16, cx.cs ++ [cd]⟩).map fun x : CV => [Value.slice x.a x.cs.length x.c]) := fun i y hi j u hu => (World.cell?_of_block (but8.block g ngz)).trans (HCy.out i y hi j u hu)
        have hW : Below w.heap.size w V5 := but8.below HW4.out (by omega)
        have B5 := but8.box HB5.out (show w.heap.size ≠ bz by omega)
        have hBX := but8.box (but7.box (HBX.out.later HB16.out) (show bx ≠ g by omega)) (show bx ≠ bz from HNe.out.2.2.2.2.1)
        have hBY := but8.box (but7.box (HBY.out.later HB16.out) (show «by» ≠ g by omega)) (show «by» ≠ bz from HNe.out.2.2.2.2.2)
        have hLw := HL.out.later hW
        have hLX : LandAt V5 ⟨q.a1, q.c1, a', c', q.a3, q.c3, q.a4, q.c4⟩ (L.plusRd z) := ⟨hLw.st, by
          have := hOX'.rowAt.2.2
          show RowAt V5 a' 6 ((L.rd ++ [z]).map Wl.vs)
          rw [List.map_append]; exact this, hLw.cs, hLw.sn, hLw.k1, by
          have := hOX'.rowAt
          show (L.rd ++ [z]).length ≤ c'
          simp at this ⊢; omega, hLw.k3, hLw.k4⟩
        have hLY : LandAt V5 ⟨q.a1, q.c1, q.a2, q.c2, some ⟨g, 0, none⟩, k7, q.a4, q.c4⟩ (L.plusCd k cd) := ⟨hLw.st, hLw.rd, by
          refine ⟨cl.set k ⟨a16, c16, cx.cs ++ [cd]⟩, ?_, .inr ⟨g, 0, rfl, hCy⟩, fun y hy => ?_⟩
          · rw [List.map_set, HCl.out]
            show _ = L.cs.set k (L.kase k ++ [cd])
            rw [HKc.out]
          · rcases List.mem_or_eq_of_mem_set hy with hy | rfl
            · exact (HCsr.out y hy).later hW
            · exact hO16'.rowAt.2.2, hLw.sn, hLw.k1, hLw.k2, by
          show (L.cs.set k _).length ≤ k7
          simpa using hcap, hLw.k4⟩
        have hLO : LandAt V5 ⟨q.a1, q.c1, q.a2, q.c2, some ⟨bc, oc + k, none⟩, q.c3 - k, q.a4, q.c4⟩ (L.oneCs k) := ⟨hLw.st, hLw.rd, by
          refine ⟨[cx], by unfold Land.oneCs; simp [HKc.out], .inr ⟨bc, oc + k, rfl, fun i y hi j u hu => ?_⟩, fun y hy => ?_⟩
          · cases i with
            | zero =>
              simp at hi; subst hi
              cases j with
              | zero =>
                simp at hu; subst hu
                simpa using (hW.cell (p := ⟨bc, oc + k, none⟩) hbc).trans HCc0.out
              | succ j => simp at hu
            | succ i => simp at hi
          · simp at hy; subst hy
            exact (HCsr.out y (List.mem_of_getElem? HCx.out)).later hW, hLw.sn, hLw.k1, hLw.k2, by
          show 1 ≤ q.c3 - k
          have := HL.out.k3; omega, hLw.k4⟩
        obtain ⟨LX, hLXe⟩ : ∃ LX, LX = L.plusRd z := ⟨_, rfl⟩
        obtain ⟨LY, hLYe⟩ : ∃ LY, LY = L.plusCd k cd := ⟨_, rfl⟩
        have hBX2 : Box V5 bx (landK ⟨q.a1, q.c1, a', c', q.a3, q.c3, q.a4, q.c4⟩ LX) 27 := by
          rw [hLXe]
          have e : (L.plusRd z).rd.length = L.rd.length + 1 := by unfold Land.plusRd; simp
          unfold landK
          rw [e]; exact hBX
        have hBY2 : Box V5 «by» (landK ⟨q.a1, q.c1, q.a2, q.c2, some ⟨g, 0, none⟩, k7, q.a4, q.c4⟩ LY) 27 := by
          rw [hLYe]
          have e : (L.plusCd k cd).cs.length = L.cs.length := by unfold Land.plusCd; simp
          unfold landK
          rw [e]; exact hBY
        rw [← hLXe] at hLX
        rw [← hLYe] at hLY
        have HMX : Hid (More L LX) := by rw [hLXe]; exact more_rd
        have HMY : Hid (More L LY) := by rw [hLYe]; exact more_cd
        have HSX : Hid (Small LX) := by
          rw [hLXe]
          exact ⟨HS.out.l1, by unfold Land.plusRd; simp; omega, HS.out.l3, HS.out.l4, HS.out.l5⟩
        have HSY : Hid (Small LY) := by
          rw [hLYe]
          refine ⟨HS.out.l1, HS.out.l2, by unfold Land.plusCd; simp; omega, HS.out.l4, fun y hy => ?_⟩
          rcases List.mem_or_eq_of_mem_set hy with hy | rfl
          · exact HS.out.l5 y hy
          · rw [HKc.out]; simp; omega
        have HcO := Lib.hid (Go.Hill.chk_one HC.out hk)
        have HSO := Lib.hid (small_of HcO.out)
        have HLX := Lib.hid hLX
        have HLY := Lib.hid hLY
        have HLO := Lib.hid hLO
        have HBX2 := Lib.hid hBX2
        have HBY2 := Lib.hid hBY2
        obtain ⟨qX, hqX⟩ : ∃ qX : LV, qX = ⟨q.a1, q.c1, a', c', q.a3, q.c3, q.a4, q.c4⟩ := ⟨_, rfl⟩
        rw [← hqX] at HLX HBX2
        obtain ⟨qY, hqY⟩ : ∃ qY : LV, qY = ⟨q.a1, q.c1, q.a2, q.c2, some ⟨g, 0, none⟩, k7, q.a4, q.c4⟩ := ⟨_, rfl⟩
        rw [← hqY] at HLY HBY2
        obtain ⟨qO, hqO⟩ : ∃ qO : LV, qO = ⟨q.a1, q.c1, q.a2, q.c2, some ⟨bc, oc + k, none⟩, q.c3 - k, q.a4, q.c4⟩ := ⟨_, rfl⟩
        rw [← hqO] at HLO
        obtain ⟨LO, hLOe⟩ : ∃ LO, LO = L.oneCs k := ⟨_, rfl⟩
        have hBO2 : Box V5 bz (landK qO LO) 27 := by rw [hqO, hLOe]; exact BO
        rw [← hLOe] at HLO HcO HSO
        have HBO2 := Lib.hid hBO2
        have HSurO : Hid (∀ u s, s ≤ L.sn.length → LO.sur f u s (-1) = (L.hat f s k (-1) u, 0)) := fun u s hs => by rw [hLOe]; exact one_sur hs
        have HLeO : Hid (LO.st.length = L.st.length ∧ LO.sn.length = L.sn.length) := by rw [hLOe]; exact ⟨rfl, rfl⟩
        obtain ⟨qq, hqq⟩ : ∃ qq : LV, qq = ⟨q.a1, q.c1, q.a2, q.c2, some ⟨bc, oc, none⟩, q.c3, q.a4, q.c4⟩ := ⟨_, rfl⟩
        have HLq : Hid (LandAt w qq L) := by
          show LandAt w qq L
          rw [hqq, ← ea3]; exact HL.out
        have B5q : Box V5 w.heap.size #[.slice qq.a1 L.st.length qq.c1, .slice qq.a2 L.rd.length qq.c2, .slice qq.a3 L.cs.length qq.c3, .slice qq.a4 L.sn.length qq.c4] 27 := by rw [hqq]; exact B5
        replace B5 := B5q
        clear B5q hqq ea3 hB7' HCr
        have h5b : w.heap.size ≤ V3.heap.size := by omega
        clear hqX hqY hBO2 hLOe hqO BO hLX hLY hLO hBX2 hBY2 hBX hBY hLXe hLYe hO16 hO16' hOX' hCy hne hBZB hBgB hLw but8 but7 y1 y2 y3 y4 y5 y6 y7 HBut7 HO16' HCy HW4 HB5 HBZ4 HYs HB16 HBg HCg HBX HBY HBZ HO2 HCsr HCx HKc HCl hcxl4 hcxl hcll hcap hgc hg3 hgne hbc HCc0 HEa nx ny nz nxy nxz nyz
        clear h5b ngz r7 r8 r9 hwr
        clear hr6 hr6' HD4
        have HF1 := Lib.hid (fin_lt (L := L) (f := f) (k := k) (t := t) hs)
        have HF2 := Lib.hid (fin_eq (L := L) (f := f) (k := k) (t := t) hs)
        have HEarL := Lib.hid (earlE_ok (k := k) HC.out hf hs hk)
        have HTl : Hid (∀ i, i < L.st.length → (Land.fins L f s k (-1))[i]? = some (L.fin f s k (-1) i)) := fun i hi => by simp [Land.fins, hi]
        have HTll : Hid ((Land.fins L f s k (-1)).length = L.st.length) := by show _ = _; simp [Land.fins]
        have HSuO : Hid (Land.sureE LO f t s = if (L.sn.length : Int) < L.hat f s k (-1) t then (0, 0, 10) else (L.hat f s k (-1) t, 0, 0)) := by
          have h := sureE_ok (f := f) (t := t) (s := s) HcO.out (by rw [HLeO.out.1]; exact hf) (by rw [HLeO.out.1]; exact ht) (by rw [HLeO.out.2]; exact hs)
          rw [HSurO.out t s hs, HLeO.out.2] at h
          exact h
        have HRtL := Lib.hid (routeE_ok HC.out hf ht hs)
        obtain ⟨tl, htl⟩ : ∃ tl, tl = Land.fins L f s k (-1) := ⟨_, rfl⟩
        rw [← htl] at HEarL HTl HTll
        clear htl HSurO
        have c5 := B5.cell; have t5 := B5.lt
        go_wp2_with fail
        refine (land_any qq L V5 (HLq.out.later hW) HS.out).mono ?_
        rintro e w6 ⟨q6, rfl, hb6, hl6⟩
        have HL6 := Lib.hid hl6
        replace hW := over hW hb6; (try clear c5 t5); replace B5 := B5.later hb6; have c5 := B5.cell; have t5 := B5.lt; replace HLX := Lib.hid (HLX.out.later hb6); replace HLY := Lib.hid (HLY.out.later hb6); replace HLO := Lib.hid (HLO.out.later hb6); replace HBX2 := Lib.hid (HBX2.out.later hb6); replace HBY2 := Lib.hid (HBY2.out.later hb6); replace HBO2 := Lib.hid (HBO2.out.later hb6); clear hb6 hl6
        go_wp2_with fail
        have HEar := Earliest_any q6 L f s k w6 HL6.out HS.out
        rw [HEarL.out] at HEar
        refine HEar.mono ?_
        rintro e w7 ⟨ta, tc, rfl, hb7, hi7⟩
        have HT := Lib.hid (show IntsAt w7 ta tl from hi7)
        simp only
        rw [HTll.out]
        replace hW := over hW hb7; (try clear c5 t5); replace B5 := B5.later hb7; have c5 := B5.cell; have t5 := B5.lt; replace HLX := Lib.hid (HLX.out.later hb7); replace HLY := Lib.hid (HLY.out.later hb7); replace HLO := Lib.hid (HLO.out.later hb7); replace HBX2 := Lib.hid (HBX2.out.later hb7); replace HBY2 := Lib.hid (HBY2.out.later hb7); replace HBO2 := Lib.hid (HBO2.out.later hb7); clear hb7 hi7 HL6 HEar HEarL
        have BO : Box w7 bz #[.slice qO.a1 LO.st.length qO.c1, .slice qO.a2 LO.rd.length qO.c2, .slice qO.a3 LO.cs.length qO.c3, .slice qO.a4 LO.sn.length qO.c4] 27 := HBO2.out
        have cO := BO.cell
        have tO := BO.lt
        go_wp2_with fail
        clear cO tO BO
        refine (land_any qO LO w7 HLO.out HSO.out).mono ?_
        rintro e w8 ⟨q8, rfl, hb8, hl8⟩
        have HL8 := Lib.hid hl8
        replace hW := over hW hb8; (try clear c5 t5); replace B5 := B5.later hb8; have c5 := B5.cell; have t5 := B5.lt; replace HLX := Lib.hid (HLX.out.later hb8); replace HLY := Lib.hid (HLY.out.later hb8); replace HBX2 := Lib.hid (HBX2.out.later hb8); replace HBY2 := Lib.hid (HBY2.out.later hb8); replace HT := Lib.hid (HT.out.later hb8); clear hb8 hl8 HLO HBO2
        go_wp2_with fail
        obtain ⟨⟨sv, sk, se⟩, hsu⟩ : ∃ r, Land.sureE LO f t s = r := ⟨_, rfl⟩
        refine (Sure_any q8 LO f t s w8 HL8.out HSO.out).mono ?_
        rw [hsu]
        rw [hsu] at HSuO
        rintro e w9 ⟨rfl, hb9⟩
        replace hW := over hW hb9; (try clear c5 t5); replace B5 := B5.later hb9; have c5 := B5.cell; have t5 := B5.lt; replace HLX := Lib.hid (HLX.out.later hb9); replace HLY := Lib.hid (HLY.out.later hb9); replace HBX2 := Lib.hid (HBX2.out.later hb9); replace HBY2 := Lib.hid (HBY2.out.later hb9); replace HT := Lib.hid (HT.out.later hb9); clear hb9 HL8 hsu
        simp only
        obtain ⟨p1, o1, rfl, hC1⟩ := RowAt.at (k := t) HT.out (by rw [HTll.out]; exact ht)
        have e1 := cells_one hC1 (HTl.out t ht)
        have z1 := block_lt_of_cell e1
        have HFt : Hid ((se = 10 ∧ L.fin f s k (-1) t < 0) ∨ (se = 0 ∧ sk = 0 ∧ 0 ≤ L.fin f s k (-1) t ∧ sv = L.fin f s k (-1) t)) := by
          have h := HSuO.out
          by_cases hlt : (L.sn.length : Int) < L.hat f s k (-1) t
          · rw [if_pos hlt] at h
            simp only [Prod.mk.injEq] at h
            exact .inl ⟨h.2.2, HF1.out.2 hlt⟩
          · rw [if_neg hlt] at h
            simp only [Prod.mk.injEq] at h
            have h2 := HF2.out (by omega)
            have h3 : ¬ L.fin f s k (-1) t < 0 := fun h4 => hlt (HF1.out.1 h4)
            exact .inr ⟨h.2.2, h.2.1, by omega, by rw [h2]; exact h.1⟩
        obtain ⟨ft, hft⟩ : ∃ ft, ft = L.fin f s k (-1) t := ⟨_, rfl⟩
        rw [← hft] at HFt e1
        clear hft
        have r1 : (0 : Int) ≤ (t : Int) := by omega
        have r2 : (t : Int) < (L.st.length : Int) := by omega
        clear hC1 HSuO HF1 HF2
        go_upto_region 13 with fail
        go_cut [154] (fun s154 wx => s154 = .bool false ∧ wx = w9)
        case first =>
          rcases HFt.out with ⟨rfl, h2⟩ | ⟨rfl, rfl, h2, hsv⟩
          · have d1 : decide (ft ≥ 0) = false := by simp; omega
            go_wp2_with fail
            go_meet
            exact ⟨by simp, rfl⟩
          · have d1 : decide (ft ≥ 0) = true := by simp; omega
            have d2 : (sv != ft) = false := by simp [hsv]
            clear hsv
            go_wp2_with fail
            go_meet
            exact ⟨by simp, rfl⟩
        case rest =>
         as_aux_lemma =>
          obtain ⟨rfl, rfl⟩ := hcut
          clear e1 z1 r1 r2 HFt
          go_wp2_with fail
          refine (land_any qq L wc (HLq.out.later hW) HS.out).mono ?_
          rintro e w10 ⟨q10, rfl, hb10, hl10⟩
          have HL10 := Lib.hid hl10
          replace hW := over hW hb10; (try clear c5 t5); replace B5 := B5.later hb10; have c5 := B5.cell; have t5 := B5.lt; replace HLX := Lib.hid (HLX.out.later hb10); replace HLY := Lib.hid (HLY.out.later hb10); replace HBX2 := Lib.hid (HBX2.out.later hb10); replace HBY2 := Lib.hid (HBY2.out.later hb10); replace HT := Lib.hid (HT.out.later hb10); clear hb10 hl10
          go_wp2_with fail
          obtain ⟨⟨rl, ru, re⟩, hru⟩ : ∃ r, Land.routeE L f t s = r := ⟨_, rfl⟩
          refine (Route_any q10 L f t s w10 HL10.out HS.out).mono ?_
          rw [hru]
          rw [hru] at HRtL
          rintro e w11 ⟨ra, rc, rfl, hb11, hi11⟩
          replace hW := over hW hb11; (try clear c5 t5); replace B5 := B5.later hb11; have c5 := B5.cell; have t5 := B5.lt; replace HLX := Lib.hid (HLX.out.later hb11); replace HLY := Lib.hid (HLY.out.later hb11); replace HBX2 := Lib.hid (HBX2.out.later hb11); replace HBY2 := Lib.hid (HBY2.out.later hb11); replace HT := Lib.hid (HT.out.later hb11); clear hb11 hi11 HL10 hru
          simp only
          have HRt : Hid ((re = 10 ∧ L.route f t s = none) ∨ (re = 0 ∧ ∃ l u, L.route f t s = some (l, u) ∧ ru = (u : Int))) := by
            have h := HRtL.out
            cases hr : L.route f t s with
            | none =>
              rw [hr] at h
              simp only [Prod.mk.injEq] at h
              exact .inl ⟨h.2.2, rfl⟩
            | some x =>
              obtain ⟨l, u⟩ := x
              rw [hr] at h
              simp only [Prod.mk.injEq] at h
              exact .inr ⟨h.2.2, l, u, rfl, h.2.1⟩
          clear HRtL B5 c5 t5
          have HSt := Lib.hid (CSt.mk hW HLX.out HLY.out HBX2.out HBY2.out HT.out)
          clear hW HLX HLY HBX2 HBY2 HT
          go_wp2_with fail
          go_loopw [30] (fun i' wx => ∃ i : Nat, i ≤ 2 ∧ i' = .int .i64 i ∧ CSt w wx qX LX qY LY bx «by» (some ⟨p1, o1, none⟩) tl) (fun i' _ => 2 - (intOf i').toNat)
          case atStart => exact ⟨0, by omega, rfl, HSt.out⟩
          case round =>
            clear HSt
            obtain ⟨i, hi, rfl, hst⟩ := hrel
            have HSt := Lib.hid hst
            clear hst
            by_cases h2 : i = 2
            · subst h2
              have hW := HSt.out.W
              clear HSt
              go_wp2_with fail
              refine (awake_any _).mono ?_
              rintro e wz ⟨rfl, hbz⟩
              replace hW := over hW hbz
              clear hbz
              go_wp2_with fail
              go_ret
              exact ⟨rfl, hW⟩
            · rcases (show i = 0 ∨ i = 1 by omega) with rfl | rfl
              · clear h2 hi
                as_aux_lemma =>
                  have BX : Box wr bx #[.slice qX.a1 LX.st.length qX.c1, .slice qX.a2 LX.rd.length qX.c2, .slice qX.a3 LX.cs.length qX.c3, .slice qX.a4 LX.sn.length qX.c4] 27 := HSt.out.bX
                  have BY : Box wr «by» #[.slice qY.a1 LY.st.length qY.c1, .slice qY.a2 LY.rd.length qY.c2, .slice qY.a3 LY.cs.length qY.c3, .slice qY.a4 LY.sn.length qY.c4] 27 := HSt.out.bY
                  have cX := BX.cell
                  have tX := BX.lt
                  have cY := BY.cell
                  have tY := BY.lt
                  go_wp2_with fail
                  refine named1 (p := fun W => Calls _ _ _ W _) ?_
                  intro w20 hb20 B31
                  clear cX tX cY tY BX BY
                  replace HSt := Lib.hid (HSt.out.later hb20)
                  clear hb20
                  obtain ⟨cz, hcz⟩ : ∃ cz, cz = LX.chk := ⟨_, rfl⟩
                  have HFl := fault_any qX LX w20 HSt.out.X HSX.out.l1 HSX.out.l2 HSX.out.l3 HSX.out.l4 HSX.out.l5
                  rw [← hcz] at HFl
                  refine HFl.mono ?_
                  rintro e w21 ⟨rfl, hb21⟩
                  replace HSt := Lib.hid (HSt.out.later hb21)
                  replace B31 := B31.later hb21
                  have HCz := Lib.hid hcz
                  clear hb21 HFl hcz
                  have c31 := B31.cell; have t31 := B31.lt
                  by_cases hz0 : cz = 0
                  case neg =>
                    have hzb : (cz != 0) = true := by simpa using hz0
                    clear hz0
                    go_wp2_with fail
                    go_roundw
                    case rel => exact ⟨0 + 1, by omega, by go_num, HSt.out⟩
                    case measure => simp [intOf]
                  subst hz0
                  have HcZ : Hid (LX.chk = 0) := HCz.out.symm
                  have hls := HMX.out.st
                  have hle := HMX.out.sn
                  have hlc := HMX.out.cs
                  have HEz := Lib.hid (earlE_ok (L := LX) (f := f) (s := s) (k := k) HcZ.out (by omega) (by omega) (by omega))
                  have HRz := Lib.hid (routeE_ok (L := LX) (f := f) (t := t) (s := s) HcZ.out (by omega) (by omega) (by omega))
                  have HUl : Hid (∀ i, i < L.st.length → (Land.fins LX f s k (-1))[i]? = some (LX.fin f s k (-1) i)) := fun i hi => by simp [Land.fins, hls, hi]
                  have HUll : Hid ((Land.fins LX f s k (-1)).length = L.st.length) := by show _ = _; simp [Land.fins, hls]
                  have HFin : Hid (∀ x, x < L.st.length → 0 ≤ LX.fin f s k (-1) x → 0 ≤ L.fin f s k (-1) x ∧ L.fin f s k (-1) x ≤ LX.fin f s k (-1) x) := fun x hx h0 => HMX.out.fin hf hs hx h0
                  have HRou : Hid (∀ l u, LX.route f t s = some (l, u) → ∃ l' u', L.route f t s = some (l', u') ∧ u' ≤ u) := fun l u h => HMX.out.route (by omega) hs h
                  obtain ⟨ul, hul⟩ : ∃ ul, ul = Land.fins LX f s k (-1) := ⟨_, rfl⟩
                  rw [← hul] at HEz HUl HUll
                  clear hul hls hle hlc HCz
                  go_wp2_with fail
                  refine (land_any qX LX w21 HSt.out.X HSX.out).mono ?_
                  rintro e w22 ⟨q22, rfl, hb22, hl22⟩
                  replace HSt := Lib.hid (HSt.out.later hb22)
                  (try clear c31 t31); replace B31 := B31.later hb22; have c31 := B31.cell; have t31 := B31.lt
                  have HL22 := Lib.hid hl22
                  clear hb22 hl22
                  go_wp2_with fail
                  have HEar := Earliest_any q22 LX f s k w22 HL22.out HSX.out
                  rw [HEz.out] at HEar
                  refine HEar.mono ?_
                  rintro e w23 ⟨ua, uc, rfl, hb23, hi23⟩
                  simp only
                  rw [HUll.out]
                  replace HSt := Lib.hid (HSt.out.later hb23)
                  (try clear c31 t31); replace B31 := B31.later hb23; have c31 := B31.cell; have t31 := B31.lt
                  have HU := Lib.hid (show IntsAt w23 ua ul from hi23)
                  clear hb23 hi23 HEar HL22 HEz
                  go_wp2_with fail
                  refine (land_any qX LX w23 HSt.out.X HSX.out).mono ?_
                  rintro e w24 ⟨q24, rfl, hb24, hl24⟩
                  replace HSt := Lib.hid (HSt.out.later hb24)
                  replace HU := Lib.hid (HU.out.later hb24)
                  have HL24 := Lib.hid hl24
                  clear hb24 hl24 B31 c31 t31
                  go_wp2_with fail
                  obtain ⟨⟨ml, mu, me⟩, hmu⟩ : ∃ r, Land.routeE LX f t s = r := ⟨_, rfl⟩
                  refine (Route_any q24 LX f t s w24 HL24.out HSX.out).mono ?_
                  rw [hmu]
                  rw [hmu] at HRz
                  rintro e w25 ⟨na, nc, rfl, hb25, hi25⟩
                  replace HSt := Lib.hid (HSt.out.later hb25)
                  replace HU := Lib.hid (HU.out.later hb25)
                  clear hb25 hi25 HL24 hmu
                  simp only
                  have HMe : Hid (me = 10 ∨ (me = 0 ∧ re = 0 ∧ ru ≤ mu)) := by
                    have h := HRz.out
                    cases hr : LX.route f t s with
                    | none =>
                      rw [hr] at h
                      simp only [Prod.mk.injEq] at h
                      exact .inl h.2.2
                    | some x =>
                      obtain ⟨l, u⟩ := x
                      rw [hr] at h
                      simp only [Prod.mk.injEq] at h
                      obtain ⟨l', u', h1, h2⟩ := HRou.out l u hr
                      rcases HRt.out with ⟨_, h3⟩ | ⟨h3, l2, u2, h4, h5⟩
                      · rw [h3] at h1; cases h1
                      · rw [h4] at h1
                        cases h1
                        exact .inr ⟨h.2.2, h3, by omega⟩
                  clear HRz HRou
                  go_upto_region 25 with fail
                  go_cut [224] (fun s224 wx => s224 = .bool false ∧ wx = w25)
                  case first =>
                    rcases HMe.out with rfl | ⟨rfl, rfl, h2⟩
                    · go_wp2_with fail
                      go_meet
                      exact ⟨rfl, rfl⟩
                    · have d1 : decide (mu < ru) = false := by simp; omega
                      go_wp2_with fail
                      go_meet
                      exact ⟨by simp, rfl⟩
                  case rest =>
                    obtain ⟨rfl, rfl⟩ := hcut
                    clear HMe
                    go_wp2_with fail
                    go_loopw [37] (fun n' wx => ∃ n : Nat, n ≤ L.st.length ∧ n' = .int .i64 n ∧ CSt w wx qX LX qY LY bx «by» (some ⟨p1, o1, none⟩) tl ∧ IntsAt wx ua ul) (fun n' _ => L.st.length - (intOf n').toNat)
                    case atStart => exact ⟨0, Nat.zero_le _, rfl, HSt.out, HU.out⟩
                    case round =>
                      clear HSt HU
                      obtain ⟨n, hn, rfl, hst, hu⟩ := hrel
                      have HSt := Lib.hid hst
                      have HU := Lib.hid hu
                      clear hst hu
                      by_cases hnl : n < L.st.length
                      · obtain ⟨p2, o2, ep2, hC2⟩ := RowAt.at (k := n) HSt.out.t (by rw [HTll.out]; exact hnl)
                        cases ep2
                        obtain ⟨p3, o3, rfl, hC3⟩ := RowAt.at (k := n) HU.out (by rw [HUll.out]; exact hnl)
                        have e1 := cells_one hC2 (HTl.out n hnl)
                        have e2 := cells_one hC3 (HUl.out n hnl)
                        have z1 := block_lt_of_cell e1
                        have z2 := block_lt_of_cell e2
                        have hfin := HFin.out n hnl
                        have r1 : (0 : Int) ≤ (n : Int) := by omega
                        have r2 : (n : Int) < (L.st.length : Int) := by omega
                        obtain ⟨tn, htn⟩ : ∃ tn, tn = L.fin f s k (-1) n := ⟨_, rfl⟩
                        obtain ⟨un, hun⟩ : ∃ un, un = LX.fin f s k (-1) n := ⟨_, rfl⟩
                        rw [← htn] at hfin e1
                        rw [← hun] at hfin e2
                        clear htn hun
                        have HFi := Lib.hid hfin
                        clear hfin hC2 hC3
                        by_cases h0 : 0 ≤ un
                        · obtain ⟨h1, h2⟩ := HFi.out h0
                          have d1 : decide (un ≥ 0) = true := by simpa using h0
                          have d2 : decide (tn < 0) = false := by simp; omega
                          have d3 : decide (un < tn) = false := by simp; omega
                          clear h0 h1 h2
                          go_wp2_with fail
                          refine Fat.wp_region_tail 23 (by kernel_rfl) (by kernel_rfl) ?_
                          simp only [List.take_succ_cons, List.drop_succ_cons, List.take_nil, List.drop_nil]
                          repeat (go_big_quiet_step (fail))
                          refine wpQuiet_nil ?_
                          intro w30 hb30
                          replace HSt := Lib.hid (HSt.out.later hb30)
                          replace HU := Lib.hid (HU.out.later hb30)
                          clear hb30 e1 e2 z1 z2
                          go_wp2_with fail
                          go_roundw
                          case rel => exact ⟨n + 1, by omega, by go_num, HSt.out, HU.out⟩
                          case measure => simp [intOf]; omega
                        · have d1 : decide (un ≥ 0) = false := by simpa using h0
                          clear h0
                          go_wp2_with fail
                          refine Fat.wp_region_tail 23 (by kernel_rfl) (by kernel_rfl) ?_
                          simp only [List.take_succ_cons, List.drop_succ_cons, List.take_nil, List.drop_nil]
                          repeat (go_big_quiet_step (fail))
                          refine wpQuiet_nil ?_
                          intro w30 hb30
                          replace HSt := Lib.hid (HSt.out.later hb30)
                          replace HU := Lib.hid (HU.out.later hb30)
                          clear hb30 e1 e2 z1 z2
                          go_wp2_with fail
                          go_roundw
                          case rel => exact ⟨n + 1, by omega, by go_num, HSt.out, HU.out⟩
                          case measure => simp [intOf]; omega
                      · obtain rfl : n = L.st.length := by omega
                        clear HU
                        go_wp2_with fail
                        go_roundw
                        case rel => exact ⟨0 + 1, by omega, by go_num, HSt.out⟩
                        case measure => simp [intOf]
              · clear h2 hi
                as_aux_lemma =>
                  have BX : Box wr bx #[.slice qX.a1 LX.st.length qX.c1, .slice qX.a2 LX.rd.length qX.c2, .slice qX.a3 LX.cs.length qX.c3, .slice qX.a4 LX.sn.length qX.c4] 27 := HSt.out.bX
                  have BY : Box wr «by» #[.slice qY.a1 LY.st.length qY.c1, .slice qY.a2 LY.rd.length qY.c2, .slice qY.a3 LY.cs.length qY.c3, .slice qY.a4 LY.sn.length qY.c4] 27 := HSt.out.bY
                  have cX := BX.cell
                  have tX := BX.lt
                  have cY := BY.cell
                  have tY := BY.lt
                  go_wp2_with fail
                  refine named1 (p := fun W => Calls _ _ _ W _) ?_
                  intro w20 hb20 B31
                  clear cX tX cY tY BX BY
                  replace HSt := Lib.hid (HSt.out.later hb20)
                  clear hb20
                  obtain ⟨cz, hcz⟩ : ∃ cz, cz = LY.chk := ⟨_, rfl⟩
                  have HFl := fault_any qY LY w20 HSt.out.Y HSY.out.l1 HSY.out.l2 HSY.out.l3 HSY.out.l4 HSY.out.l5
                  rw [← hcz] at HFl
                  refine HFl.mono ?_
                  rintro e w21 ⟨rfl, hb21⟩
                  replace HSt := Lib.hid (HSt.out.later hb21)
                  replace B31 := B31.later hb21
                  have HCz := Lib.hid hcz
                  clear hb21 HFl hcz
                  have c31 := B31.cell; have t31 := B31.lt
                  by_cases hz0 : cz = 0
                  case neg =>
                    have hzb : (cz != 0) = true := by simpa using hz0
                    clear hz0
                    go_wp2_with fail
                    go_roundw
                    case rel => exact ⟨1 + 1, by omega, by go_num, HSt.out⟩
                    case measure => simp [intOf]
                  subst hz0
                  have HcZ : Hid (LY.chk = 0) := HCz.out.symm
                  have hls := HMY.out.st
                  have hle := HMY.out.sn
                  have hlc := HMY.out.cs
                  have HEz := Lib.hid (earlE_ok (L := LY) (f := f) (s := s) (k := k) HcZ.out (by omega) (by omega) (by omega))
                  have HRz := Lib.hid (routeE_ok (L := LY) (f := f) (t := t) (s := s) HcZ.out (by omega) (by omega) (by omega))
                  have HUl : Hid (∀ i, i < L.st.length → (Land.fins LY f s k (-1))[i]? = some (LY.fin f s k (-1) i)) := fun i hi => by simp [Land.fins, hls, hi]
                  have HUll : Hid ((Land.fins LY f s k (-1)).length = L.st.length) := by show _ = _; simp [Land.fins, hls]
                  have HFin : Hid (∀ x, x < L.st.length → 0 ≤ LY.fin f s k (-1) x → 0 ≤ L.fin f s k (-1) x ∧ L.fin f s k (-1) x ≤ LY.fin f s k (-1) x) := fun x hx h0 => HMY.out.fin hf hs hx h0
                  have HRou : Hid (∀ l u, LY.route f t s = some (l, u) → ∃ l' u', L.route f t s = some (l', u') ∧ u' ≤ u) := fun l u h => HMY.out.route (by omega) hs h
                  obtain ⟨ul, hul⟩ : ∃ ul, ul = Land.fins LY f s k (-1) := ⟨_, rfl⟩
                  rw [← hul] at HEz HUl HUll
                  clear hul hls hle hlc HCz
                  go_wp2_with fail
                  refine (land_any qY LY w21 HSt.out.Y HSY.out).mono ?_
                  rintro e w22 ⟨q22, rfl, hb22, hl22⟩
                  replace HSt := Lib.hid (HSt.out.later hb22)
                  (try clear c31 t31); replace B31 := B31.later hb22; have c31 := B31.cell; have t31 := B31.lt
                  have HL22 := Lib.hid hl22
                  clear hb22 hl22
                  go_wp2_with fail
                  have HEar := Earliest_any q22 LY f s k w22 HL22.out HSY.out
                  rw [HEz.out] at HEar
                  refine HEar.mono ?_
                  rintro e w23 ⟨ua, uc, rfl, hb23, hi23⟩
                  simp only
                  rw [HUll.out]
                  replace HSt := Lib.hid (HSt.out.later hb23)
                  (try clear c31 t31); replace B31 := B31.later hb23; have c31 := B31.cell; have t31 := B31.lt
                  have HU := Lib.hid (show IntsAt w23 ua ul from hi23)
                  clear hb23 hi23 HEar HL22 HEz
                  go_wp2_with fail
                  refine (land_any qY LY w23 HSt.out.Y HSY.out).mono ?_
                  rintro e w24 ⟨q24, rfl, hb24, hl24⟩
                  replace HSt := Lib.hid (HSt.out.later hb24)
                  replace HU := Lib.hid (HU.out.later hb24)
                  have HL24 := Lib.hid hl24
                  clear hb24 hl24 B31 c31 t31
                  go_wp2_with fail
                  obtain ⟨⟨ml, mu, me⟩, hmu⟩ : ∃ r, Land.routeE LY f t s = r := ⟨_, rfl⟩
                  refine (Route_any q24 LY f t s w24 HL24.out HSY.out).mono ?_
                  rw [hmu]
                  rw [hmu] at HRz
                  rintro e w25 ⟨na, nc, rfl, hb25, hi25⟩
                  replace HSt := Lib.hid (HSt.out.later hb25)
                  replace HU := Lib.hid (HU.out.later hb25)
                  clear hb25 hi25 HL24 hmu
                  simp only
                  have HMe : Hid (me = 10 ∨ (me = 0 ∧ re = 0 ∧ ru ≤ mu)) := by
                    have h := HRz.out
                    cases hr : LY.route f t s with
                    | none =>
                      rw [hr] at h
                      simp only [Prod.mk.injEq] at h
                      exact .inl h.2.2
                    | some x =>
                      obtain ⟨l, u⟩ := x
                      rw [hr] at h
                      simp only [Prod.mk.injEq] at h
                      obtain ⟨l', u', h1, h2⟩ := HRou.out l u hr
                      rcases HRt.out with ⟨_, h3⟩ | ⟨h3, l2, u2, h4, h5⟩
                      · rw [h3] at h1; cases h1
                      · rw [h4] at h1
                        cases h1
                        exact .inr ⟨h.2.2, h3, by omega⟩
                  clear HRz HRou
                  go_upto_region 25 with fail
                  go_cut [224] (fun s224 wx => s224 = .bool false ∧ wx = w25)
                  case first =>
                    rcases HMe.out with rfl | ⟨rfl, rfl, h2⟩
                    · go_wp2_with fail
                      go_meet
                      exact ⟨rfl, rfl⟩
                    · have d1 : decide (mu < ru) = false := by simp; omega
                      go_wp2_with fail
                      go_meet
                      exact ⟨by simp, rfl⟩
                  case rest =>
                    obtain ⟨rfl, rfl⟩ := hcut
                    clear HMe
                    go_wp2_with fail
                    go_loopw [37] (fun n' wx => ∃ n : Nat, n ≤ L.st.length ∧ n' = .int .i64 n ∧ CSt w wx qX LX qY LY bx «by» (some ⟨p1, o1, none⟩) tl ∧ IntsAt wx ua ul) (fun n' _ => L.st.length - (intOf n').toNat)
                    case atStart => exact ⟨0, Nat.zero_le _, rfl, HSt.out, HU.out⟩
                    case round =>
                      clear HSt HU
                      obtain ⟨n, hn, rfl, hst, hu⟩ := hrel
                      have HSt := Lib.hid hst
                      have HU := Lib.hid hu
                      clear hst hu
                      by_cases hnl : n < L.st.length
                      · obtain ⟨p2, o2, ep2, hC2⟩ := RowAt.at (k := n) HSt.out.t (by rw [HTll.out]; exact hnl)
                        cases ep2
                        obtain ⟨p3, o3, rfl, hC3⟩ := RowAt.at (k := n) HU.out (by rw [HUll.out]; exact hnl)
                        have e1 := cells_one hC2 (HTl.out n hnl)
                        have e2 := cells_one hC3 (HUl.out n hnl)
                        have z1 := block_lt_of_cell e1
                        have z2 := block_lt_of_cell e2
                        have hfin := HFin.out n hnl
                        have r1 : (0 : Int) ≤ (n : Int) := by omega
                        have r2 : (n : Int) < (L.st.length : Int) := by omega
                        obtain ⟨tn, htn⟩ : ∃ tn, tn = L.fin f s k (-1) n := ⟨_, rfl⟩
                        obtain ⟨un, hun⟩ : ∃ un, un = LY.fin f s k (-1) n := ⟨_, rfl⟩
                        rw [← htn] at hfin e1
                        rw [← hun] at hfin e2
                        clear htn hun
                        have HFi := Lib.hid hfin
                        clear hfin hC2 hC3
                        by_cases h0 : 0 ≤ un
                        · obtain ⟨h1, h2⟩ := HFi.out h0
                          have d1 : decide (un ≥ 0) = true := by simpa using h0
                          have d2 : decide (tn < 0) = false := by simp; omega
                          have d3 : decide (un < tn) = false := by simp; omega
                          clear h0 h1 h2
                          go_wp2_with fail
                          refine Fat.wp_region_tail 23 (by kernel_rfl) (by kernel_rfl) ?_
                          simp only [List.take_succ_cons, List.drop_succ_cons, List.take_nil, List.drop_nil]
                          repeat (go_big_quiet_step (fail))
                          refine wpQuiet_nil ?_
                          intro w30 hb30
                          replace HSt := Lib.hid (HSt.out.later hb30)
                          replace HU := Lib.hid (HU.out.later hb30)
                          clear hb30 e1 e2 z1 z2
                          go_wp2_with fail
                          go_roundw
                          case rel => exact ⟨n + 1, by omega, by go_num, HSt.out, HU.out⟩
                          case measure => simp [intOf]; omega
                        · have d1 : decide (un ≥ 0) = false := by simpa using h0
                          clear h0
                          go_wp2_with fail
                          refine Fat.wp_region_tail 23 (by kernel_rfl) (by kernel_rfl) ?_
                          simp only [List.take_succ_cons, List.drop_succ_cons, List.take_nil, List.drop_nil]
                          repeat (go_big_quiet_step (fail))
                          refine wpQuiet_nil ?_
                          intro w30 hb30
                          replace HSt := Lib.hid (HSt.out.later hb30)
                          replace HU := Lib.hid (HU.out.later hb30)
                          clear hb30 e1 e2 z1 z2
                          go_wp2_with fail
                          go_roundw
                          case rel => exact ⟨n + 1, by omega, by go_num, HSt.out, HU.out⟩
                          case measure => simp [intOf]; omega
                      · obtain rfl : n = L.st.length := by omega
                        clear HU
                        go_wp2_with fail
                        go_roundw
                        case rel => exact ⟨1 + 1, by omega, by go_num, HSt.out⟩
                        case measure => simp [intOf]
end Go.Proofs.Ytfihdaoakfdlpaa
