/- The statement on copies over a land: its walk. -/
import Derived.Test.YtingfmdbihbamaaGreatCL2
import Derived.Test.YtingfmdbihbamaaGreatRB
import Derived.Test.YtingfmdbihbamaaGreatWC
import Derived.Test.YtingfmdbihbamaaGreatRPlain11
import Derived.Deep.DeepCutAuto
import Derived.Deep.CutBlock
import Derived.Deep.RegionHeld3
import Derived.Deep.DrawnRows
import Derived.Deep.AppendLies
open Go.RowKit
namespace Go.Proofs.YtingfmdbihbamaaGreat
open Go.Hill
attribute [local go_sem ↓] Go.wp_at_zero Go.wp_at_succ

theorem askr_ok {L : Land} {f t s k : Nat} (hc : L.chk = 0) (hf : f < L.st.length) (ht : t < L.st.length) (hs : s ≤ L.sn.length) (hk : k < L.cs.length) : L.askr f t s k = 0 := by
  unfold Land.askr
  rw [if_pos hc, if_pos (by simp [inB]; omega)]
theorem sureE_ok {L : Land} {f t s : Nat} (hc : L.chk = 0) (hf : f < L.st.length) (ht : t < L.st.length) (hs : s ≤ L.sn.length) : Land.sureE L f t s = if (L.sn.length : Int) < (L.sur f t s (-1)).1 then (0, 0, 10) else ((L.sur f t s (-1)).1, ((L.sur f t s (-1)).2 : Int), 0) := by
  unfold Land.sureE
  rw [if_pos (show L.askr f t s 0 = 0 from askr_ok (k := 0) hc hf ht hs (st_six hc).2.2.2.2.2)]; rfl
theorem earlE_ok {L : Land} {f s k : Nat} (hc : L.chk = 0) (hf : f < L.st.length) (hs : s ≤ L.sn.length) (hk : k < L.cs.length) : Land.earlE L f s k = (Land.fins L f s k (-1), 0) := by
  unfold Land.earlE
  rw [if_pos (askr_ok hc hf hf hs hk)]; rfl
/-- In each case the dispatch comes between its start and the sure hour. -/
theorem fin_sur {L : Land} {f t s k : Nat} (hs : s ≤ L.sn.length) (hk : k < L.cs.length) (hsu : (L.sur f t s (-1)).1 ≤ L.sn.length) : (s : Int) ≤ L.fin f s k (-1) t ∧ L.fin f s k (-1) t ≤ (L.sur f t s (-1)).1 := by
  have h1 : L.hat f s k (-1) t ≤ (L.sur f t s (-1)).1 := surF_le (g := fun k => L.hat f s k (-1) t) hk
  have h2 := (Rel.hat_bd (r := L.rel k (-1)) (f := f) hs t).1
  have h3 : (s : Int) ≤ L.hat f s k (-1) t := h2
  rw [fin_eq hs (by omega)]
  exact ⟨h3, h1⟩
/-- What stays while the legs are laid. -/
structure LegSt (w wL wx : World) (bs : Nat) (s : Nat) (pat : Int) (aa ab ha : Option Addr) (hl : List Int) (m n : Int) : Prop where
  W : Below w.heap.size w wx
  L : wL.heap.size ≤ wx.heap.size
  S : Box wx bs #[.int .i64 s] 3
  P : Box wx (bs + 1 + 1) #[.slice (some ⟨bs, 0, none⟩) 1 1, .slice (some ⟨bs + 1, 0, none⟩) 1 1, .int .i64 pat] 49
  A : IntsAt wx aa (Cp.divI m)
  B : IntsAt wx ab (Cp.divI n)
  H : IntsAt wx ha hl
theorem elem_rlg : Elem Tryz.prog 44 55 3 40 := ⟨by kernel_rfl, by kernel_rfl⟩
theorem step_grow {P : Program} {ops : Array Oper} {o : Oper} {a : Act} {W : World} {K : Act → World → Prop} {Q : Exit → Act → World → Prop} {Z : Prop} (hgd : o.guard = none) (s x : Operand) (t : TypeId)
    (ho : o.op = .call { callee := .builtin .append, args := #[s, x], argTypes := #[t, t] }) {base : Nat} {E : TypeId} {size bytes : Nat} (he : Elem P t E size bytes) {v : Value} {xs : List (List Value)} (hs : a.eval s = v) (hown : Own W base E size v xs)
    {g c : Nat} {cells : Array Value} (hx : a.eval x = .slice (some ⟨g, 0, none⟩) 1 c) (hB : Box W g cells E) (hsz : cells.size = size) (h0 : 0 < size) (h1 : cells.toList.all (·.oneCell') = true)
    {n : Nat} (hnn : xs.length = n) (hn : n ≤ 1000) (hby : bytes ≤ 1000) (hbase : base ≤ W.heap.size)
    (h : ∀ a' c' W', Own W' base E size (.slice a' (n + 1) c') (xs ++ [cells.toList]) → Below base W W' → K (a.put o.dst (.slice a' (n + 1) c')) W') : if Region.wanted o (yielded ops a.tmps) = true then Oper.wp P o a W K Q else Z := by
  subst hnn
  obtain ⟨i, z, hi, hz, i1, i2, i3⟩ := he.get
  refine step_append_lies _ hgd s x t ho base E i z size bytes he.ht hi hz i1 i2 i3 h0 v xs.length xs.flatten hs hown.1 ⟨g, 0, none⟩ 1 c cells.toList hx (by simp [hsz]) (World.news_of_block (fr := (0, 0)) hB) (fun u hu => by rw [List.all_eq_true] at h1; exact h1 u hu) (by omega) (by unfold maxLen; omega) ?_ hbase W.heap.size rfl ?_
  · have : (xs.length + 1) * bytes ≤ 1001 * 1000 := Nat.mul_le_mul (by omega) hby
    omega
  · intro g' cap w' h2 h3 _ _
    exact h _ _ _ (own_snoc hown rfl h2 (by simp [hsz])) (below_grown h3 hbase fun k hk => (hown.1.lt k hk).1)
/-- Numbers lie in no block that holds none. -/
theorem ints_but {W V : World} {a : Option Addr} {l : List Int} {b : Nat} {cs : Array Value} {T : TypeId} (h : IntsAt W a l) (hB : Box W b cs T) (hn : ∀ (j : Nat) (n : Int), cs[j]? ≠ some (Value.int .i64 n)) (hb : But b W V) : IntsAt V a l := by
  rcases h with h | ⟨p, o, rfl, hC⟩
  · exact .inl h
  · refine .inr ⟨p, o, rfl, fun i x hx j u hu => (World.cell?_of_block (hb.block p fun e => ?_)).trans (hC i x hx j u hu)⟩
    subst e
    have h1 := hC i x hx j u hu
    rw [hB.cell] at h1
    rw [List.getElem?_map] at hx
    cases hl : l[i]? with
    | none => rw [hl] at hx; cases hx
    | some n =>
      rw [hl] at hx
      cases hx
      cases j with
      | zero => simp at hu; subst hu; exact hn _ n h1
      | succ j => simp at hu
theorem ints_past {wL wx W1 : World} {a : Option Addr} {l : List Int} (h0 : IntsAt wL a l) (h : IntsAt wx a l) (hb : Below wL.heap.size wx W1) : IntsAt W1 a l := by
  rcases h with h | ⟨p, o, rfl, hC⟩
  · exact .inl h
  · rcases h0 with h0 | ⟨p0, o0, e, hC0⟩
    · exact .inl h0
    · cases e
      refine .inr ⟨p, o, rfl, fun i x hx j u hu => (World.cell?_of_block (hb.block p ?_)).trans (hC i x hx j u hu)⟩
      exact block_lt_of_cell (hC0 i x hx j u hu)
theorem LegSt.step {w wL wx W1 V : World} {bs : Nat} {s : Nat} {pat : Int} {aa ab ha : Option Addr} {hl : List Int} {m n : Int} (h : LegSt w wL wx bs s pat aa ab ha hl m n) (hb : Below wL.heap.size wx W1) (hA : IntsAt wL aa (Cp.divI m)) (hB : IntsAt wL ab (Cp.divI n)) (hH : IntsAt wL ha hl)
    {u : Value} {f : Bool} (hBr : Box W1 (bs + 1) #[u, .bool f] 46) (hu : ∀ k : Int, u ≠ .int .i64 k) (hV : But (bs + 1) W1 V) (hlt : bs + 1 + 1 < wL.heap.size) (hwb : w.heap.size ≤ bs) (hwL : w.heap.size ≤ wL.heap.size) : LegSt w wL V bs s pat aa ab ha hl m n := by
  have hno : ∀ (j : Nat) (k : Int), (#[u, .bool f] : Array Value)[j]? ≠ some (Value.int .i64 k) := by
    intro j k e
    rcases j with _ | _ | j
    · simp at e; exact hu k e
    · simp at e
    · simp at e
  exact ⟨hV.below (h.W.trans (hb.mono hwL)) (by omega), by rw [hV.size]; exact Nat.le_trans h.L hb.size, hV.box ((hb.block bs (by omega)).trans h.S) (by omega), hV.box ((hb.block (bs + 1 + 1) hlt).trans h.P) (by omega), ints_but (ints_past hA h.A hb) hBr hno hV, ints_but (ints_past hB h.B hb) hBr hno hV, ints_but (ints_past hH h.H hb) hBr hno hV⟩
theorem LegSt.named {w wL W : World} {bs s : Nat} {pat : Int} {aa ab ha : Option Addr} {hl : List Int} {m n : Int} (h : LegSt w wL W bs s pat aa ab ha hl m n) : ∃ x, x = W ∧ LegSt w wL x bs s pat aa ab ha hl m n := ⟨W, rfl, h⟩
structure HrSt (w wx : World) (bs : Nat) (ha : Option Addr) (hl : List Int) (qP : Cp.PV) (pat : Int) (V : World) : Prop where
  W : Below w.heap.size w V
  X : Below wx.heap.size wx V
  H : IntsAt V ha hl
  P : Box V (bs + 1 + 1) #[.slice qP.a1 1 qP.c1, .slice qP.a2 1 qP.c2, .int .i64 pat] 49
theorem HrSt.named {w wx W : World} {bs : Nat} {pat : Int} {ha : Option Addr} {hl : List Int} {qP : Cp.PV} (h : HrSt w wx bs ha hl qP pat W) : ∃ x, x = W ∧ HrSt w wx bs ha hl qP pat x := ⟨W, rfl, h⟩
theorem HrSt.later {w wx W V : World} {bs : Nat} {pat : Int} {ha : Option Addr} {hl : List Int} {qP : Cp.PV} (h : HrSt w wx bs ha hl qP pat W) (hb : Below W.heap.size W V) : HrSt w wx bs ha hl qP pat V := ⟨over h.W hb, over h.X hb, RowAt.later h.H hb, h.P.later hb⟩
def legRows (m n : Int) : List (List Value) := (Cp.cpRt m n).legs.map fun l => [.int .i64 l.lo, .int .i64 l.hi, .slice none 0 0]
theorem legRows_at {m n : Int} {i : Nat} (hi : i < 3) : ∃ x y, (Cp.divI m)[i]? = some x ∧ (Cp.divI n)[i]? = some y ∧ (legRows m n).take (i + 1) = (legRows m n).take i ++ [[.int .i64 x, .int .i64 y, .slice none 0 0]] := by
  rcases i with _ | _ | _ | i
  · exact ⟨_, _, rfl, rfl, rfl⟩
  · exact ⟨_, _, rfl, rfl, rfl⟩
  · exact ⟨_, _, rfl, rfl, rfl⟩
  · omega
def cpV (bs : Nat) (va : Option Addr) (vc : Nat) (m n : Int) : Cp.PV := ⟨some ⟨bs, 0, none⟩, 1, some ⟨bs + 1, 0, none⟩, 1, [⟨va, vc, (Cp.cpRt m n).legs.map fun l => ⟨none, 0, l⟩, false⟩]⟩
theorem cpV_at {W : World} {bs vc : Nat} {va : Option Addr} {s pat m n : Int} (hS : Box W bs #[.int .i64 s] 3) (hR : Box W (bs + 1) #[.slice va 3 vc, .bool false] 46) (hL : RowAt W va 3 (legRows m n)) : Cp.PostAt W (cpV bs va vc m n) (Cp.cpPs s pat m n) := by
  refine ⟨Cp.row_box hS rfl (by simp [Cp.cpPs]), Cp.row_box hR rfl (by simp [cpV, Cp.RtV.vs]), fun x hx => ?_, rfl⟩
  simp only [cpV, List.mem_singleton] at hx
  subst hx
  refine ⟨hL, fun l hl => ?_⟩
  simp only [List.mem_map] at hl
  obtain ⟨y, hy, rfl⟩ := hl
  simp only [Cp.cpRt, List.mem_cons, List.not_mem_nil, or_false] at hy
  rcases hy with rfl | rfl | rfl <;> exact .inl rfl
theorem cpV_thin {bs vc : Nat} {va : Option Addr} {s pat m n : Int} : Cp.Thin5 (cpV bs va vc m n) (Cp.cpPs s pat m n) := by
  refine ⟨by simp [Cp.cpPs], by simp [cpV], fun x hx => ?_, fun x hx l hl => ?_⟩
  · simp only [cpV, List.mem_singleton] at hx
    subst hx; simp [Cp.cpRt]
  · simp only [cpV, List.mem_singleton] at hx
    subst hx
    simp only [List.mem_map] at hl
    obtain ⟨y, hy, rfl⟩ := hl
    simp only [Cp.cpRt, List.mem_cons, List.not_mem_nil, or_false] at hy
    rcases hy with rfl | rfl | rfl <;> simp
set_option maxRecDepth 100000 in
set_option maxHeartbeats 16000000 in
theorem TopCopied_any (q : LV) (L : Land) (a b c d : Nat) (w : World) (hL : LandAt w q L) (hs : Sane L) (ga : a < 256) (gb : b < 256) (gc : c < 256) (gd : d < 256) :
    Calls Tryz.prog 3 #[landV q L, .int .u8 a, .int .u8 b, .int .u8 c, .int .u8 d] w (Ret (.bool true) w) := by
  obtain ⟨tv, htv⟩ : ∃ tv, tv = thinB L := ⟨_, rfl⟩
  have HThin : Hid (∀ W, Below w.heap.size w W → Calls Tryz.prog 4 #[landV q L] W (Ret (.bool tv) W)) := fun W hW => by rw [htv]; exact thin_any q L W (hL.later hW) hs
  have HL := Lib.hid hL
  have HTv := Lib.hid htv
  clear hL hs htv
  go_enter Tryz.func3, Tryz.ntmps3
  go_wp2_with fail
  refine named1 (p := fun W => Calls _ _ _ W _) ?_
  intro W hW B5
  refine (HThin.out W hW).mono ?_
  rintro e w1 ⟨rfl, hb1⟩
  replace hW := over hW hb1; (try clear c5 t5); replace B5 := B5.later hb1; have c5 := B5.cell; have t5 := B5.lt; clear hb1 HThin
  cases tv with
  | false =>
    go_wp2_with fail
    refine (copied_any _).mono ?_
    rintro e wz ⟨rfl, hbz⟩
    replace hW := over hW hbz
    clear hbz
    go_wp2_with fail
    go_ret
    exact ⟨rfl, hW⟩
  | true =>
    have HS := Lib.hid (thin_small HTv.out.symm)
    obtain ⟨ch, hch⟩ : ∃ ch, ch = L.chk := ⟨_, rfl⟩
    have HFl := fault_any q L w1 (HL.out.later hW) HS.out.l1 HS.out.l2 HS.out.l3 HS.out.l4 HS.out.l5
    rw [← hch] at HFl
    replace HFl := Lib.hid HFl
    have HCh := Lib.hid hch
    clear hch HTv
    go_wp2_with fail
    refine HFl.out.mono ?_
    rintro e w2 ⟨rfl, hb2⟩
    replace hW := over hW hb2; (try clear c5 t5); replace B5 := B5.later hb2; have c5 := B5.cell; have t5 := B5.lt; clear hb2 HFl
    by_cases hc0 : ch = 0
    case neg =>
      have hcb : (ch != 0) = true := by simpa using hc0
      clear hc0
      go_wp2_with fail
      refine (copied_any _).mono ?_
      rintro e wz ⟨rfl, hbz⟩
      replace hW := over hW hbz
      clear hbz
      go_wp2_with fail
      go_ret
      exact ⟨rfl, hW⟩
    subst hc0
    have hc : L.chk = 0 := HCh.out.symm
    have HC := Lib.hid hc
    obtain ⟨n6, n0, e12, e0, m4, m0⟩ := st_six hc
    have hf : a % L.st.length < L.st.length := Nat.mod_lt _ n0
    have ht : b % L.st.length < L.st.length := Nat.mod_lt _ n0
    have hs : c % (L.sn.length + 1) ≤ L.sn.length := Nat.le_of_lt_succ (Nat.mod_lt _ (by omega))
    have t1 : (a : Int).tmod (L.st.length : Int) = ((a % L.st.length : Nat) : Int) := by rw [Int.tmod_eq_emod_of_nonneg (by omega)]; rfl
    have t2 : (b : Int).tmod (L.st.length : Int) = ((b % L.st.length : Nat) : Int) := by rw [Int.tmod_eq_emod_of_nonneg (by omega)]; rfl
    have t3 : (c : Int).tmod ((L.sn.length : Int) + 1) = ((c % (L.sn.length + 1) : Nat) : Int) := by rw [Int.tmod_eq_emod_of_nonneg (by omega)]; push_cast; rfl
    have s1 : (L.st.length : Int) ≠ 0 := by omega
    have s2 : (L.sn.length : Int) + 1 ≠ 0 := by omega
    have s4 : ((L.st.length : Int) == 0) = false := by simpa using s1
    have s5 : ((L.sn.length : Int) + 1 == 0) = false := by simpa using s2
    generalize a % L.st.length = f at *
    generalize b % L.st.length = t at *
    generalize c % (L.sn.length + 1) = s at *
    clear hc HCh
    go_wp2_with fail
    refine Fat.wp_region_tail 18 (by kernel_rfl) (by kernel_rfl) ?_
    simp only [List.take_succ_cons, List.drop_succ_cons, List.take_nil, List.drop_nil]
    repeat (go_big_quiet_step (fail))
    refine wpQuiet_nil ?_
    intro w3 hb3
    clear t1 t2 t3 s1 s2 s4 s5
    replace hW := over hW hb3; (try clear c5 t5); replace B5 := B5.later hb3; have c5 := B5.cell; have t5 := B5.lt; clear hb3 
    go_wp2_with fail
    refine (land_any q L w3 (HL.out.later hW) HS.out).mono ?_
    rintro e w4 ⟨q4, rfl, hb4, hl4⟩
    have HL4 := Lib.hid hl4
    replace hW := over hW hb4; (try clear c5 t5); replace B5 := B5.later hb4; have c5 := B5.cell; have t5 := B5.lt; clear hb4 hl4
    have HSu := Lib.hid (sureE_ok HC.out hf ht hs)
    go_wp2_with fail
    obtain ⟨⟨sv, sk, se⟩, hsu⟩ : ∃ r, Land.sureE L f t s = r := ⟨_, rfl⟩
    refine (Sure_any q4 L f t s w4 HL4.out HS.out).mono ?_
    rw [hsu]
    rw [hsu] at HSu
    rintro e w5 ⟨rfl, hb5⟩
    simp only
    replace hW := over hW hb5; (try clear c5 t5); replace B5 := B5.later hb5; have c5 := B5.cell; have t5 := B5.lt; clear hb5 HL4 hsu
    by_cases hst : (L.sn.length : Int) < (L.sur f t s (-1)).1
    · have h2 := HSu.out
      rw [if_pos hst] at h2
      simp only [Prod.mk.injEq] at h2
      obtain ⟨rfl, rfl, rfl⟩ := h2
      clear hst HSu
      go_wp2_with fail
      refine (copied_any _).mono ?_
      rintro e wz ⟨rfl, hbz⟩
      replace hW := over hW hbz
      clear hbz
      go_wp2_with fail
      go_ret
      exact ⟨rfl, hW⟩
    · have h2 := HSu.out
      rw [if_neg hst] at h2
      simp only [Prod.mk.injEq] at h2
      obtain ⟨h3, rfl, rfl⟩ := h2
      have HFs := Lib.hid (fun k hk => fin_sur (L := L) (f := f) (t := t) (s := s) (k := k) hs hk (by omega))
      rw [← h3] at HFs
      have hsv : sv ≤ 12 := by omega
      have hsv0 : (s : Int) ≤ sv := by have := HFs.out 0 m0; omega
      clear hst HSu h3
      obtain ⟨w0, hw0⟩ : ∃ w0, w0 = w5 := ⟨_, rfl⟩
      have hsame : Below w0.heap.size w0 w5 := by rw [hw0]; exact Below.refl _ _
      have HW0 := Lib.hid (show Below w.heap.size w w0 by rw [hw0]; exact hW)
      have HB5 := Lib.hid B5
      have hwlt : w.heap.size < w0.heap.size := by rw [hw0]; exact t5
      clear hw0
      go_wp2_with fail
      clear B5 c5 t5
      go_loopw [18, 19, 20] (fun lo' hs' k' wr => ∃ (k : Nat) (lo : Int) (hl : List Int), k ≤ L.cs.length ∧ k' = .int .i64 k ∧ lo' = .int .i64 lo ∧ (s : Int) ≤ lo ∧ lo ≤ sv ∧ hl.length = k ∧ (∀ h ∈ hl, lo ≤ h ∧ h ≤ sv) ∧ Below w.heap.size w wr ∧ Below w0.heap.size w0 wr ∧ Own wr w0.heap.size 3 1 hs' (ivs hl) ∧ Box wr w.heap.size #[.slice q.a1 L.st.length q.c1, .slice q.a2 L.rd.length q.c2, .slice q.a3 L.cs.length q.c3, .slice q.a4 L.sn.length q.c4] 27) (fun _ _ k' _ => L.cs.length - (intOf k').toNat)
      case atStart => exact ⟨0, sv, [], Nat.zero_le _, rfl, rfl, hsv0, Int.le_refl _, rfl, (fun h hh => by cases hh), hW, hsame, Own.nil _ _ _ _, HB5.out⟩
      case round =>
        clear hW hsame HB5
        obtain ⟨k, lo, hl, hk, rfl, rfl, hlo1, hlo2, hll, hall, hW, hW0, hOw, B5⟩ := hrel
        have HOw := Lib.hid hOw
        have HAll := Lib.hid hall
        have HB5 := Lib.hid B5
        clear hOw hall
        have c5 := B5.cell; have t5 := B5.lt
        by_cases hkt : k < L.cs.length
        · have HFt := Lib.hid (HFs.out k hkt)
          have HTl : Hid ((Land.fins L f s k (-1))[t]? = some (L.fin f s k (-1) t)) := by show _ = _; simp [Land.fins, ht]
          have HTll : Hid ((Land.fins L f s k (-1)).length = L.st.length) := by show _ = _; simp [Land.fins]
          have HEe := Lib.hid (earlE_ok (k := k) HC.out hf hs hkt)
          obtain ⟨tl, htl⟩ : ∃ tl, tl = Land.fins L f s k (-1) := ⟨_, rfl⟩
          rw [← htl] at HTl HTll HEe
          obtain ⟨ft, hft⟩ : ∃ ft, ft = L.fin f s k (-1) t := ⟨_, rfl⟩
          rw [← hft] at HTl HFt
          have r0 : (k : Int) < (L.cs.length : Int) := by omega
          clear htl hft
          go_wp2_with fail
          refine (land_any q L wr (HL.out.later hW) HS.out).mono ?_
          rintro e w6 ⟨q6, rfl, hb6, hl6⟩
          have HL6 := Lib.hid hl6
          replace HB5 := Lib.hid (HB5.out.later hb6)
          replace hW := over hW hb6
          replace hW0 := over hW0 hb6
          replace HOw := Lib.hid (HOw.out.later hb6)
          clear hb6 hl6 c5 t5 B5
          go_wp2_with fail
          have HEar := EarliestO_any q6 L f s k w6 HL6.out HS.out
          rw [HEe.out] at HEar
          refine HEar.mono ?_
          rintro e w7 ⟨ta, tc, rfl, hb7, hi7⟩
          simp only at hi7 ⊢
          rw [HTll.out] at hi7 ⊢
          obtain ⟨p1, cur, rfl, hp1, hBp, hC1⟩ := own_row hi7 n0
          have e1 : w7.cell? ⟨p1, t, none⟩ = some (.int .i64 ft) := by have := cells_one (f := fun n : Int => Value.int .i64 n) hC1 HTl.out; rwa [Nat.zero_add] at this
          have z1 := block_lt_of_cell e1
          have HNp : Hid (∀ g, u19.ownBlock = some g → g ≠ p1) := fun g hg => by have := (HOw.out.1.lt g hg).2; omega
          replace HB5 := Lib.hid (HB5.out.later hb7)
          replace hW := over hW hb7
          replace hW0 := over hW0 hb7
          replace HOw := Lib.hid (HOw.out.later hb7)
          obtain ⟨h1, h2⟩ := HFt.out
          have d1 : decide (ft < (s : Int)) = false := by simp; omega
          have d2 : decide (ft > sv) = false := by simp; omega
          have r1 : (0 : Int) ≤ (t : Int) := by omega
          have r2 : (t : Int) < (L.st.length : Int) := by omega
          clear hb7 hi7 HEar HL6 HEe hC1 h1 h2
          go_wp2_with (at_builtin; refine named1 (p := wpList _ _ _ _ _) ?_; intro w8 hb8 B8; have hO := HOw.out.later hb8; refine wpList_grow rfl (.tmp 122) (.tmp 127) 41 rfl Cp.elem_int rfl hO rfl B8 rfl (by decide) rfl (n := hl.length) (by simp) (by omega) (by decide) (over hW0 hb8).size ?_; intro a' c' W' hO' hb' hg'; have hz1 := Nat.lt_of_lt_of_le z1 hb8.size; have e2 : W'.cell? ⟨p1, t, none⟩ = some (.int .i64 ft) := (hg'.cell_far ⟨p1, t, none⟩ hz1 (fun e => HNp.out p1 e.symm rfl)).trans ((hb8.cell (p := ⟨p1, t, none⟩) z1).trans e1); have z2 := block_lt_of_cell e2; have HB8 := Lib.hid (HB5.out.later hb8); have HG8 := Lib.hid hg'; have HO' := Lib.hid hO'; have HWn := Lib.hid ((over hW hb8).trans (hb'.mono HW0.out.size)); have HWn0 := Lib.hid ((over hW0 hb8).trans hb'); have HO8 := Lib.hid hO; clear hO' hb' hg' hb8 hO B8 e1 z1)
          obtain ⟨mn, hmn⟩ : ∃ mn : Int, mn = if ft < lo then ft else lo := ⟨_, rfl⟩
          obtain ⟨h1, h2⟩ := HFt.out
          have hmb : (s : Int) ≤ mn ∧ mn ≤ lo ∧ mn ≤ ft := by rw [hmn]; split <;> omega
          go_roundw
          case rel =>
            refine ⟨k + 1, mn, hl ++ [ft], by omega, by go_num, by rw [hmn], by omega, by omega, by simp [hll], fun h hh => ?_, HWn.out, HWn0.out, ?_, ?_⟩
            · rcases List.mem_append.1 hh with hh | hh
              · have := HAll.out h hh; omega
              · simp at hh; subst hh; omega
            · have h := HO'.out
              rw [hll] at h
              rw [show ivs (hl ++ [ft]) = ivs hl ++ [[.int .i64 ft]] by simp [ivs]]
              exact h
            · exact (HG8.out.block w.heap.size HB8.out.lt fun e => by have := (HO8.out.1.lt _ e.symm).1; omega).trans HB8.out
          case measure => simp [intOf]; omega
        · obtain rfl : k = L.cs.length := by omega
          have HW1 := Lib.hid hW
          have HW01 := Lib.hid hW0
          obtain ⟨ha, hcap, rfl, _, hHr⟩ := HOw.out.row
          rw [show (ivs hl).length = L.cs.length by simp [ivs, hll]]
          have HHr := Lib.hid (show IntsAt wr ha hl from hHr)
          clear HOw hHr hk hkt hW0 HFs HW0 hwlt
          go_wp2_with fail
          refine named3 (p := fun W => Calls _ _ _ W _) ?_
          intro W9 hb9 BS BR BP
          obtain ⟨pat, hpat⟩ : ∃ pat : Int, pat = (d : Int) % 31 := ⟨_, rfl⟩
          have hp0 : 0 ≤ pat ∧ pat ≤ 30 := by omega
          rw [← hpat] at BP ⊢
          clear hpat
          have HW9 := Lib.hid (over HW1.out hb9)
          replace HHr := Lib.hid (HHr.out.later hb9)
          generalize hbs : wr.heap.size = bs at *
          have hwb : w.heap.size ≤ bs := by rw [← hbs]; exact hW.size
          clear hbs hb9 HW1 HW01 HB5 B5 c5 t5
          refine (Cp.divided_any (lo - s) W9 (by omega) (by omega)).mono ?_
          rintro e w10 ⟨aa, rfl, hb10, hi10⟩
          rw [show (Cp.divI (lo - s)).length = 3 from rfl]
          replace BS := BS.later hb10
          replace BR := BR.later hb10
          replace BP := BP.later hb10
          replace HHr := Lib.hid (HHr.out.later hb10)
          replace HW9 := Lib.hid (over HW9.out hb10)
          have HA := Lib.hid hi10
          clear hb10 hi10
          go_wp2_with fail
          refine (Cp.divided_any (sv - s) w10 (by omega) (by omega)).mono ?_
          rintro e w11 ⟨ab, rfl, hb11, hi11⟩
          rw [show (Cp.divI (sv - s)).length = 3 from rfl]
          replace BS := BS.later hb11
          replace BR := BR.later hb11
          replace BP := BP.later hb11
          replace HHr := Lib.hid (HHr.out.later hb11)
          replace HA := Lib.hid (HA.out.later hb11)
          replace HW9 := Lib.hid (over HW9.out hb11)
          have HB := Lib.hid hi11
          clear hb11 hi11
          go_wp2_with fail
          have HSt := Lib.hid (LegSt.mk (w := w) (bs := bs) (s := s) (pat := pat) (aa := aa) (ab := ab) (ha := ha) (hl := hl) (m := lo - s) (n := sv - s) (wL := w11) HW9.out (Nat.le_refl _) BS BP HA.out HB.out HHr.out)
          have HBr := Lib.hid BR
          have hbr := BR.lt
          have hbp := BP.lt
          clear BS BR BP HW9
          go_loopw [26] (fun i' wx => ∃ (i : Nat) (v : Value), i ≤ 3 ∧ i' = .int .i64 i ∧ LegSt w w11 wx bs s pat aa ab ha hl (lo - s) (sv - s) ∧ Box wx (bs + 1) #[v, .bool false] 46 ∧ Own wx w11.heap.size 55 3 v ((legRows (lo - s) (sv - s)).take i)) (fun i' _ => 3 - (intOf i').toNat)
          case atStart => exact ⟨0, .slice none 0 0, by omega, rfl, HSt.out, HBr.out, Own.nil _ _ _ _⟩
          case round =>
            clear HSt HBr
            obtain ⟨i, v, hi, rfl, hst, hbx, hown⟩ := hrel
            obtain ⟨wx, hwx, hst⟩ := hst.named
            subst hwx
            have HSt := Lib.hid hst
            have HBr := Lib.hid hbx
            have HOw := Lib.hid hown
            clear hst hbx hown
            by_cases hi3 : i < 3
            · obtain ⟨x, y, hx, hy, hrow⟩ := legRows_at (m := lo - s) (n := sv - s) hi3
              have HRow := Lib.hid hrow
              obtain ⟨pa, oa, rfl, hCa⟩ := RowAt.at (k := i) HA.out hi3
              obtain ⟨pb, ob, rfl, hCb⟩ := RowAt.at (k := i) HB.out hi3
              have za := block_lt_of_cell (cells_one (f := fun n : Int => Value.int .i64 n) hCa hx)
              have zb := block_lt_of_cell (cells_one (f := fun n : Int => Value.int .i64 n) hCb hy)
              obtain ⟨pa2, oa2, ep, hCa2⟩ := RowAt.at (k := i) HSt.out.A hi3
              cases ep
              obtain ⟨pb2, ob2, ep, hCb2⟩ := RowAt.at (k := i) HSt.out.B hi3
              cases ep
              have ea := cells_one (f := fun n : Int => Value.int .i64 n) hCa2 hx
              have eb := cells_one (f := fun n : Int => Value.int .i64 n) hCb2 hy
              obtain ⟨va, vc, rfl, hvle, -⟩ := HOw.out.row
              have hvl : ((legRows (lo - s) (sv - s)).take i).length = i := by rw [List.length_take]; simp [legRows, Cp.cpRt]; omega
              rw [hvl] at HOw HBr
              have HSS : Hid (∀ B, Below w11.heap.size wx B → B.cell? ⟨bs + 1 + 1, 1, none⟩ = some (.slice (some ⟨bs + 1, 0, none⟩) 1 1) ∧ B.cell? ⟨pa, oa + i, none⟩ = some (.int .i64 x) ∧ B.cell? ⟨pb, ob + i, none⟩ = some (.int .i64 y)) := fun B hb => by
                exact ⟨(World.cell?_of_block (hb.block (bs + 1 + 1) hbp)).trans ((HSt.out.P.cell 1).trans rfl), (World.cell?_of_block (hb.block pa za)).trans ea, (World.cell?_of_block (hb.block pb zb)).trans eb⟩
              have r1 : (0 : Int) ≤ (i : Int) := by omega
              have r2 : (i : Int) < 3 := by omega
              have cbr : wx.cell? ⟨bs + 1, 0, none⟩ = some (.slice va i vc) := (HBr.out.cell 0).trans rfl
              have tbr := HBr.out.lt
              clear hx hy hrow hCa hCb hCa2 hCb2 ea eb hvl
              go_upto_region 23 with fail
              refine wp_region_noPanic ?_
              refine wp_region_held_drew (S := (fun B : World => B.cell? ⟨bs + 1 + 1, 1, none⟩ = some (.slice (some ⟨bs + 1, 0, none⟩) 1 1) ∧ B.cell? ⟨pa, oa + i, none⟩ = some (.int .i64 x) ∧ B.cell? ⟨pb, ob + i, none⟩ = some (.int .i64 y))) (by kernel_rfl) (by (try dsimp only); exact HSS.out _ ((show Below wx.heap.size wx _ from (by repeat (first | exact Below.refl _ _ | refine al ?_ _ | refine Below.drew ?_ | refine sc ?_ (by simp) _))).mono HSt.out.L)) (fun hHeld => ?_)
              refine wpAnyH_take (i := 0) (oi := _) (v := ?_) rfl (by kernel_rfl) (by kernel_rfl) (by kernel_rfl) (fun _ _ _ h => h) (Or.inl ⟨by rfl, ?_⟩) (by assumption) ?_
              rotate_left
              · (intro w hSw; (try dsimp only at hSw); go_simp; try with_reducible rfl)
              (try dsimp only); (try simp only [Act.put]); (try simp only [List.setIfInBounds_toArray]); (try simp only [List.set_cons_succ]); (try simp only [List.set_cons_zero])
              refine wpAnyH_take (i := 1) (oi := _) (v := ?_) rfl (by kernel_rfl) (by kernel_rfl) (by kernel_rfl) (fun _ _ _ h => h) (Or.inl ⟨by rfl, ?_⟩) (by assumption) ?_
              rotate_left
              · (intro w hSw; (try dsimp only at hSw); go_simp; try with_reducible rfl)
              (try dsimp only); (try simp only [Act.put]); (try simp only [List.setIfInBounds_toArray]); (try simp only [List.set_cons_succ]); (try simp only [List.set_cons_zero])
              refine wpAnyH_take (i := 2) (oi := _) (v := ?_) rfl (by kernel_rfl) (by kernel_rfl) (by kernel_rfl) (fun _ _ _ h => h) (Or.inl ⟨by rfl, ?_⟩) (by assumption) ?_
              rotate_left
              · (intro w hSw; (try dsimp only at hSw); go_simp; try with_reducible rfl)
              (try dsimp only); (try simp only [Act.put]); (try simp only [List.setIfInBounds_toArray]); (try simp only [List.set_cons_succ]); (try simp only [List.set_cons_zero])
              refine wpAnyH_take (i := 3) (oi := _) (v := ?_) rfl (by kernel_rfl) (by kernel_rfl) (by kernel_rfl) (fun _ _ _ h => h) (Or.inl ⟨by rfl, ?_⟩) (by assumption) ?_
              rotate_left
              · (intro w hSw; (try dsimp only at hSw); go_simp; try with_reducible rfl)
              (try dsimp only); (try simp only [Act.put]); (try simp only [List.setIfInBounds_toArray]); (try simp only [List.set_cons_succ]); (try simp only [List.set_cons_zero])
              refine wpAnyH_take (i := 4) (oi := _) (v := ?_) rfl (by kernel_rfl) (by kernel_rfl) (by kernel_rfl) (fun _ _ _ h => h) (Or.inl ⟨by rfl, ?_⟩) (by assumption) ?_
              rotate_left
              · (intro w hSw; (try dsimp only at hSw); go_simp; try with_reducible rfl)
              (try dsimp only); (try simp only [Act.put]); (try simp only [List.setIfInBounds_toArray]); (try simp only [List.set_cons_succ]); (try simp only [List.set_cons_zero])
              refine wpAnyH_take (i := 5) (oi := _) (v := ?_) rfl (by kernel_rfl) (by kernel_rfl) (by kernel_rfl) (fun _ _ _ h => h) (Or.inl ⟨by rfl, ?_⟩) (by assumption) ?_
              rotate_left
              · (intro w hSw; (try dsimp only at hSw); go_simp; try with_reducible rfl)
              (try dsimp only); (try simp only [Act.put]); (try simp only [List.setIfInBounds_toArray]); (try simp only [List.set_cons_succ]); (try simp only [List.set_cons_zero])
              refine wpAnyH_take (i := 7) (oi := _) (v := ?_) rfl (by kernel_rfl) (by kernel_rfl) (by kernel_rfl) (fun _ _ _ h => h) (Or.inl ⟨by rfl, ?_⟩) (by assumption) ?_
              rotate_left
              · (intro w hSw; (try dsimp only at hSw); go_simp; try with_reducible rfl)
              (try dsimp only); (try simp only [Act.put]); (try simp only [List.setIfInBounds_toArray]); (try simp only [List.set_cons_succ]); (try simp only [List.set_cons_zero])
              refine wpAnyH_take (i := 8) (oi := _) (v := ?_) rfl (by kernel_rfl) (by kernel_rfl) (by kernel_rfl) (fun _ _ _ h => h) (Or.inl ⟨by rfl, ?_⟩) (by assumption) ?_
              rotate_left
              · (intro w hSw; (try dsimp only at hSw); go_simp; try with_reducible rfl)
              (try dsimp only); (try simp only [Act.put]); (try simp only [List.setIfInBounds_toArray]); (try simp only [List.set_cons_succ]); (try simp only [List.set_cons_zero])
              refine wpAnyH_take (i := 9) (oi := _) (v := ?_) rfl (by kernel_rfl) (by kernel_rfl) (by kernel_rfl) (fun _ _ _ h => h) (Or.inl ⟨by rfl, ?_⟩) (by assumption) ?_
              rotate_left
              · (intro w hSw; (try dsimp only at hSw); go_simp; try with_reducible rfl)
              (try dsimp only); (try simp only [Act.put]); (try simp only [List.setIfInBounds_toArray]); (try simp only [List.set_cons_succ]); (try simp only [List.set_cons_zero])
              refine wpAnyH_take (i := 10) (oi := _) (v := ?_) rfl (by kernel_rfl) (by kernel_rfl) (by kernel_rfl) (fun _ _ _ h => h) (Or.inl ⟨by rfl, ?_⟩) (by assumption) ?_
              rotate_left
              · (intro w hSw; (try dsimp only at hSw); go_simp; try with_reducible rfl)
              (try dsimp only); (try simp only [Act.put]); (try simp only [List.setIfInBounds_toArray]); (try simp only [List.set_cons_succ]); (try simp only [List.set_cons_zero])
              refine wpAnyH_take (i := 11) (oi := _) (v := ?_) rfl (by kernel_rfl) (by kernel_rfl) (by kernel_rfl) (fun _ _ _ h => h) (Or.inl ⟨by rfl, ?_⟩) (by assumption) ?_
              rotate_left
              · (intro w hSw; (try dsimp only at hSw); go_simp; try with_reducible rfl)
              (try dsimp only); (try simp only [Act.put]); (try simp only [List.setIfInBounds_toArray]); (try simp only [List.set_cons_succ]); (try simp only [List.set_cons_zero])
              refine wpAnyH_take (i := 12) (oi := _) (v := ?_) rfl (by kernel_rfl) (by kernel_rfl) (by kernel_rfl) (fun _ _ _ h => h) (Or.inl ⟨by rfl, ?_⟩) (by assumption) ?_
              rotate_left
              · (intro w hSw; (try dsimp only at hSw); go_simp; try with_reducible rfl)
              (try dsimp only); (try simp only [Act.put]); (try simp only [List.setIfInBounds_toArray]); (try simp only [List.set_cons_succ]); (try simp only [List.set_cons_zero])
              refine wpAnyH_take (i := 13) (oi := _) (v := ?_) rfl (by kernel_rfl) (by kernel_rfl) (by kernel_rfl) (fun _ _ _ h => h) (Or.inl ⟨by rfl, ?_⟩) (by assumption) ?_
              rotate_left
              · (intro w hSw; (try dsimp only at hSw); go_simp; try with_reducible rfl)
              (try dsimp only); (try simp only [Act.put]); (try simp only [List.setIfInBounds_toArray]); (try simp only [List.set_cons_succ]); (try simp only [List.set_cons_zero])
              refine wpAnyH_take (i := 14) (oi := _) (v := ?_) rfl (by kernel_rfl) (by kernel_rfl) (by kernel_rfl) (fun _ _ _ h => h) (Or.inl ⟨by rfl, ?_⟩) (by assumption) ?_
              rotate_left
              · (intro w hSw; (try dsimp only at hSw); go_simp; try with_reducible rfl)
              (try dsimp only); (try simp only [Act.put]); (try simp only [List.setIfInBounds_toArray]); (try simp only [List.set_cons_succ]); (try simp only [List.set_cons_zero])
              refine wpAnyH_take (i := 15) (oi := _) (v := ?_) rfl (by kernel_rfl) (by kernel_rfl) (by kernel_rfl) (fun _ _ _ h => h) (Or.inl ⟨by rfl, ?_⟩) (by assumption) ?_
              rotate_left
              · (intro w hSw; (try dsimp only at hSw); go_simp; try with_reducible rfl)
              (try dsimp only); (try simp only [Act.put]); (try simp only [List.setIfInBounds_toArray]); (try simp only [List.set_cons_succ]); (try simp only [List.set_cons_zero])
              refine wpAnyH_take (i := 16) (oi := _) (v := ?_) rfl (by kernel_rfl) (by kernel_rfl) (by kernel_rfl) (fun _ _ _ h => h) (Or.inl ⟨by rfl, ?_⟩) (by assumption) ?_
              rotate_left
              · (intro w hSw; (try dsimp only at hSw); go_simp; try with_reducible rfl)
              (try dsimp only); (try simp only [Act.put]); (try simp only [List.setIfInBounds_toArray]); (try simp only [List.set_cons_succ]); (try simp only [List.set_cons_zero])
              refine wpAnyH_ready (rs := [6, 17]) (by kernel_rfl) (by simp) ?_
              refine AllReadyH.cons (o := _) rfl (fun K hK => ?_) (AllReadyH.cons (o := _) rfl (fun K hK => ?_) AllReadyH.nil)
              · go_simp
                refine hK.out _ _ (by (try dsimp only); exact HSS.out _ ((show Below wx.heap.size wx _ from (by repeat (first | exact Below.refl _ _ | refine al ?_ _ | refine Below.drew ?_ | refine sc ?_ (by simp) _))).mono HSt.out.L)) (fun hHeld => ?_)
                clear hK K
                (try dsimp only); (try simp only [Act.put]); (try simp only [List.setIfInBounds_toArray]); (try simp only [List.set_cons_succ]); (try simp only [List.set_cons_zero])
                refine wpAnyH_ready (rs := [17]) (by kernel_rfl) (by simp) ?_
                refine AllReadyH.cons (o := _) rfl (fun K hK => ?_) AllReadyH.nil
                go_simp
                refine hK.out _ _ (by (try dsimp only); exact HSS.out _ ((show Below wx.heap.size wx _ from (by repeat (first | exact Below.refl _ _ | refine al ?_ _ | refine Below.drew ?_ | refine sc ?_ (by simp) _))).mono HSt.out.L)) (fun hHeld => ?_)
                clear hK K
                (try dsimp only); (try simp only [Act.put]); (try simp only [List.setIfInBounds_toArray]); (try simp only [List.set_cons_succ]); (try simp only [List.set_cons_zero])
                refine wpAnyH_ready (rs := [18]) (by kernel_rfl) (by simp) ?_
                refine AllReadyH.cons (o := _) rfl (fun K hK => ?_) AllReadyH.nil
                refine step_grow rfl (.tmp 161) (.tmp 172) 44 (by rfl) elem_rlg (by rfl) (HOw.out.later (show Below wx.heap.size wx _ from (by repeat (first | exact Below.refl _ _ | refine al ?_ _ | refine Below.drew ?_ | refine sc ?_ (by simp) _)))) (by rfl) (Box.newAt _ _ rfl) rfl (by decide) rfl (n := i) (by rw [List.length_take]; simp [legRows, Cp.cpRt]; omega) (by omega) (by decide) (by simp; have := HSt.out.L; omega) ?_
                intro a18 c18 W18 hO18 hb18
                have HB18 := Lib.hid (show Below w11.heap.size wx W18 from ((show Below wx.heap.size wx _ from (by repeat (first | exact Below.refl _ _ | refine al ?_ _ | refine Below.drew ?_ | refine sc ?_ (by simp) _))).mono HSt.out.L).trans hb18)
                have HO18 := Lib.hid hO18
                clear hO18 hb18
                refine hK.out _ _ (by (try dsimp only); exact HSS.out _ HB18.out) (fun hHeld => ?_)
                clear hK K
                (try dsimp only); (try simp only [Act.put]); (try simp only [List.setIfInBounds_toArray]); (try simp only [List.set_cons_succ]); (try simp only [List.set_cons_zero])
                refine wpAnyH_take (i := 19) (oi := _) (v := ?_) rfl (by kernel_rfl) (by kernel_rfl) (by kernel_rfl) (fun _ _ _ h => h) (Or.inl ⟨by rfl, ?_⟩) (by assumption) ?_
                rotate_left
                · (intro w hSw; (try dsimp only at hSw); go_simp; try with_reducible rfl)
                (try dsimp only); (try simp only [Act.put]); (try simp only [List.setIfInBounds_toArray]); (try simp only [List.set_cons_succ]); (try simp only [List.set_cons_zero])
                refine wpAnyH_take (i := 20) (oi := _) (v := ?_) rfl (by kernel_rfl) (by kernel_rfl) (by kernel_rfl) (fun _ _ _ h => h) (Or.inl ⟨by rfl, ?_⟩) (by assumption) ?_
                rotate_left
                · (intro w hSw; (try dsimp only at hSw); go_simp; try with_reducible rfl)
                (try dsimp only); (try simp only [Act.put]); (try simp only [List.setIfInBounds_toArray]); (try simp only [List.set_cons_succ]); (try simp only [List.set_cons_zero])
                have hBr18 : Box W18 (bs + 1) #[.slice va i vc, .bool false] 46 := (HB18.out.block (bs + 1) (by omega)).trans HBr.out
                have cg : W18.cell? ⟨bs + 1, 0, none⟩ = some (.slice va i vc) := (hBr18.cell 0).trans rfl
                have fg : W18.frozen? ⟨bs + 1, 0, none⟩ = false := hBr18.frozen 0
                have tg := hBr18.lt
                have HBr18 := Lib.hid hBr18
                have HStep : Hid (∀ u, (W18.setCell ⟨bs + 1, 0, none⟩ u).cell? ⟨bs + 1 + 1, 1, none⟩ = some (.slice (some ⟨bs + 1, 0, none⟩) 1 1) ∧ (W18.setCell ⟨bs + 1, 0, none⟩ u).cell? ⟨pa, oa + i, none⟩ = some (.int .i64 x) ∧ (W18.setCell ⟨bs + 1, 0, none⟩ u).cell? ⟨pb, ob + i, none⟩ = some (.int .i64 y)) := fun u => by
                  obtain ⟨h1, h2, h3⟩ := HSS.out _ HB18.out
                  have hne : ∀ p o n, W18.cell? ⟨p, o, none⟩ = some (Value.int .i64 n) → p ≠ bs + 1 := fun p o n hc e => by
                    subst e
                    rw [HBr18.out.cell] at hc
                    rcases o with _ | _ | o
                    · simp at hc
                    · simp at hc
                    · simp at hc
                  have c : ∀ p o, p ≠ bs + 1 → (W18.setCell ⟨bs + 1, 0, none⟩ u).cell? ⟨p, o, none⟩ = W18.cell? ⟨p, o, none⟩ := fun p o h => World.cell?_of_block ((setCell_but W18 (bs + 1) 0 u).block p h)
                  exact ⟨(c _ _ (by omega)).trans h1, (c _ _ (hne _ _ _ h2)).trans h2, (c _ _ (hne _ _ _ h3)).trans h3⟩
                clear hBr18
                refine wpAnyH_ready (rs := [21]) (by kernel_rfl) (by simp) ?_
                refine AllReadyH.cons (o := _) rfl (fun K hK => ?_) AllReadyH.nil
                go_simp
                refine hK.out _ _ (by (try dsimp only); exact HStep.out _) (fun hHeld => ?_)
                clear hK K
                (try dsimp only); (try simp only [Act.put]); (try simp only [List.setIfInBounds_toArray]); (try simp only [List.set_cons_succ]); (try simp only [List.set_cons_zero])
                refine wpAnyH_done (by kernel_rfl) ?_ _
                refine NoPanic.normal ?_
                repeat (clear hHeld)
                clear cg fg tg HStep HSS cbr tbr
                go_wp2_with fail
                go_roundw
                case rel =>
                  have but1 := setCell_but W18 (bs + 1) 0 (.slice a18 (i + 1) c18)
                  refine ⟨i + 1, .slice a18 (i + 1) c18, by omega, by go_num, HSt.out.step HB18.out HA.out HB.out HHr.out HBr18.out (fun k => by simp) but1 hbp hwb (by omega), setCell_box HBr18.out 0 _, ?_⟩
                  rw [HRow.out]
                  exact HO18.out.but but1 (by omega)
                case measure => simp [intOf]; omega
              · go_simp
                refine hK.out _ _ (by (try dsimp only); exact HSS.out _ ((show Below wx.heap.size wx _ from (by repeat (first | exact Below.refl _ _ | refine al ?_ _ | refine Below.drew ?_ | refine sc ?_ (by simp) _))).mono HSt.out.L)) (fun hHeld => ?_)
                clear hK K
                (try dsimp only); (try simp only [Act.put]); (try simp only [List.setIfInBounds_toArray]); (try simp only [List.set_cons_succ]); (try simp only [List.set_cons_zero])
                refine wpAnyH_ready (rs := [6]) (by kernel_rfl) (by simp) ?_
                refine AllReadyH.cons (o := _) rfl (fun K hK => ?_) AllReadyH.nil
                go_simp
                refine hK.out _ _ (by (try dsimp only); exact HSS.out _ ((show Below wx.heap.size wx _ from (by repeat (first | exact Below.refl _ _ | refine al ?_ _ | refine Below.drew ?_ | refine sc ?_ (by simp) _))).mono HSt.out.L)) (fun hHeld => ?_)
                clear hK K
                (try dsimp only); (try simp only [Act.put]); (try simp only [List.setIfInBounds_toArray]); (try simp only [List.set_cons_succ]); (try simp only [List.set_cons_zero])
                refine wpAnyH_ready (rs := [18]) (by kernel_rfl) (by simp) ?_
                refine AllReadyH.cons (o := _) rfl (fun K hK => ?_) AllReadyH.nil
                refine step_grow rfl (.tmp 161) (.tmp 172) 44 (by rfl) elem_rlg (by rfl) (HOw.out.later (show Below wx.heap.size wx _ from (by repeat (first | exact Below.refl _ _ | refine al ?_ _ | refine Below.drew ?_ | refine sc ?_ (by simp) _)))) (by rfl) (Box.newAt _ _ rfl) rfl (by decide) rfl (n := i) (by rw [List.length_take]; simp [legRows, Cp.cpRt]; omega) (by omega) (by decide) (by simp; have := HSt.out.L; omega) ?_
                intro a18 c18 W18 hO18 hb18
                have HB18 := Lib.hid (show Below w11.heap.size wx W18 from ((show Below wx.heap.size wx _ from (by repeat (first | exact Below.refl _ _ | refine al ?_ _ | refine Below.drew ?_ | refine sc ?_ (by simp) _))).mono HSt.out.L).trans hb18)
                have HO18 := Lib.hid hO18
                clear hO18 hb18
                refine hK.out _ _ (by (try dsimp only); exact HSS.out _ HB18.out) (fun hHeld => ?_)
                clear hK K
                (try dsimp only); (try simp only [Act.put]); (try simp only [List.setIfInBounds_toArray]); (try simp only [List.set_cons_succ]); (try simp only [List.set_cons_zero])
                refine wpAnyH_take (i := 19) (oi := _) (v := ?_) rfl (by kernel_rfl) (by kernel_rfl) (by kernel_rfl) (fun _ _ _ h => h) (Or.inl ⟨by rfl, ?_⟩) (by assumption) ?_
                rotate_left
                · (intro w hSw; (try dsimp only at hSw); go_simp; try with_reducible rfl)
                (try dsimp only); (try simp only [Act.put]); (try simp only [List.setIfInBounds_toArray]); (try simp only [List.set_cons_succ]); (try simp only [List.set_cons_zero])
                refine wpAnyH_take (i := 20) (oi := _) (v := ?_) rfl (by kernel_rfl) (by kernel_rfl) (by kernel_rfl) (fun _ _ _ h => h) (Or.inl ⟨by rfl, ?_⟩) (by assumption) ?_
                rotate_left
                · (intro w hSw; (try dsimp only at hSw); go_simp; try with_reducible rfl)
                (try dsimp only); (try simp only [Act.put]); (try simp only [List.setIfInBounds_toArray]); (try simp only [List.set_cons_succ]); (try simp only [List.set_cons_zero])
                have hBr18 : Box W18 (bs + 1) #[.slice va i vc, .bool false] 46 := (HB18.out.block (bs + 1) (by omega)).trans HBr.out
                have cg : W18.cell? ⟨bs + 1, 0, none⟩ = some (.slice va i vc) := (hBr18.cell 0).trans rfl
                have fg : W18.frozen? ⟨bs + 1, 0, none⟩ = false := hBr18.frozen 0
                have tg := hBr18.lt
                have HBr18 := Lib.hid hBr18
                have HStep : Hid (∀ u, (W18.setCell ⟨bs + 1, 0, none⟩ u).cell? ⟨bs + 1 + 1, 1, none⟩ = some (.slice (some ⟨bs + 1, 0, none⟩) 1 1) ∧ (W18.setCell ⟨bs + 1, 0, none⟩ u).cell? ⟨pa, oa + i, none⟩ = some (.int .i64 x) ∧ (W18.setCell ⟨bs + 1, 0, none⟩ u).cell? ⟨pb, ob + i, none⟩ = some (.int .i64 y)) := fun u => by
                  obtain ⟨h1, h2, h3⟩ := HSS.out _ HB18.out
                  have hne : ∀ p o n, W18.cell? ⟨p, o, none⟩ = some (Value.int .i64 n) → p ≠ bs + 1 := fun p o n hc e => by
                    subst e
                    rw [HBr18.out.cell] at hc
                    rcases o with _ | _ | o
                    · simp at hc
                    · simp at hc
                    · simp at hc
                  have c : ∀ p o, p ≠ bs + 1 → (W18.setCell ⟨bs + 1, 0, none⟩ u).cell? ⟨p, o, none⟩ = W18.cell? ⟨p, o, none⟩ := fun p o h => World.cell?_of_block ((setCell_but W18 (bs + 1) 0 u).block p h)
                  exact ⟨(c _ _ (by omega)).trans h1, (c _ _ (hne _ _ _ h2)).trans h2, (c _ _ (hne _ _ _ h3)).trans h3⟩
                clear hBr18
                refine wpAnyH_ready (rs := [21]) (by kernel_rfl) (by simp) ?_
                refine AllReadyH.cons (o := _) rfl (fun K hK => ?_) AllReadyH.nil
                go_simp
                refine hK.out _ _ (by (try dsimp only); exact HStep.out _) (fun hHeld => ?_)
                clear hK K
                (try dsimp only); (try simp only [Act.put]); (try simp only [List.setIfInBounds_toArray]); (try simp only [List.set_cons_succ]); (try simp only [List.set_cons_zero])
                refine wpAnyH_done (by kernel_rfl) ?_ _
                refine NoPanic.normal ?_
                repeat (clear hHeld)
                clear cg fg tg HStep HSS cbr tbr
                go_wp2_with fail
                go_roundw
                case rel =>
                  have but1 := setCell_but W18 (bs + 1) 0 (.slice a18 (i + 1) c18)
                  refine ⟨i + 1, .slice a18 (i + 1) c18, by omega, by go_num, HSt.out.step HB18.out HA.out HB.out HHr.out HBr18.out (fun k => by simp) but1 hbp hwb (by omega), setCell_box HBr18.out 0 _, ?_⟩
                  rw [HRow.out]
                  exact HO18.out.but but1 (by omega)
                case measure => simp [intOf]; omega
            · obtain rfl : i = 3 := by omega
              obtain ⟨va, vc, rfl, _, hLr⟩ := HOw.out.row
              have hP : Cp.PostAt wx (cpV bs va vc (lo - s) (sv - s)) (Cp.cpPs s pat (lo - s) (sv - s)) := cpV_at HSt.out.S HBr.out hLr
              have hT : Cp.Thin5 (cpV bs va vc (lo - s) (sv - s)) (Cp.cpPs s pat (lo - s) (sv - s)) := cpV_thin
              obtain ⟨qP, hqP⟩ : ∃ qP : Cp.PV, qP = cpV bs va vc (lo - s) (sv - s) := ⟨_, rfl⟩
              have BP : Box wx (bs + 1 + 1) #[.slice qP.a1 1 qP.c1, .slice qP.a2 1 qP.c2, .int .i64 pat] 49 := by rw [hqP]; exact HSt.out.P
              rw [← hqP] at hP hT
              have HP := Lib.hid hP
              have HT := Lib.hid hT
              have hql : qP.rs.length = 1 := by rw [hqP]; rfl
              have HQl := Lib.hid hql
              have HH := Lib.hid HSt.out.H
              have hW := HSt.out.W
              have HOk := Lib.hid (Cp.cp_ok (s := s) (pat := pat) (m := lo - s) (n := sv - s) (by omega) (by omega) (by omega) (by omega) hp0)
              clear hqP hP hT hql hLr HOw HBr HSt HA HB HHr hi hi3
              have HBP := Lib.hid BP
              have HPost : Hid (∀ W, Below wx.heap.size wx W → Calls Tryz.prog 12 #[.agg #[.slice qP.a1 1 qP.c1, .slice qP.a2 1 qP.c2, .int .i64 pat]] W (Cp.RetPost (Cp.cpPs s pat (lo - s) (sv - s)) W)) := fun W hb => by
                have h := Cp.post5_any qP (Cp.cpPs s pat (lo - s) (sv - s)) W (HP.out.later hb) HT.out
                rw [show Cp.postV qP (Cp.cpPs s pat (lo - s) (sv - s)) = .agg #[.slice qP.a1 1 qP.c1, .slice qP.a2 qP.rs.length qP.c2, .int .i64 pat] from rfl, HQl.out] at h
                exact h
              obtain ⟨xl, hxl⟩ : ∃ xl : Int, xl = if (s : Int) + pat < lo then (s : Int) + pat else lo := ⟨_, rfl⟩
              obtain ⟨xh, hxh⟩ : ∃ xh : Int, xh = if (s : Int) + pat < sv then (s : Int) + pat else sv := ⟨_, rfl⟩
              obtain ⟨ml, hml⟩ : ∃ ml : Nat, ml = if sv ≤ (s : Int) + pat then 1 else 0 := ⟨_, rfl⟩
              have HSp : Hid (∀ W q', Cp.PostAt W q' (Cp.cpPs s pat (lo - s) (sv - s)) → Calls Tryz.prog 11 #[Cp.postV q' (Cp.cpPs s pat (lo - s) (sv - s))] W (Cp.RetSpan xl xh W)) := fun W q' h => by
                have h1 := Cp.Spans1_any q' _ _ s W h HOk.out Cp.cp_one
                rw [show Cp.lowF (Cp.cpPs s pat (lo - s) (sv - s)) (Cp.cpRt (lo - s) (sv - s)) s = xl by unfold Cp.lowF; rw [Cp.cp_lo, hxl]; show max 0 (min ((s : Int) + (lo - s)) (s + pat)) = _; split <;> omega,
                  show Cp.highF (Cp.cpPs s pat (lo - s) (sv - s)) (Cp.cpRt (lo - s) (sv - s)) s = xh by unfold Cp.highF; rw [Cp.cp_hi, hxh]; show max 0 (min ((s : Int) + (sv - s)) (s + pat)) = _; split <;> omega] at h1
                exact h1
              have HSr : Hid (∀ W q', Cp.PostAt W q' (Cp.cpPs s pat (lo - s) (sv - s)) → Calls Tryz.prog 13 #[Cp.postV q' (Cp.cpPs s pat (lo - s) (sv - s))] W (Cp.RetMany ml W)) := fun W q' h => by
                have h1 := Cp.Surely1_any q' _ _ s W h HOk.out Cp.cp_one
                rw [Cp.cp_hi, show (s : Int) + (sv - s) = sv by omega] at h1
                rw [hml]; exact h1
              have HLs : Hid (∀ W q', Cp.PostAt W q' (Cp.cpPs s pat (lo - s) (sv - s)) → Calls Tryz.prog 14 #[Cp.postV q' (Cp.cpPs s pat (lo - s) (sv - s))] W (Ret (.tuple #[.int .i64 (sv - s), .int .i64 0]) W)) := fun W q' h => by
                have h1 := Cp.Least1_any q' _ _ s W h HOk.out Cp.cp_one
                rw [Cp.cp_hi, show (s : Int) + (sv - s) - s = sv - s by omega] at h1
                exact h1
              have HXl := Lib.hid hxl
              have HXh := Lib.hid hxh
              have HMl := Lib.hid hml
              have hX := Below.refl wx.heap.size wx
              clear hxl hxh hml
              have cP := BP.cell; have tP := BP.lt
              go_wp2_with fail
              refine (HPost.out wx hX).mono ?_
              rintro e w12 ⟨q12, rfl, hb12, hp12, -⟩
              replace hX := over hX hb12
              replace hW := over hW hb12
              replace HH := Lib.hid (HH.out.later hb12)
              (try clear cP tP); replace BP := BP.later hb12; have cP := BP.cell; have tP := BP.lt
              clear hb12
              go_wp2_with fail
              refine (HSp.out w12 q12 hp12).mono ?_
              rintro e w13 ⟨xa, xc, rfl, hb13, hr13⟩
              have HR := Lib.hid hr13
              replace hX := over hX hb13
              replace hW := over hW hb13
              replace HH := Lib.hid (HH.out.later hb13)
              (try clear cP tP); replace BP := BP.later hb13; have cP := BP.cell; have tP := BP.lt
              clear hb13
              clear hp12 hr13 HSp
              go_wp2_with fail
              refine (HPost.out w13 hX).mono ?_
              rintro e w14 ⟨q14, rfl, hb14, hp14, -⟩
              replace HR := Lib.hid (HR.out.later hb14)
              replace hX := over hX hb14
              replace hW := over hW hb14
              replace HH := Lib.hid (HH.out.later hb14)
              (try clear cP tP); replace BP := BP.later hb14; have cP := BP.cell; have tP := BP.lt
              clear hb14
              go_wp2_with fail
              refine (HSr.out w14 q14 hp14).mono ?_
              rintro e w15 ⟨ya, yc, rfl, hb15⟩
              replace HR := Lib.hid (HR.out.later hb15)
              replace hX := over hX hb15
              replace hW := over hW hb15
              replace HH := Lib.hid (HH.out.later hb15)
              (try clear cP tP); replace BP := BP.later hb15; have cP := BP.cell; have tP := BP.lt
              clear hb15
              clear hp14 HSr
              go_wp2_with fail
              refine (HPost.out w15 hX).mono ?_
              rintro e w16 ⟨q16, rfl, hb16, hp16, -⟩
              replace HR := Lib.hid (HR.out.later hb16)
              replace hX := over hX hb16
              replace hW := over hW hb16
              replace HH := Lib.hid (HH.out.later hb16)
              (try clear cP tP); replace BP := BP.later hb16; have cP := BP.cell; have tP := BP.lt
              clear hb16
              go_wp2_with fail
              refine (HLs.out w16 q16 hp16).mono ?_
              rintro e w17 ⟨rfl, hb17⟩
              replace HR := Lib.hid (HR.out.later hb17)
              replace hX := over hX hb17
              replace hW := over hW hb17
              replace HH := Lib.hid (HH.out.later hb17)
              (try clear cP tP); replace BP := BP.later hb17; have cP := BP.cell; have tP := BP.lt
              clear hb17
              clear hp16 HLs
              obtain ⟨px, ox, rfl, hCx⟩ : ∃ px ox, xa = some (⟨px, ox, none⟩ : Addr) ∧ Cells w17 px ox 2 [[.int .i64 xl, .int .i64 xh]] := by
                rcases HR.out with h | h
                · cases h
                · exact h
              have f0 := hCx 0 _ rfl 0 _ rfl
              have f1 := hCx 0 _ rfl 1 _ rfl
              simp only [Nat.zero_mul, Nat.add_zero] at f0 f1
              have z0 := block_lt_of_cell f0
              clear hCx
              go_upto_region 28 with fail
              go_cut [248] (fun v wy => v = .bool false ∧ wy = w17)
              case first =>
                have hxl := HXl.out
                have hxh := HXh.out
                have hml := HMl.out
                by_cases c2 : (s : Int) + pat < sv
                · rw [if_pos c2] at hxh
                  rw [if_neg (show ¬ sv ≤ (s : Int) + pat by omega)] at hml
                  subst hxh hml
                  have d2 : decide (sv ≤ (s : Int) + pat) = false := by simp; omega
                  by_cases c1 : (s : Int) + pat < lo
                  · rw [if_pos c1] at hxl
                    subst hxl
                    go_wp2_with fail
                    go_meet
                    exact ⟨by simp, rfl⟩
                  · rw [if_neg c1] at hxl
                    subst hxl
                    go_wp2_with fail
                    go_meet
                    exact ⟨by simp, rfl⟩
                · rw [if_neg c2] at hxh
                  rw [if_pos (show sv ≤ (s : Int) + pat by omega)] at hml
                  subst hxh hml
                  have d2 : decide (xh ≤ (s : Int) + pat) = true := by simp; omega
                  have c1 : ¬ (s : Int) + pat < lo := by omega
                  rw [if_neg c1] at hxl
                  subst hxl
                  go_wp2_with fail
                  go_meet
                  exact ⟨by simp, rfl⟩
              case rest =>
               as_aux_lemma =>
                obtain ⟨rfl, rfl⟩ := hcut
                clear f0 f1 z0 HXl HXh HMl HR
                have HJ : Hid (∀ (W : World) (q' : Cp.PV) (a : Option Addr) (c : Nat) (vs : List Cp.TV) (h : Int), lo ≤ h → h ≤ sv → Cp.PostAt W q' (Cp.cpPs s pat (lo - s) (sv - s)) → Cp.TruthAt W a vs [[Cp.divI (h - s)]] → Calls Tryz.prog 15 #[Cp.postV q' (Cp.cpPs s pat (lo - s) (sv - s)), .slice a vs.length c] W (Cp.RetJ [⟨0, min h (s + pat), decide (s + pat < h)⟩] W)) := fun W q' a c vs h h1 h2 hq hT => by
                  have h3 := Cp.Play_any q' _ a c vs _ W hq HOk.out hT (Cp.cp_shaped (h := h - s) (by omega) (by omega) (by omega))
                  rw [Cp.cp_journal (by omega) (by omega) (by omega) (by omega), show (s : Int) + (h - s) = h by omega] at h3
                  exact h3
                have HSt2 := Lib.hid (HrSt.mk (w := w) (wx := wx) (bs := bs) hW hX HH.out BP)
                clear hW hX HH BP cP tP HOk HBP
                go_wp2_with fail
                go_loopw [34] (fun k' wy => ∃ k : Nat, k ≤ L.cs.length ∧ k' = .int .i64 k ∧ HrSt w wx bs ha hl qP pat wy) (fun k' _ => L.cs.length - (intOf k').toNat)
                case atStart => exact ⟨0, Nat.zero_le _, rfl, HSt2.out⟩
                case round =>
                 as_aux_lemma =>
                  clear HSt2
                  obtain ⟨k, hk, rfl, hst⟩ := hrel
                  obtain ⟨wy, hwy, hst2⟩ := hst.named
                  subst hwy
                  have HSt := Lib.hid hst2
                  clear hst hst2
                  by_cases hkt : k < L.cs.length
                  · have hkh : k < hl.length := by omega
                    obtain ⟨h, hh⟩ : ∃ h, hl[k]? = some h := ⟨_, List.getElem?_eq_getElem hkh⟩
                    have hab := HAll.out h (List.mem_of_getElem? hh)
                    obtain ⟨hba, hbb⟩ := hab
                    obtain ⟨ph, oh, rfl, hCh⟩ := RowAt.at (k := k) HSt.out.H hkh
                    have eh := cells_one (f := fun n : Int => Value.int .i64 n) hCh hh
                    have zh := block_lt_of_cell eh
                    have HSS : Hid (∀ B, Below wy.heap.size wy B → (∀ o, B.cell? ⟨bs + 1 + 1, o, none⟩ = (#[.slice qP.a1 1 qP.c1, .slice qP.a2 1 qP.c2, .int .i64 pat] : Array Value)[o]?) ∧ B.cell? ⟨ph, oh + k, none⟩ = some (.int .i64 h)) := fun B hb =>
                      ⟨fun o => (World.cell?_of_block (hb.block _ HSt.out.P.lt)).trans (HSt.out.P.cell o), (World.cell?_of_block (hb.block ph zh)).trans eh⟩
                    have r1 : (0 : Int) ≤ (k : Int) := by omega
                    have r2 : (k : Int) < (L.cs.length : Int) := by omega
                    have hz1 : IntKind.i64.wrap (h - (s : Int)) = h - s := IntWalk.i64_in _ (by omega)
                    clear hh hCh eh zh hkh
                    go_upto_region 33 with fail
                    refine wp_region_noPanic ?_
                    refine wp_region_held_drew (S := (fun B : World => (∀ o, B.cell? ⟨bs + 1 + 1, o, none⟩ = (#[.slice qP.a1 1 qP.c1, .slice qP.a2 1 qP.c2, .int .i64 pat] : Array Value)[o]?) ∧ B.cell? ⟨ph, oh + k, none⟩ = some (.int .i64 h))) (by kernel_rfl) (by (try dsimp only); exact HSS.out _ (by repeat (first | exact Below.refl _ _ | refine al ?_ _ | refine Below.drew ?_ | refine sc ?_ (by simp) _))) (fun hHeld => ?_)
                    refine wpAnyH_take (i := 0) (oi := _) (v := ?_) rfl (by kernel_rfl) (by kernel_rfl) (by kernel_rfl) (fun _ _ _ h => h) (Or.inl ⟨by rfl, ?_⟩) (by assumption) ?_
                    rotate_left
                    · (intro w hSw; (try dsimp only at hSw); go_simp; try with_reducible rfl)
                    (try simp only [List.getElem_toArray]); (try simp only [List.getElem_cons_succ]); (try simp only [List.getElem_cons_zero]); (try dsimp only); (try simp only [Act.put]); (try simp only [List.setIfInBounds_toArray]); (try simp only [List.set_cons_succ]); (try simp only [List.set_cons_zero])
                    refine wpAnyH_take (i := 2) (oi := _) (v := ?_) rfl (by kernel_rfl) (by kernel_rfl) (by kernel_rfl) (fun _ _ _ h => h) (Or.inl ⟨by rfl, ?_⟩) (by assumption) ?_
                    rotate_left
                    · (intro w hSw; (try dsimp only at hSw); go_simp; try with_reducible rfl)
                    (try simp only [List.getElem_toArray]); (try simp only [List.getElem_cons_succ]); (try simp only [List.getElem_cons_zero]); (try dsimp only); (try simp only [Act.put]); (try simp only [List.setIfInBounds_toArray]); (try simp only [List.set_cons_succ]); (try simp only [List.set_cons_zero])
                    refine wpAnyH_take (i := 3) (oi := _) (v := ?_) rfl (by kernel_rfl) (by kernel_rfl) (by kernel_rfl) (fun _ _ _ h => h) (Or.inl ⟨by rfl, ?_⟩) (by assumption) ?_
                    rotate_left
                    · (intro w hSw; (try dsimp only at hSw); go_simp; try with_reducible rfl)
                    (try simp only [List.getElem_toArray]); (try simp only [List.getElem_cons_succ]); (try simp only [List.getElem_cons_zero]); (try dsimp only); (try simp only [Act.put]); (try simp only [List.setIfInBounds_toArray]); (try simp only [List.set_cons_succ]); (try simp only [List.set_cons_zero])
                    refine wpAnyH_take (i := 4) (oi := _) (v := ?_) rfl (by kernel_rfl) (by kernel_rfl) (by kernel_rfl) (fun _ _ _ h => h) (Or.inl ⟨by rfl, ?_⟩) (by assumption) ?_
                    rotate_left
                    · (intro w hSw; (try dsimp only at hSw); go_simp; try with_reducible rfl)
                    (try simp only [List.getElem_toArray]); (try simp only [List.getElem_cons_succ]); (try simp only [List.getElem_cons_zero]); (try dsimp only); (try simp only [Act.put]); (try simp only [List.setIfInBounds_toArray]); (try simp only [List.set_cons_succ]); (try simp only [List.set_cons_zero])
                    refine wpAnyH_take (i := 5) (oi := _) (v := ?_) rfl (by kernel_rfl) (by kernel_rfl) (by kernel_rfl) (fun _ _ _ h => h) (Or.inl ⟨by rfl, ?_⟩) (by assumption) ?_
                    rotate_left
                    · (intro w hSw; (try dsimp only at hSw); go_simp; try with_reducible rfl)
                    (try simp only [List.getElem_toArray]); (try simp only [List.getElem_cons_succ]); (try simp only [List.getElem_cons_zero]); (try dsimp only); (try simp only [Act.put]); (try simp only [List.setIfInBounds_toArray]); (try simp only [List.set_cons_succ]); (try simp only [List.set_cons_zero])
                    refine wpAnyH_take (i := 6) (oi := _) (v := ?_) rfl (by kernel_rfl) (by kernel_rfl) (by kernel_rfl) (fun _ _ _ h => h) (Or.inl ⟨by rfl, ?_⟩) (by assumption) ?_
                    rotate_left
                    · (intro w hSw; (try dsimp only at hSw); go_simp; try with_reducible rfl)
                    (try simp only [List.getElem_toArray]); (try simp only [List.getElem_cons_succ]); (try simp only [List.getElem_cons_zero]); (try dsimp only); (try simp only [Act.put]); (try simp only [List.setIfInBounds_toArray]); (try simp only [List.set_cons_succ]); (try simp only [List.set_cons_zero])
                    refine wpAnyH_take (i := 7) (oi := _) (v := ?_) rfl (by kernel_rfl) (by kernel_rfl) (by kernel_rfl) (fun _ _ _ h => h) (Or.inl ⟨by rfl, ?_⟩) (by assumption) ?_
                    rotate_left
                    · (intro w hSw; (try dsimp only at hSw); go_simp; try with_reducible rfl)
                    (try simp only [List.getElem_toArray]); (try simp only [List.getElem_cons_succ]); (try simp only [List.getElem_cons_zero]); (try dsimp only); (try simp only [Act.put]); (try simp only [List.setIfInBounds_toArray]); (try simp only [List.set_cons_succ]); (try simp only [List.set_cons_zero])
                    try rw [hz1]
                    refine wpAnyH_ready (rs := [1]) (by kernel_rfl) (by simp) ?_
                    refine AllReadyH.cons (o := _) rfl (fun K hK => ?_) AllReadyH.nil
                    go_simp
                    refine (HPost.out _ (over HSt.out.X (show Below wy.heap.size wy _ from (by repeat (first | exact Below.refl _ _ | refine al ?_ _ | refine Below.drew ?_ | refine sc ?_ (by simp) _))))).mono ?_
                    rintro e wA ⟨qA, rfl, hbA, hpA, -⟩
                    have HbA := Lib.hid (over (show Below wy.heap.size wy _ from (by repeat (first | exact Below.refl _ _ | refine al ?_ _ | refine Below.drew ?_ | refine sc ?_ (by simp) _))) hbA)
                    have HpA := Lib.hid hpA
                    clear hbA hpA
                    refine hK.out _ _ (by (try dsimp only); exact HSS.out _ HbA.out) (fun hHeld => ?_)
                    clear hK K
                    (try dsimp only); (try simp only [Act.put]); (try simp only [List.setIfInBounds_toArray]); (try simp only [List.set_cons_succ]); (try simp only [List.set_cons_zero])
                    refine wpAnyH_ready (rs := [8]) (by kernel_rfl) (by simp) ?_
                    refine AllReadyH.cons (o := _) rfl (fun K hK => ?_) AllReadyH.nil
                    go_simp
                    (try rw [hz1])
                    with_reducible refine (Cp.divided_any (h - s) wA (by omega) (by omega)).mono ?_
                    rintro e wB ⟨da, rfl, hbB, hiB⟩
                    rw [show (Cp.divI (h - s)).length = 3 from rfl]
                    replace HpA := Lib.hid (HpA.out.later hbB)
                    replace HbA := Lib.hid (over HbA.out hbB)
                    have HiB := Lib.hid hiB
                    clear hbB hiB
                    refine hK.out _ _ (by (try dsimp only); exact HSS.out _ HbA.out) (fun hHeld => ?_)
                    clear hK K
                    (try dsimp only); (try simp only [Act.put]); (try simp only [List.setIfInBounds_toArray]); (try simp only [List.set_cons_succ]); (try simp only [List.set_cons_zero])
                    refine wpAnyH_ready (rs := [9]) (by kernel_rfl) (by simp) ?_
                    refine AllReadyH.cons (o := _) rfl (fun K hK => ?_) AllReadyH.nil
                    go_simp
                    refine hK.out _ _ (by (try dsimp only); exact HSS.out _ (over HbA.out (by repeat (first | exact Below.refl _ _ | refine al ?_ _ | refine Below.drew ?_ | refine sc ?_ (by simp) _)))) (fun hHeld => ?_)
                    clear hK K
                    (try dsimp only); (try simp only [Act.put]); (try simp only [List.setIfInBounds_toArray]); (try simp only [List.set_cons_succ]); (try simp only [List.set_cons_zero])
                    refine wpAnyH_ready (rs := [10]) (by kernel_rfl) (by simp) ?_
                    refine AllReadyH.cons (o := _) rfl (fun K hK => ?_) AllReadyH.nil
                    go_simp
                    refine hK.out _ _ (by (try dsimp only); exact HSS.out _ (over HbA.out (by repeat (first | exact Below.refl _ _ | refine al ?_ _ | refine Below.drew ?_ | refine sc ?_ (by simp) _)))) (fun hHeld => ?_)
                    clear hK K
                    (try dsimp only); (try simp only [Act.put]); (try simp only [List.setIfInBounds_toArray]); (try simp only [List.set_cons_succ]); (try simp only [List.set_cons_zero])
                    refine wpAnyH_ready (rs := [11]) (by kernel_rfl) (by simp) ?_
                    refine AllReadyH.cons (o := _) rfl (fun K hK => ?_) AllReadyH.nil
                    go_simp
                    refine named2 (p := fun W => Calls _ _ _ W _) ?_
                    intro wC hbC B1 B2
                    have HT : Hid (Cp.TruthAt wC (some ⟨wB.heap.size + 1, 0, none⟩) [⟨some ⟨wB.heap.size, 0, none⟩, 1, [⟨da, 3, Cp.divI (h - s)⟩]⟩] [[Cp.divI (h - s)]]) := by
                      refine ⟨Cp.row_box B2 rfl (by simp [Cp.TV.vs]), fun x hx => ?_, rfl⟩
                      simp only [List.mem_singleton] at hx
                      subst hx
                      refine ⟨Cp.row_box B1 rfl (by simp [Cp.IV.vs]), fun l hl => ?_⟩
                      simp only [List.mem_singleton] at hl
                      subst hl
                      exact RowAt.later HiB.out hbC
                    refine (HJ.out wC qA _ 1 _ h hba hbb (HpA.out.later hbC) HT.out).mono ?_
                    rintro e wD ⟨ja, jc, rfl, hbD, hjD⟩
                    have HbD := Lib.hid (over (over HbA.out hbC) hbD)
                    have HjD := Lib.hid hjD
                    clear hbC B1 B2 HT hbD hjD HbA HpA HiB
                    refine hK.out _ _ (by (try dsimp only); exact HSS.out _ HbD.out) (fun hHeld => ?_)
                    clear hK K
                    (try dsimp only); (try simp only [Act.put]); (try simp only [List.setIfInBounds_toArray]); (try simp only [List.set_cons_succ]); (try simp only [List.set_cons_zero])
                    refine wpAnyH_take (i := 12) (oi := _) (v := ?_) rfl (by kernel_rfl) (by kernel_rfl) (by kernel_rfl) (fun _ _ _ h => h) (Or.inl ⟨by rfl, ?_⟩) (by assumption) ?_
                    rotate_left
                    · (intro w hSw; (try dsimp only at hSw); go_simp; try with_reducible rfl)
                    (try simp only [List.getElem_toArray]); (try simp only [List.getElem_cons_succ]); (try simp only [List.getElem_cons_zero]); (try dsimp only); (try simp only [Act.put]); (try simp only [List.setIfInBounds_toArray]); (try simp only [List.set_cons_succ]); (try simp only [List.set_cons_zero])
                    refine wpAnyH_take (i := 13) (oi := _) (v := ?_) rfl (by kernel_rfl) (by kernel_rfl) (by kernel_rfl) (fun _ _ _ h => h) (Or.inl ⟨by rfl, ?_⟩) (by assumption) ?_
                    rotate_left
                    · (intro w hSw; (try dsimp only at hSw); go_simp; try with_reducible rfl)
                    (try simp only [List.getElem_toArray]); (try simp only [List.getElem_cons_succ]); (try simp only [List.getElem_cons_zero]); (try dsimp only); (try simp only [Act.put]); (try simp only [List.setIfInBounds_toArray]); (try simp only [List.set_cons_succ]); (try simp only [List.set_cons_zero])
                    refine wpAnyH_take (i := 14) (oi := _) (v := ?_) rfl (by kernel_rfl) (by kernel_rfl) (by kernel_rfl) (fun _ _ _ h => h) (Or.inl ⟨by rfl, ?_⟩) (by assumption) ?_
                    rotate_left
                    · (intro w hSw; (try dsimp only at hSw); go_simp; try with_reducible rfl)
                    (try simp only [List.getElem_toArray]); (try simp only [List.getElem_cons_succ]); (try simp only [List.getElem_cons_zero]); (try dsimp only); (try simp only [Act.put]); (try simp only [List.setIfInBounds_toArray]); (try simp only [List.set_cons_succ]); (try simp only [List.set_cons_zero])
                    refine wpAnyH_take (i := 15) (oi := _) (v := ?_) rfl (by kernel_rfl) (by kernel_rfl) (by kernel_rfl) (fun _ _ _ h => h) (Or.inl ⟨by rfl, ?_⟩) (by assumption) ?_
                    rotate_left
                    · (intro w hSw; (try dsimp only at hSw); go_simp; try with_reducible rfl)
                    (try simp only [List.getElem_toArray]); (try simp only [List.getElem_cons_succ]); (try simp only [List.getElem_cons_zero]); (try dsimp only); (try simp only [Act.put]); (try simp only [List.setIfInBounds_toArray]); (try simp only [List.set_cons_succ]); (try simp only [List.set_cons_zero])
                    refine wpAnyH_take (i := 16) (oi := _) (v := ?_) rfl (by kernel_rfl) (by kernel_rfl) (by kernel_rfl) (fun _ _ _ h => h) (Or.inl ⟨by rfl, ?_⟩) (by assumption) ?_
                    rotate_left
                    · (intro w hSw; (try dsimp only at hSw); go_simp; try with_reducible rfl)
                    (try simp only [List.getElem_toArray]); (try simp only [List.getElem_cons_succ]); (try simp only [List.getElem_cons_zero]); (try dsimp only); (try simp only [Act.put]); (try simp only [List.setIfInBounds_toArray]); (try simp only [List.set_cons_succ]); (try simp only [List.set_cons_zero])
                    refine wpAnyH_done (by kernel_rfl) ?_ _
                    refine NoPanic.normal ?_
                    repeat (clear hHeld)
                    obtain ⟨jb, jo, rfl, hCj⟩ : ∃ jb jo, ja = some (⟨jb, jo, none⟩ : Addr) ∧ Cells wD jb jo 3 [[.int .i64 0, .int .i64 (min h (s + pat)), .bool (decide (s + pat < h))]] := by
                      rcases HjD.out with h | h
                      · cases h
                      · exact h
                    have f1 := hCj 0 _ rfl 1 _ rfl
                    have f2 := hCj 0 _ rfl 2 _ rfl
                    simp only [Nat.zero_mul, Nat.add_zero] at f1 f2
                    have fh := (HSS.out _ HbD.out).2
                    have zj := block_lt_of_cell f1
                    have zh := block_lt_of_cell fh
                    clear hCj HjD
                    by_cases hd : (s : Int) + pat < h
                    · rw [show min h (s + pat) = s + pat by omega] at f1
                      rw [show decide ((s : Int) + pat < h) = true by simpa using hd] at f2
                      have d1 : decide (h > (s : Int) + pat) = true := by simpa using hd
                      go_wp2_with fail
                      refine Fat.wp_region_tail 33 (by kernel_rfl) (by kernel_rfl) ?_
                      simp only [List.take_succ_cons, List.drop_succ_cons, List.take_nil, List.drop_nil]
                      repeat (go_big_quiet_step (fail))
                      refine wpQuiet_nil ?_
                      intro wE hbE
                      go_wp2_with fail
                      go_roundw
                      case rel => exact ⟨k + 1, by omega, by go_num, HSt.out.later (over HbD.out hbE)⟩
                      case measure => simp [intOf]; omega
                    · rw [show min h (s + pat) = h by omega] at f1
                      rw [show decide ((s : Int) + pat < h) = false by simpa using hd] at f2
                      have d1 : decide (h > (s : Int) + pat) = false := by simpa using hd
                      go_wp2_with fail
                      refine Fat.wp_region_tail 33 (by kernel_rfl) (by kernel_rfl) ?_
                      simp only [List.take_succ_cons, List.drop_succ_cons, List.take_nil, List.drop_nil]
                      repeat (go_big_quiet_step (fail))
                      refine wpQuiet_nil ?_
                      intro wE hbE
                      go_wp2_with fail
                      go_roundw
                      case rel => exact ⟨k + 1, by omega, by go_num, HSt.out.later (over HbD.out hbE)⟩
                      case measure => simp [intOf]; omega
                  · obtain rfl : k = L.cs.length := by omega
                    have hW := HSt.out.W
                    clear HSt HJ HPost
                    go_wp2_with fail
                    refine (copied_any _).mono ?_
                    rintro e wz ⟨rfl, hbz⟩
                    replace hW := over hW hbz
                    clear hbz
                    go_wp2_with fail
                    go_ret
                    exact ⟨rfl, hW⟩
end Go.Proofs.YtingfmdbihbamaaGreat
