/- A land at work, the walks: lists copied and collected. -/
import Derived.Test.YtmfnkmmbihmjnaaWork5
import Derived.Lib.SliceRun
open Go.RowKit Go.Shelf
namespace Go.Proofs.Ytmfnkmmbihmjnaa
open Go.Hill

def RetInt1 (l : List Int) (w : World) (e : Ending) (w' : World) : Prop :=
  ∃ a c, e = .returned (.slice a l.length c) ∧ Below w.heap.size w w' ∧ IntsAt w' a l
theorem ivs_flat (l : List Int) : (ivs l).flatten = l.map (Value.int .i64) := by
  induction l with
  | nil => rfl
  | cons x l ih => simp only [ivs, List.map_cons, List.flatten_cons] at ih ⊢; rw [ih]; rfl
theorem ivs_one (l : List Int) : ∀ x ∈ ivs l, x.length = 1 := by
  intro x hx
  obtain ⟨n, _, rfl⟩ := List.mem_map.1 hx
  rfl

set_option maxRecDepth 100000 in
set_option maxHeartbeats 2000000 in
theorem clone_any (l : List Int) (a : Option Addr) (c : Nat) (w : World) (h : IntsAt w a l) (hl : l.length ≤ 1000) :
    Calls Try.prog 75 #[.slice a l.length c] w (RetInt1 l w) := by
  have q22 : ∀ (w : World) (a : Option Addr) (n c n' c' : Nat), (binOp .eql 30 (.slice a n c) (.slice none n' c')).run Try.prog w = .ok (.bool a.isNone) w := fun w a n c n' c' => Lib.run_eql_slice_nil w _ _ a n c n' c' Try.underlying30
  obtain ⟨i0, z, hi, hz, i1, i2, i3⟩ := elem_int.get
  cases a with
  | none =>
    have h0 : l = [] := by
      rcases h with h | ⟨b, o, h1, _⟩
      · simpa using h
      · cases h1
    subst h0
    go_enter Try.func75, Try.ntmps75
    go_wp2_with fail
    go_ret
    exact ⟨none, 0, rfl, Below.refl _ _, .inl rfl⟩
  | some ad =>
    have HI := Lib.hid h
    obtain ⟨n, hn⟩ : ∃ n, n = l.length := ⟨_, rfl⟩
    rw [← hn]
    have HN := Lib.hid hn
    clear h hn
    go_enter Try.func75, Try.ntmps75
    go_wp2_with (at_builtin; refine wpList_append_own _ rfl _ _ 30 rfl w.heap.size 3 i0 z 1 8 elem_int.ht hi hz i1 i2 i3 (by decide) _ _ _ rfl (World.ownsRow_made w #[] 0 (Nat.le_refl _) (Nat.zero_le _) rfl) ad n c (l.map (Value.int .i64)) rfl ?qc1 ?qc2 ?qc3 ?qc4 ?qc5 ?qc6 ?_)
    case qc1 => have := HN.out; simp; omega
    case qc2 =>
      intro j u hj
      refine Lib.cell?_alloc_some _ ?_
      rcases HI.out with h | ⟨b, o, h1, hC⟩
      · have h0 : l = [] := by simpa using h
        subst h0; simp at hj
      · cases h1
        rw [Addr.add_lit]
        have hjl : j < l.length := by have := (List.getElem?_eq_some_iff.1 hj).1; simpa using this
        obtain ⟨x, hx⟩ : ∃ x, l[j]? = some x := ⟨l[j], by simp⟩
        have := cells_one hC hx
        rw [List.getElem?_map, hx] at hj
        cases hj
        exact this
    case qc3 => intro u hu; obtain ⟨x, _, rfl⟩ := List.mem_map.1 hu; rfl
    case qc4 => have := HN.out; unfold maxLen; omega
    case qc5 => have := HN.out; omega
    case qc6 => simp
    intro v' w1 hown hgrow _
    have ho : Own w1 w.heap.size 3 1 v' (ivs l) := ⟨by have h1 := hown; rw [HN.out] at h1; rw [ivs_flat, List.length_map]; simpa using h1, ivs_one l⟩
    obtain ⟨ra, rc, rfl, _, hr⟩ := ho.row
    have HR := Lib.hid hr
    have HB : Hid (Below w.heap.size w w1) := ((Below.refl _ w).alloc (Nat.le_refl _) _).grown hgrow (by simp) (by intro k hk; simp [Value.ownBlock] at hk; omega)
    clear hown hgrow ho hr
    go_wp2_with fail
    go_ret
    exact ⟨ra, rc, by rw [List.length_map]; rfl, HB.out, HR.out⟩

/-! ### What stands between two rounds -/
def SeqAt (w0 : World) (pre : List Nat) (W : World) : Prop :=
  Below w0.heap.size w0 W ∧ ∃ v, Box W w0.heap.size #[v] 30 ∧ Own W w0.heap.size 3 1 v (ivs (pre.map fun x : Nat => (x : Int)))
theorem own_cells {W : World} {base : Nat} {E : TypeId} {size : Nat} {v : Value} {xs : List (List Value)} (h : Own W base E size v xs) {k : Nat} (hk : v.ownBlock = some k) : ∃ cur, W.heap[k]? = some (.cells cur E (0, 0)) := by
  rcases h.1.2 with ⟨hv, _⟩ | ⟨g, cap, cur, hv, _, h3, _⟩
  · rw [hv] at hk; cases hk
  · rw [hv] at hk; cases hk; exact ⟨cur, h3⟩
theorem seqAt_own {w0 : World} {B : Nat} (hB : w0.heap.size ≤ B) : OwnFrom B (SeqAt w0) := fun s W W' row ⟨hb, v, hx, ho⟩ hg hr => by
  refine ⟨hb.grown hg hb.size (fun k e => Nat.le_trans hB (hr k e).1), v, (hg.block _ hx.lt fun e => ?_).trans hx, ho.turn fun k hk => hg.block k (ho.1.lt k hk).2 fun e => ?_⟩
  · obtain ⟨_, o, h1, h2⟩ := hr _ e.symm
    rw [show W.heap[w0.heap.size]? = _ from hx] at h1
    cases h1; cases h2
  · obtain ⟨_, o, h1, h2⟩ := hr _ e.symm
    obtain ⟨cur, hc⟩ := own_cells ho hk
    rw [hc] at h1
    cases h1; cases h2
theorem seq_round {w0 W W3 : World} {pre : List Nat} {x : Nat} {v v' : Value} (hb : Below w0.heap.size w0 W) (hx : Box W w0.heap.size #[v] 30) (ho : Own W w0.heap.size 3 1 v (ivs (pre.map fun x : Nat => (x : Int))))
    (hg : (W.alloc (.cells #[.int .i64 x] 3)).grownBy W3 v.ownBlock) (ho' : Own W3 w0.heap.size 3 1 v' (ivs ((pre ++ [x]).map fun x : Nat => (x : Int)))) :
    Box W3 w0.heap.size #[v] 30 ∧ KeepsOthers W (W3.setCell ⟨w0.heap.size, 0, none⟩ v') ∧ Below w0.heap.size W (W3.setCell ⟨w0.heap.size, 0, none⟩ v') ∧ SeqAt w0 (pre ++ [x]) (W3.setCell ⟨w0.heap.size, 0, none⟩ v') := by
  have hlt := hx.lt
  have h1 : Box W3 w0.heap.size #[v] 30 := (hg.block _ (by simp; omega) fun e => by
    obtain ⟨cur, hc⟩ := own_cells ho e.symm
    rw [show W.heap[w0.heap.size]? = _ from hx] at hc
    cases hc).trans (hx.alloc _)
  have h2 : Below w0.heap.size W W3 := ((Below.refl _ W).alloc (by omega) _).grown hg (by simp; omega) (fun k e => (ho.1.lt k e).1)
  have h3 : Below w0.heap.size W (W3.setCell ⟨w0.heap.size, 0, none⟩ v') := h2.setCell (Nat.le_refl _) v'
  refine ⟨h1, ((KeepsOthers.alloc _ _).trans (KeepsOthers.of_grownBy hg fun j o e h => ?_)).trans (KeepsOthers.setCell _ _ _), h3, hb.trans h3, v', setCell_box h1 0 v', ho'.turn fun k hk => ?_⟩
  · obtain ⟨cur, hc⟩ := own_cells (ho.later (al (Below.refl _ _) _)) e
    rw [hc] at h; cases h; rfl
  · refine (setCell_but W3 w0.heap.size 0 v').block k fun e => ?_
    obtain ⟨cur, hc⟩ := own_cells ho' hk
    rw [e, show W3.heap[w0.heap.size]? = _ from h1] at hc
    cases hc

section
attribute [local go_sem] Oper.semAt_some
set_option maxRecDepth 100000 in
set_option maxHeartbeats 4000000 in
theorem appendSeq_any (b4 b5 b6 b7 bw bm : Nat) (q : LV) (L : Land) (av : Nat → Prop) (i j k t : Nat) (a b : Stn) (cs : List Cd) (w : World) (hw : WorkAt w bw bm q L av) (hF : Fits L) (hk : L.cs[k]? = some cs) (hcl : cs.length ≤ 1000) (l1 : L.st.length ≤ 1000) (l3 : L.cs.length ≤ 1000)
    (hi : L.st[i]? = some a) (hj : L.st[j]? = some b)
    (B4 : Box w b4 #[.pointer (some ⟨bw, 0, none⟩)] 90) (B5 : Box w b5 #[.int .i64 i, .int .i64 j] 95) (B6 : Box w b6 #[.int .i64 k] 3) (B7 : Box w b7 #[.int .i64 t] 3) :
    CallsIn Fence.wide 6 Try.prog 105 #[.slice none 0 0, .func (.func 106) #[] #[.pointer (some ⟨b4, 0, none⟩), .pointer (some ⟨b6, 0, none⟩), .pointer (some ⟨b7, 0, none⟩), .pointer (some ⟨b5, 0, none⟩)]] w (RetInt1 (L.cbs i j k t) w) := by
  have HS := Lib.hid (clouds_stops 4 b4 b5 b6 b7 bw bm q L av i j k t a b cs w hw hF hk hcl l1 l3 hi hj B4 B5 B6 B7)
  obtain ⟨i0, z, hi0, hz, i1, i2, i3⟩ := elem_int.get
  have HK := Lib.hid hk
  clear hw hF hk hi hj B4 B5 B6 B7
  refine callsIn_of_wp_marks Try.func105 rfl trivial ?_ rfl
  simp only [Try.ntmps105, List.size_toArray, List.length_cons, List.length_nil, Nat.reduceAdd, Nat.reduceSub, Array.replicate_succ, Array.replicate_zero, List.push_toArray, List.append_toArray, List.nil_append, List.cons_append]
  gi_wp2
  refine named1 (p := Code.wpIn _ _ _ _ _ _) ?_
  intro W hW B2
  refine wpIn_rangeFunc_ownG (α := Nat) rfl (by omega) (gf := 106) (lb := #[.pointer (some ⟨b4, 0, none⟩), .pointer (some ⟨b6, 0, none⟩), .pointer (some ⟨b7, 0, none⟩), .pointer (some ⟨b5, 0, none⟩)]) rfl trivial enters106 HS.out belowK_t (belowK_b hW.size) hW (fun _ => rfl)
    (SeqAt w) (fun _ _ _ => False) (seqAt_own hW.size) (fun _ _ _ _ _ h _ _ => h) ⟨hW, _, B2, Own.nil _ _ _ _⟩ ?a1 ?assign ?body ?done ?stop
  case assign =>
    intro l x W K hK
    gi_wp2
    exact hK
  case body =>
    rintro l pre x W1 ⟨hb, v, hx, ho⟩ hlen
    have c2 := hx.cell
    have f2 := hx.frozen
    have t2 := hx.lt
    have HHx := Lib.hid hx
    have HO := Lib.hid ho
    have HB := Lib.hid hb
    have hz1 := hb.size
    clear hx ho hb
    gi_wp2_with (first
      | (gi_at_builtin; refine wpListIn_append_own _ rfl _ _ 30 rfl w.heap.size 3 i0 z 1 8 elem_int.ht hi0 hz i1 i2 i3 (by decide) v pre.length ((pre.map fun x : Nat => (x : Int)).map (Value.int .i64)) rfl ?qa ⟨W1.heap.size, 0, none⟩ 1 1 [.int .i64 x] rfl rfl ?qb ?qc ?qd ?qe ?qf ?_; rotate_left 6; intro v' w3 hown' hg3 _
         have ho' : Own w3 w.heap.size 3 1 v' (ivs ((pre ++ [x]).map fun x : Nat => (x : Int))) := ⟨by rw [ivs_flat]; simpa using hown', ivs_one _⟩
         obtain ⟨r1, r2, r3, r4⟩ := seq_round HB.out HHx.out HO.out hg3 ho'
         have HR2 := Lib.hid r2; have HR3 := Lib.hid r3; have HR4 := Lib.hid r4
         obtain ⟨ra, rc, hv', _, _⟩ := ho'.row
         rw [show (ivs ((pre ++ [x]).map fun x : Nat => (x : Int))).length = pre.length + 1 by simp] at hv'
         subst hv'
         have c3 := r1.cell; have f3 := r1.frozen; have t3 := r1.lt
         clear r1 r2 r3 r4 hown' hg3 ho' c2 f2 t2)
      | gi_in)
    rotate_left 1
    case qa => have := (HO.out.later (al (Below.refl _ _) (.cells #[.int .i64 x] 3))).1; rw [ivs_flat] at this; simpa using this
    case qb => intro j u hj; cases j with | zero => cases hj; exact (Box.new _ _ _).cell 0 | succ j => simp at hj
    case qc => intro u hu; simp at hu; subst hu; rfl
    case qd => unfold maxLen; omega
    case qe => omega
    case qf => simp; omega
    exact ⟨HR2.out.from _, HR3.out, HR4.out⟩
  case done =>
    rintro D ys W1 hD hys ⟨hb, v, hx, ho⟩ hK
    have hlc : ys.map (fun x : Nat => (x : Int)) = L.cbs i j k t := by
      unfold Land.cbs Land.kase
      rw [HK.out, Option.getD_some, sel_eq, hys]
    rw [hlc] at ho
    have hg := grownBy_putObj' W1 D (.deferred none)
    have ho2 : Own (W1.putObj D (.deferred none)) w.heap.size 3 1 v (ivs (L.cbs i j k t)) := ho.turn fun k hk => hg.block k (ho.1.lt k hk).2 fun e => by
      obtain ⟨cur, hc⟩ := own_cells ho hk
      cases e
      rw [hK] at hc; cases hc
    have hb2 : Below w.heap.size w (W1.putObj D (.deferred none)) := hb.grown hg hb.size (fun k e => by cases e; exact Nat.le_trans hW.size hD)
    obtain ⟨ra, rc, rfl, _, hr⟩ := ho2.row
    have c2 := hx.cell
    have f2 := hx.frozen
    have t2 := hx.lt
    have HR := Lib.hid hr
    have HB2 := Lib.hid hb2
    have HKK := Lib.hid hK
    clear hr hb2 ho ho2 hg hK hlc hys hx hb
    gi_wp2
    refine ⟨by simp, .inl ⟨_, _, rfl, run_takeDeferred HKK.out, ?_⟩⟩
    exact ⟨_, results_tmp rfl _ _ _, ra, rc, rfl, HB2.out, HR.out⟩
  case stop =>
    rintro D c pre W1 hD _ h
    exact h.elim
end

set_option maxRecDepth 100000 in
set_option maxHeartbeats 1000000 in
theorem collect_any (b4 b5 b6 b7 bw bm : Nat) (q : LV) (L : Land) (av : Nat → Prop) (i j k t : Nat) (a b : Stn) (cs : List Cd) (w : World) (hw : WorkAt w bw bm q L av) (hF : Fits L) (hk : L.cs[k]? = some cs) (hcl : cs.length ≤ 1000) (l1 : L.st.length ≤ 1000) (l3 : L.cs.length ≤ 1000)
    (hi : L.st[i]? = some a) (hj : L.st[j]? = some b)
    (B4 : Box w b4 #[.pointer (some ⟨bw, 0, none⟩)] 90) (B5 : Box w b5 #[.int .i64 i, .int .i64 j] 95) (B6 : Box w b6 #[.int .i64 k] 3) (B7 : Box w b7 #[.int .i64 t] 3) :
    Calls Try.prog 77 #[.func (.func 106) #[] #[.pointer (some ⟨b4, 0, none⟩), .pointer (some ⟨b6, 0, none⟩), .pointer (some ⟨b7, 0, none⟩), .pointer (some ⟨b5, 0, none⟩)]] w (RetInt1 (L.cbs i j k t) w) := by
  have HC := Lib.hid ((callsIn_wide (n := 6)).1 (appendSeq_any b4 b5 b6 b7 bw bm q L av i j k t a b cs w hw hF hk hcl l1 l3 hi hj B4 B5 B6 B7))
  clear hw hF hk hi hj B4 B5 B6 B7
  go_enter Try.func77, Try.ntmps77
  go_wp2_with fail
  refine HC.out.mono ?_
  rintro e w1 ⟨ra, rc, rfl, hb, hr⟩
  have HR := Lib.hid hr
  have HB := Lib.hid hb
  clear hb hr
  go_wp2_with fail
  go_ret
  exact ⟨ra, rc, rfl, HB.out, HR.out⟩
end Go.Proofs.Ytmfnkmmbihmjnaa
