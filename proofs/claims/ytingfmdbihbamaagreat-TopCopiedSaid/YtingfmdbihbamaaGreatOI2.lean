/- Layer 5, the walks: the hours of a set, as a list; the last of them. -/
import Derived.Test.YtingfmdbihbamaaGreatOI1
open Go.RowKit Go.Shelf
namespace Go.Proofs.YtingfmdbihbamaaGreat
namespace Cp
open Go.Once

theorem ivs_flat (l : List Int) : (ivs l).flatten = l.map (Value.int .i64) := by
  induction l with
  | nil => rfl
  | cons x l ih => simp only [ivs, List.map_cons, List.flatten_cons] at ih ⊢; rw [ih]; rfl

/-! ### What stands between two rounds -/
abbrev Hr (bd : Nat) := {n : Nat // n ≤ bd}
def hrs {bd : Nat} (l : List (Hr bd)) : List Int := l.map fun x => (x.1 : Int)
def SeqAt (bd : Nat) (w0 : World) (pre : List (Hr bd)) (W : World) : Prop :=
  Below w0.heap.size w0 W ∧ ∃ v, Box W w0.heap.size #[v] 41 ∧ Own W w0.heap.size 3 1 v (ivs (hrs pre))
theorem seqAt_own {bd : Nat} {w0 : World} {B : Nat} (hB : w0.heap.size ≤ B) : OwnFrom B (SeqAt bd w0) := fun s W W' row ⟨hb, v, hx, ho⟩ hg hr => by
  refine ⟨hb.grown hg hb.size (fun k e => Nat.le_trans hB (hr k e).1), v, (hg.block _ hx.lt fun e => ?_).trans hx, ho.turn fun k hk => hg.block k (ho.1.lt k hk).2 fun e => ?_⟩
  · obtain ⟨_, o, h1, h2⟩ := hr _ e.symm
    rw [show W.heap[w0.heap.size]? = _ from hx] at h1
    cases h1; cases h2
  · obtain ⟨_, o, h1, h2⟩ := hr _ e.symm
    obtain ⟨cur, hc⟩ := own_cells2 ho hk
    rw [hc] at h1
    cases h1; cases h2
theorem seq_round {bd : Nat} {w0 W W3 : World} {pre : List (Hr bd)} {x : Hr bd} {v v' : Value} (hb : Below w0.heap.size w0 W) (hx : Box W w0.heap.size #[v] 41) (ho : Own W w0.heap.size 3 1 v (ivs (hrs pre)))
    (hg : (W.alloc (.cells #[.int .i64 x.1] 3)).grownBy W3 v.ownBlock) (ho' : Own W3 w0.heap.size 3 1 v' (ivs (hrs (pre ++ [x])))) :
    Box W3 w0.heap.size #[v] 41 ∧ KeepsOthers W (W3.setCell ⟨w0.heap.size, 0, none⟩ v') ∧ Below w0.heap.size W (W3.setCell ⟨w0.heap.size, 0, none⟩ v') ∧ SeqAt bd w0 (pre ++ [x]) (W3.setCell ⟨w0.heap.size, 0, none⟩ v') := by
  have hlt := hx.lt
  have h1 : Box W3 w0.heap.size #[v] 41 := (hg.block _ (by simp; omega) fun e => by
    obtain ⟨cur, hc⟩ := own_cells2 ho e.symm
    rw [show W.heap[w0.heap.size]? = _ from hx] at hc
    cases hc).trans (hx.alloc _)
  have h2 : Below w0.heap.size W W3 := ((Below.refl _ W).alloc (by omega) _).grown hg (by simp; omega) (fun k e => (ho.1.lt k e).1)
  have h3 : Below w0.heap.size W (W3.setCell ⟨w0.heap.size, 0, none⟩ v') := h2.setCell (Nat.le_refl _) v'
  refine ⟨h1, ((KeepsOthers.alloc _ _).trans (KeepsOthers.of_grownBy hg fun j o e h => ?_)).trans (KeepsOthers.setCell _ _ _), h3, hb.trans h3, v', setCell_box h1 0 v', ho'.turn fun k hk => ?_⟩
  · obtain ⟨cur, hc⟩ := own_cells2 (ho.later (al (Below.refl _ _) _)) e
    rw [hc] at h; cases h; rfl
  · refine (setCell_but W3 w0.heap.size 0 v').block k fun e => ?_
    obtain ⟨cur, hc⟩ := own_cells2 ho' hk
    rw [e, show W3.heap[w0.heap.size]? = _ from h1] at hc
    cases hc
theorem hrs_sel {bd n : Nat} {s : Nat → Bool} {ys : List (Hr bd)} (h : ys.map (·.1) = selN s n) : hrs ys = (selN s n).map fun x : Nat => (x : Int) := by
  unfold hrs
  rw [← h, List.map_map]; rfl
/-- The hours of a set. -/
def hoursOf (s : Nat → Bool) : List Int := (selN s 101).map fun x : Nat => (x : Int)

section
attribute [local go_sem] Oper.semAt_some
set_option maxRecDepth 100000 in
set_option maxHeartbeats 4000000 in
theorem appendSeq_any (bd b1 bs : Nat) (s : Nat → Bool) (w : World) (B1 : Box w b1 #[.pointer (some ⟨bs, 0, none⟩)] 142) (BS : SetAt w bs s) (hs : ∀ n, n < 101 → s n = true → n ≤ bd) :
    CallsIn Fence.wide 6 Tryz.prog 111 #[.slice none 0 0, .func (.func 80) #[] #[.pointer (some ⟨b1, 0, none⟩)]] w (RetRow 3 1 (ivs (hoursOf s)) w) := by
  have HS := Lib.hid (each_stops 4 bd b1 bs s w B1 BS hs)
  have k1 := B1.lt
  have k2 : bs < w.heap.size := Box.lt BS
  obtain ⟨i0, z, hi0, hz, i1, i2, i3⟩ := elem_int.get
  clear B1 BS hs
  refine callsIn_of_wp_marks Tryz.func111 rfl trivial ?_ rfl
  simp only [Tryz.ntmps111, List.size_toArray, List.length_cons, List.length_nil, Nat.reduceAdd, Nat.reduceSub, Array.replicate_succ, Array.replicate_zero, List.push_toArray, List.append_toArray, List.nil_append, List.cons_append]
  gi_wp2
  refine named1 (p := Code.wpIn _ _ _ _ _ _) ?_
  intro W hW B2
  refine wpIn_rangeFunc_ownG (α := Hr bd) rfl (by omega) (gf := 80) (lb := #[.pointer (some ⟨b1, 0, none⟩)]) rfl trivial enters_each HS.out keep2_t (keep2_b (Nat.lt_of_lt_of_le k1 hW.size) (Nat.lt_of_lt_of_le k2 hW.size)) hW (fun _ => rfl)
    (SeqAt bd w) (fun _ _ _ => False) (seqAt_own hW.size) (fun _ _ _ _ _ h _ _ => h) ⟨hW, _, B2, Own.nil _ _ _ _⟩ ?a1 ?assign ?body ?done ?stop
  case assign =>
    intro l x W K hK
    gi_wp2
    exact hK
  case body =>
    rintro l pre x W1 ⟨hb, v, hx, ho⟩ hlen
    have c2 := hx.cell
    have f2 := hx.frozen
    have t2 := hx.lt
    have HHx := Lib.hid hx
    have HO := Lib.hid ho
    have HB := Lib.hid hb
    have hz1 := hb.size
    clear hx ho hb
    gi_wp2_with (first
      | (gi_at_builtin; refine wpListIn_append_own _ rfl _ _ 41 rfl w.heap.size 3 i0 z 1 8 elem_int.ht hi0 hz i1 i2 i3 (by decide) v pre.length ((hrs pre).map (Value.int .i64)) rfl ?qa ⟨W1.heap.size, 0, none⟩ 1 1 [.int .i64 x.1] rfl rfl ?qb ?qc ?qd ?qe ?qf ?_; rotate_left 6; intro v' w3 hown' hg3 _
         have ho' : Own w3 w.heap.size 3 1 v' (ivs (hrs (pre ++ [x]))) := ⟨by rw [ivs_flat]; simpa [hrs] using hown', ivs_one _⟩
         obtain ⟨r1, r2, r3, r4⟩ := seq_round HB.out HHx.out HO.out hg3 ho'
         have HR2 := Lib.hid r2; have HR3 := Lib.hid r3; have HR4 := Lib.hid r4
         obtain ⟨ra, rc, hv', _, _⟩ := ho'.row
         rw [show (ivs (hrs (pre ++ [x]))).length = pre.length + 1 by simp [hrs]] at hv'
         subst hv'
         have c3 := r1.cell; have f3 := r1.frozen; have t3 := r1.lt
         clear r1 r2 r3 r4 hown' hg3 ho' c2 f2 t2)
      | gi_in)
    rotate_left 1
    case qa => have := (HO.out.later (al (Below.refl _ _) (.cells #[.int .i64 x.1] 3))).1; rw [ivs_flat] at this; simpa [hrs] using this
    case qb => intro j u hj; cases j with | zero => cases hj; exact (Box.new _ _ _).cell 0 | succ j => simp at hj
    case qc => intro u hu; simp at hu; subst hu; rfl
    case qd => unfold maxLen; omega
    case qe => omega
    case qf => simp; omega
    have hk := HR3.out
    exact ⟨HR2.out.from _, ⟨hk.block _ k1, hk.block _ k2⟩, HR4.out⟩
  case done =>
    rintro D ys W1 hD hys ⟨hb, v, hx, ho⟩ hK
    rw [hrs_sel hys] at ho
    have hg := grownBy_putObj' W1 D (.deferred none)
    have ho2 : Own (W1.putObj D (.deferred none)) w.heap.size 3 1 v (ivs (hoursOf s)) := ho.turn fun k hk => hg.block k (ho.1.lt k hk).2 fun e => by
      obtain ⟨cur, hc⟩ := own_cells2 ho hk
      cases e
      rw [hK] at hc; cases hc
    have hb2 : Below w.heap.size w (W1.putObj D (.deferred none)) := hb.grown hg hb.size (fun k e => by cases e; exact Nat.le_trans hW.size hD)
    have c2 := hx.cell
    have f2 := hx.frozen
    have t2 := hx.lt
    have HR := Lib.hid ho2
    have HB2 := Lib.hid hb2
    have HKK := Lib.hid hK
    clear hb2 ho ho2 hg hK hys hx hb
    gi_wp2
    refine ⟨by simp, .inl ⟨_, _, rfl, run_takeDeferred HKK.out, ?_⟩⟩
    exact ⟨_, results_tmp rfl _ _ _, v, rfl, HB2.out, HR.out⟩
  case stop =>
    rintro D c pre W1 hD _ h
    exact h.elim
end

set_option maxRecDepth 100000 in
set_option maxHeartbeats 1000000 in
theorem collect_any (bd b1 bs : Nat) (s : Nat → Bool) (w : World) (B1 : Box w b1 #[.pointer (some ⟨bs, 0, none⟩)] 142) (BS : SetAt w bs s) (hs : ∀ n, n < 101 → s n = true → n ≤ bd) :
    Calls Tryz.prog 83 #[.func (.func 80) #[] #[.pointer (some ⟨b1, 0, none⟩)]] w (RetRow 3 1 (ivs (hoursOf s)) w) := by
  have HC := Lib.hid ((callsIn_wide (n := 6)).1 (appendSeq_any bd b1 bs s w B1 BS hs))
  clear B1 BS hs
  go_enter Tryz.func83, Tryz.ntmps83
  go_wp2_with fail
  refine HC.out.mono ?_
  rintro e w1 ⟨v, rfl, hb, hr⟩
  have HR := Lib.hid hr
  have HB := Lib.hid hb
  clear hb hr
  go_wp2_with fail
  go_ret
  exact ⟨_, rfl, HB.out, HR.out⟩

theorem list_any (bd bs : Nat) (s : Nat → Bool) (w : World) (BS : SetAt w bs s) (hs : ∀ n, n < 101 → s n = true → n ≤ bd) :
    Calls Tryz.prog 52 #[.pointer (some ⟨bs, 0, none⟩)] w (RetRow 3 1 (ivs (hoursOf s)) w) := by
  have HS := Lib.hid BS
  have HB := Lib.hid hs
  clear BS hs
  go_enter Tryz.func52, Tryz.ntmps52
  go_wp2_with fail
  refine (each_mk bs _).mono ?_
  rintro e w1 ⟨b1, rfl, hb1, _, B1⟩
  have HB1 := Lib.hid hb1
  clear hb1
  go_wp2_with fail
  refine (collect_any bd b1 bs s w1 B1 (Box.later HS.out HB1.out) HB.out).mono ?_
  rintro e w2 ⟨v, rfl, hb2, hr⟩
  have HB2 := Lib.hid (HB1.out.trans (hb2.mono HB1.out.size))
  have HR := Lib.hid (hr.mono HB1.out.size)
  clear hb2 hr
  go_wp2_with fail
  go_ret
  exact ⟨_, rfl, HB2.out, HR.out⟩

/-- The last hour of a set. -/
def lastOf (s : Nat → Bool) : Nat → Nat
  | 0 => 0
  | n + 1 => if s n then n else lastOf s n
theorem lastOf_le (s : Nat → Bool) : ∀ (n k : Nat), k < n → s k = true → k ≤ lastOf s n
  | n + 1, k, hk, h => by
    simp only [lastOf]
    by_cases hn : s n = true
    · rw [if_pos hn]; omega
    · rw [if_neg hn]
      have hkn : k ≠ n := fun e => hn (e ▸ h)
      exact lastOf_le s n k (by omega) h
theorem lastOf_sel (s : Nat → Bool) : ∀ n, selN s n ≠ [] → (selN s n)[(selN s n).length - 1]? = some (lastOf s n)
  | 0, h => absurd rfl h
  | n + 1, h => by
    by_cases hn : s n = true
    · rw [selN_yes hn]; simp [lastOf, hn]
    · have hf : s n = false := by simpa using hn
      rw [selN_no hf] at h ⊢
      rw [lastOf_sel s n h]; simp [lastOf, hf]
theorem lastOf_lt (s : Nat → Bool) : ∀ n, 0 < n → lastOf s n < n
  | n + 1, _ => by
    simp only [lastOf]
    split
    · omega
    · rcases Nat.eq_zero_or_pos n with rfl | h
      · simp [lastOf]
      · have := lastOf_lt s n h; omega
theorem last_any (bd bs : Nat) (s : Nat → Bool) (w : World) (BS : SetAt w bs s) (hs : ∀ n, n < 101 → s n = true → n ≤ bd) {k : Nat} (hk : k < 101) (hsk : s k = true) :
    Calls Tryz.prog 53 #[.pointer (some ⟨bs, 0, none⟩)] w (Ret (.int .i64 (lastOf s 101)) w) := by
  have HC := Lib.hid (list_any bd bs s w BS hs)
  have hne : selN s 101 ≠ [] := fun h => by
    have : k ∈ selN s 101 := selN_mem.2 ⟨hk, hsk⟩
    rw [h] at this; cases this
  have hl := lastOf_sel s 101 hne
  have hlen : (hoursOf s).length ≤ 101 := by unfold hoursOf; rw [List.length_map]; exact selN_len _ _
  have h0 : 0 < (hoursOf s).length := by unfold hoursOf; rw [List.length_map]; exact List.length_pos_iff.2 hne
  have hl2 : (hoursOf s)[(hoursOf s).length - 1]? = some ((lastOf s 101 : Nat) : Int) := by unfold hoursOf; rw [List.length_map, List.getElem?_map, hl]; rfl
  generalize lastOf s 101 = lv at *
  generalize hoursOf s = hl at *
  have HL2 := Lib.hid hl2
  clear BS hs hk hsk hne hl2
  go_enter Tryz.func53, Tryz.ntmps53
  go_wp2_with fail
  refine HC.out.mono ?_
  rintro e w1 ⟨v, rfl, hb1, hr⟩
  obtain ⟨ra, rc, rfl, _, hrow⟩ := hr.row
  rw [show (ivs hl).length = hl.length from List.length_map _]
  obtain ⟨pb, po, rfl, hC⟩ := RowAt.at (k := hl.length - 1) hrow (by omega)
  have e0 := cells_one (f := fun n : Int => Value.int .i64 n) hC HL2.out
  have z1 := block_lt_of_cell e0
  obtain ⟨n, hn⟩ : ∃ n, hl.length = n + 1 := ⟨hl.length - 1, by omega⟩
  rw [hn] at e0 hlen ⊢
  rw [show n + 1 - 1 = n from rfl] at e0
  have HB := Lib.hid hb1
  have r1 : (0 : Int) ≤ (n : Int) := by omega
  have r2 : (n : Int) < (n : Int) + 1 := by omega
  clear hC hrow hr hb1 h0 hn
  go_wp2_with fail
  go_ret
  exact ⟨rfl, HB.out⟩
end Cp
end Go.Proofs.YtingfmdbihbamaaGreat
