/- A copied land changed: one number of one station. -/
import Derived.Test.YtmfnkmmbihmjnaaCopied2
import Derived.Test.YtmfnkmmbihmjnaaLWays
open Go.RowKit
namespace Go.Proofs.Ytmfnkmmbihmjnaa
open Go.Hill

theorem flatten_set {size j : Nat} {u : Value} (hj : j < size) : ∀ {xs : List (List Value)} {i : Nat} {x : List Value}, (∀ x ∈ xs, x.length = size) → xs[i]? = some x → (xs.set i (x.set j u)).flatten = xs.flatten.set (i * size + j) u
  | [], i, x, _, hx => by simp at hx
  | y :: ys, 0, x, hl, hx => by
    simp at hx; subst hx
    have : y.length = size := hl y (by simp)
    simp only [List.set_cons_zero, List.flatten_cons, Nat.zero_mul, Nat.zero_add]
    rw [List.set_append_left _ _ (by omega)]
  | y :: ys, i + 1, x, hl, hx => by
    have h1 : y.length = size := hl y (by simp)
    have h2 := flatten_set (u := u) hj (xs := ys) (i := i) (fun z hz => hl z (by simp [hz])) (by simpa using hx)
    simp only [List.set_cons_succ, List.flatten_cons]
    rw [h2, List.set_append_right _ _ (by rw [h1, Nat.add_mul]; omega)]
    congr 2
    rw [h1, Nat.add_mul]; omega

theorem Own.set {W : World} {base : Nat} {E : TypeId} {size g n c i j : Nat} {xs : List (List Value)} {x : List Value} (h : Own W base E size (.slice (some ⟨g, 0, none⟩) n c) xs) (hx : xs[i]? = some x) (hj : j < size) (u : Value) :
    Own (W.setCell ⟨g, i * size + j, none⟩ u) base E size (.slice (some ⟨g, 0, none⟩) n c) (xs.set i (x.set j u)) := by
  obtain ⟨⟨h0, h1⟩, h2⟩ := h
  have hxm : x ∈ xs := List.mem_of_getElem? hx
  have hi : i < xs.length := (List.getElem?_eq_some_iff.1 hx).1
  have hlen : ∀ y ∈ xs.set i (x.set j u), y.length = size := fun y hy => by
    rcases List.mem_or_eq_of_mem_set hy with hy | rfl
    · exact h2 y hy
    · rw [List.length_set]; exact h2 x hxm
  rcases h1 with ⟨hv, _⟩ | ⟨g', cap, cur, hv, hb, hg, hle, hm, hs, ht⟩
  · cases hv
  · cases hv
    refine ⟨?_, hlen⟩
    rw [List.length_set, flatten_set hj h2 hx]
    refine ⟨by rw [List.length_set]; exact h0, .inr ⟨g, c, cur.setIfInBounds (i * size + j) u, rfl, hb, setCell_box (show Box W g cur E from hg) _ u, hle, hm, by simpa using hs, ?_⟩⟩
    rw [Array.toList_setIfInBounds, List.take_set, ht]

/-! ### The land -/
def _root_.Go.Hill.Land.setSt (L : Land) (i : Nat) (a : Stn) : Land := { L with st := L.st.set i a }
theorem CasesR.at {W : World} {n0 n : Nat} {a : Option Addr} {c : Nat} {css : List (List Cd)} (h : CasesR W n0 (.slice a n c) css) : CasesAt W a css ∧ css.length ≤ c := by
  obtain ⟨l, h1, h2, h3, _⟩ := h
  obtain ⟨a', c', hv, hle, hr⟩ := h2.row
  cases hv
  refine ⟨⟨l, h1, hr, fun x hx => ?_⟩, by rw [← h1]; simpa using hle⟩
  obtain ⟨a2, c2, hv2, _, hr2⟩ := (h3 x hx).row
  unfold CV.val at hv2
  rw [List.length_map] at hv2
  cases hv2
  exact hr2
theorem LandR.at {W : World} {n0 : Nat} {q : LV} {L : Land} (h : LandR W n0 q L) : LandAt W q L := by
  obtain ⟨h1, h2, h3, h4⟩ := h
  exact ⟨h1.rowAt.2.2, h2.rowAt.2.2, h3.at.1, h4.rowAt.2.2, by simpa using h1.rowAt.2.1, by simpa using h2.rowAt.2.1, h3.at.2, by simpa using h4.rowAt.2.1⟩
theorem CasesR.other {W W' : World} {n0 g : Nat} {v : Value} {css : List (List Cd)} {cur : Array Value} {E : TypeId} (h : CasesR W n0 v css) (hB : Box W g cur E) (h1 : E ≠ 61) (h2 : E ≠ 59) (hb : But g W W') : CasesR W' n0 v css := by
  obtain ⟨l, e, h3, h4, h5⟩ := h
  refine ⟨l, e, h3.turn fun k hk => hb.block k fun e => ?_, fun x hx => (h4 x hx).turn fun k hk => hb.block k fun e => ?_, h5⟩
  · obtain ⟨c, hc⟩ := own_cells2 h3 hk
    rw [e, show W.heap[g]? = _ from hB] at hc
    cases hc; exact h2 rfl
  · obtain ⟨c, hc⟩ := own_cells2 (h4 x hx) hk
    rw [e, show W.heap[g]? = _ from hB] at hc
    cases hc; exact h1 rfl
theorem Own.other {W W' : World} {n0 g : Nat} {v : Value} {cur : Array Value} {E E' : TypeId} {size : Nat} {xs : List (List Value)} (h : Own W n0 E' size v xs) (hB : Box W g cur E) (h1 : E ≠ E') (hb : But g W W') : Own W' n0 E' size v xs :=
  h.turn fun k hk => hb.block k fun e => by
    obtain ⟨c, hc⟩ := own_cells2 h hk
    rw [e, show W.heap[g]? = _ from hB] at hc
    cases hc; exact h1 rfl
/-- One cell of one station is set. -/
theorem LandR.set {W : World} {n0 : Nat} {q : LV} {L : Land} {i : Nat} {a : Stn} (h : LandR W n0 q L) (hi : L.st[i]? = some a) :
    ∃ g cur, q.a1 = some ⟨g, 0, none⟩ ∧ n0 ≤ g ∧ Box W g cur 64 ∧ (∀ j v, a.vs[j]? = some v → W.cell? ⟨g, i * 4 + j, none⟩ = some v) ∧
      ∀ j u (a' : Stn), j < 4 → a'.vs = a.vs.set j u → LandR (W.setCell ⟨g, i * 4 + j, none⟩ u) n0 q (L.setSt i a') := by
  obtain ⟨h1, h2, h3, h4⟩ := h
  have hil : i < L.st.length := (List.getElem?_eq_some_iff.1 hi).1
  have hx : (L.st.map Stn.vs)[i]? = some a.vs := by simp [hi]
  obtain ⟨q1, k1, q2, k2, q3, k3, q4, k4⟩ := q
  have hrow := h1.rowAt.2.2
  rcases h1.1.2 with ⟨hv, _⟩ | ⟨g, cap, cur, hv, hb, hg, _⟩
  · injection hv with e1 e2 e3
    omega
  · injection hv with e1 e2 e3
    subst e1
    refine ⟨g, cur, rfl, hb, hg, fun j v hj => ?_, fun j u a' hj ha => ?_⟩
    · rcases hrow with h | ⟨b, o, e, hC⟩
      · rw [h] at hx; simp at hx
      · cases e
        have := hC i a.vs hx j v hj
        rwa [Nat.zero_add] at this
    · have hbut := setCell_but W g (i * 4 + j) u
      have hB : Box W g cur 64 := hg
      have hs := h1.set hx hj u
      have e : (L.st.map Stn.vs).set i (a.vs.set j u) = (L.st.set i a').map Stn.vs := by rw [List.map_set, ha]
      rw [e] at hs
      have hlen : (L.setSt i a').st.length = L.st.length := by simp [Land.setSt]
      exact ⟨by rw [hlen]; exact hs, h2.other hB (by decide) hbut, h3.other hB (by decide) (by decide) hbut, h4.other hB (by decide) hbut⟩

/-! ### Two mirrors instead of one -/
def _root_.Go.Hill.Stn.two (a : Stn) : Stn := { a with M := 2 }
theorem ok_two {a : Stn} (h : a.ok = true) : a.two.ok = true := by
  unfold Stn.ok at h ⊢
  simp only [Bool.and_eq_true] at h ⊢
  exact ⟨h.1, show inB 2 1 2 = true by decide⟩
theorem chk_two0 {L : Land} : L.chk = 0 ↔ L.lim = false ∧ L.arg = false := by
  unfold Land.chk
  cases L.lim <;> cases L.arg <;> simp
theorem same_set {l : List Stn} {i : Nat} {a a' : Stn} (hi : l[i]? = some a) (hX : a'.X = a.X) (hY : a'.Y = a.Y) (m n : Nat) : sameAt (l.set i a') m n = sameAt l m n := by
  have key : ∀ k, (l.set i a')[k]? = l[k]? ∨ ∃ b b' : Stn, l[k]? = some b ∧ (l.set i a')[k]? = some b' ∧ b'.X = b.X ∧ b'.Y = b.Y := fun k => by
    rw [List.getElem?_set]
    by_cases hk : i = k
    · subst hk
      have hil : i < l.length := (List.getElem?_eq_some_iff.1 hi).1
      exact .inr ⟨a, a', hi, by rw [List.getElem?_set, if_pos rfl, if_pos hil], hX, hY⟩
    · exact .inl (by rw [if_neg hk])
  unfold sameAt
  rcases key m with h1 | ⟨b, b', h1, h1', x1, y1⟩ <;> rcases key n with h2 | ⟨c, c', h2, h2', x2, y2⟩
  · rw [h1, h2]
  · rw [h1, h2, h2']; cases l[m]? with | none => rfl | some z => simp only [x2, y2]
  · rw [h2, h1, h1']; cases l[n]? with | none => rfl | some z => simp only [x1, y1]
  · rw [h1, h1', h2, h2']; simp [x1, y1, x2, y2]
theorem chk_set {L : Land} {i : Nat} {a a' : Stn} (hi : L.st[i]? = some a) (hX : a'.X = a.X) (hY : a'.Y = a.Y) (hok : a'.ok = true) (h : L.chk = 0) : (L.setSt i a').chk = 0 := by
  rw [chk_two0] at h ⊢
  obtain ⟨h1, h2⟩ := h
  constructor
  · rw [← h1]
    unfold Land.lim Land.setSt
    simp only [List.length_set]
  · have hap : apartTo (L.st.set i a') L.st.length = apartTo L.st L.st.length := by unfold apartTo; simp only [same_set hi hX hY]
    unfold Land.arg at h2 ⊢
    simp only [Bool.or_eq_false_iff] at h2 ⊢
    obtain ⟨⟨⟨⟨⟨⟨⟨b1, b2⟩, b3⟩, b4⟩, b5⟩, b6⟩, b7⟩, b8⟩ := h2
    refine ⟨⟨⟨⟨⟨⟨⟨?_, b2⟩, b3⟩, ?_⟩, ?_⟩, b6⟩, b7⟩, b8⟩
    · simpa [Land.setSt] using b1
    · simp only [Bool.not_eq_false', List.all_eq_true] at b4 ⊢
      intro x hx
      rcases List.mem_or_eq_of_mem_set hx with hx | rfl
      · exact b4 x hx
      · exact hok
    · simp only [Land.setSt, List.length_set]
      rw [hap]; exact b5
section
variable {L : Land} {i : Nat} {a : Stn}
theorem st_two (hi : L.st[i]? = some a) (k : Nat) : (L.setSt i a.two).st[k]? = (L.st[k]?).map fun b => if k = i then b.two else b := by
  unfold Land.setSt
  simp only [List.getElem?_set]
  by_cases hk : i = k
  · subst hk
    have hil : i < L.st.length := (List.getElem?_eq_some_iff.1 hi).1
    rw [if_pos rfl, if_pos hil, hi]; simp
  · rw [if_neg hk]
    cases L.st[k]? with
    | none => rfl
    | some b => simp [Ne.symm hk]
theorem can_two (hi : L.st[i]? = some a) {j k t : Nat} (h : L.can i j k t = true) : (L.setSt i a.two).can i j k t = true := by
  have h1 : ∀ r, (L.setSt i a.two).rb i j r = L.rb i j r := fun r => by
    unfold Land.rb
    rw [show (L.setSt i a.two).rd = L.rd from rfl, st_two hi, st_two hi]
    cases L.rd[r]? with
    | none => rfl
    | some w => cases L.st[i]? <;> cases L.st[j]? <;> simp <;> (first | rfl | (split <;> rfl))
  have h2 : ∀ r, (L.setSt i a.two).cb i j k t r = L.cb i j k t r := fun r => by
    unfold Land.cb Land.kase
    rw [show (L.setSt i a.two).cs = L.cs from rfl, st_two hi, st_two hi]
    cases (L.cs[k]?.getD [])[r]? with
    | none => rfl
    | some w => cases L.st[i]? <;> cases L.st[j]? <;> simp <;> (first | rfl | (split <;> rfl))
  have h3 : (L.setSt i a.two).need i j t = L.need i j t := by
    unfold Land.need
    rw [show (L.setSt i a.two).sn = L.sn from rfl, st_two hi, st_two hi]
    cases L.sn[t]? with
    | none => rfl
    | some w => cases L.st[i]? <;> cases L.st[j]? <;> simp <;> (first | rfl | (split <;> rfl))
  have h4 : (L.setSt i a.two).rbs i j = L.rbs i j := by unfold Land.rbs; rw [show (L.setSt i a.two).rb i j = L.rb i j from funext h1]; rfl
  have h5 : (L.setSt i a.two).cbs i j k t = L.cbs i j k t := by unfold Land.cbs; rw [show (L.setSt i a.two).cb i j k t = L.cb i j k t from funext h2]; rfl
  have h6 : (L.setSt i a.two).up t = L.up t := rfl
  have h7 : (L.setSt i a.two).mir i = 2 := by unfold Land.mir; rw [st_two hi, hi]; simp [Stn.two]
  have h8 : L.need i j t ≤ 2 := by
    unfold Land.need
    split
    · rename_i s x y _ _ _
      have := (needM_two s x y).1
      omega
    · omega
  unfold Land.can at h ⊢
  simp only [Bool.and_eq_true, beq_iff_eq] at h ⊢
  refine ⟨h.1, ?_⟩
  have h9 := h.2
  unfold Land.why at h9 ⊢
  rw [h3, h4, h5, h6, h7, if_neg (show ¬ (2 : Int) < L.need i j t by omega)]
  by_cases hu : L.up t = false
  · rw [if_pos hu] at h9; cases h9
  · rw [if_neg hu] at h9 ⊢
    by_cases hm : L.mir i < L.need i j t
    · rw [if_pos hm] at h9; cases h9
    · rw [if_neg hm] at h9; exact h9
theorem rch_two (hi : L.st[i]? = some a) (k t : Nat) : withinB (L.rch i k t) ((L.setSt i a.two).rch i k t) = true := by
  have hw : ∀ l m : List Int, withinB l m = true ↔ ∀ x ∈ l, x ∈ m := fun l m => by simp [withinB]
  rw [hw]
  intro x hx
  obtain ⟨j, h1, h2, rfl⟩ := sel_mem.1 hx
  exact sel_mem.2 ⟨j, by simpa [Land.setSt] using h1, can_two hi h2, rfl⟩
end
theorem rch_has {L : Land} {i j k t : Nat} (hj : j < L.st.length) : (L.rch i k t).contains (j : Int) = L.can i j k t := by
  unfold Land.rch; rw [sel_contains]; simp [hj]
theorem can_self (L : Land) (i k t : Nat) : L.can i i k t = false := by unfold Land.can; simp
end Go.Proofs.Ytmfnkmmbihmjnaa
