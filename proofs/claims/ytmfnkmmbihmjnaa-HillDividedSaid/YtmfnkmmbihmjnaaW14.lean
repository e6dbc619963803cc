/- The statements' own helpers: lands converted. -/
import Derived.Test.YtmfnkmmbihmjnaaW13
open Go.RowKit
namespace Go.Proofs.Ytmfnkmmbihmjnaa
open Go.Hill

/-- It returns a land, in memory of its own. -/
def RetLand (L : Land) (w : World) (e : Ending) (w' : World) : Prop :=
  ∃ q : LV, e = .returned (.agg #[.slice q.a1 L.st.length q.c1, .slice q.a2 L.rd.length q.c2, .slice q.a3 L.cs.length q.c3, .slice q.a4 L.sn.length q.c4]) ∧ Below w.heap.size w w' ∧ LandAt w' q L

/-- Cases in memory of the call's own. -/
def CasesOwn (W : World) (n0 : Nat) (v : Value) (css : List (List Cd)) : Prop :=
  ∃ l : List CV, l.map (·.cs) = css ∧ Own W n0 85 1 v (l.map fun x => [.slice x.a x.cs.length x.c]) ∧ ∀ x ∈ l, Own W n0 84 8 (.slice x.a x.cs.length x.c) (x.cs.map Cd.vs)
theorem CasesOwn.later {W W' : World} {n0 : Nat} {v : Value} {css : List (List Cd)} (h : CasesOwn W n0 v css) (hb : Below W.heap.size W W') : CasesOwn W' n0 v css := by
  obtain ⟨l, h1, h2, h3⟩ := h
  exact ⟨l, h1, h2.later hb, fun x hx => (h3 x hx).later hb⟩
theorem CasesOwn.nil (W : World) (n0 : Nat) : CasesOwn W n0 (.slice none 0 0) [] := ⟨[], rfl, Own.nil _ _ _ _, by simp⟩
theorem CasesOwn.aside {wr w5 W' W'' : World} {B b : Nat} {E : TypeId} {s : Nat} {v1 v : Value} {css : List (List Cd)} {xs : List (List Value)} (h : CasesOwn wr B v1 css) (hb : Below wr.heap.size wr w5) (h2 : Own w5 B E s v xs) (hne : 85 ≠ E) (hne2 : 84 ≠ E) (hg : w5.grownBy W' v.ownBlock)
    (hbut : But b W' W'') (hlt : b < B) : CasesOwn W'' B v1 css := by
  obtain ⟨l, h1, h3, h4⟩ := h
  exact ⟨l, h1, h3.aside hb h2 hne hg hbut hlt, fun x hx => (h4 x hx).aside hb h2 hne2 hg hbut hlt⟩
theorem CasesOwn.row {W : World} {n0 : Nat} {v : Value} {css : List (List Cd)} (h : CasesOwn W n0 v css) : ∃ a c, v = .slice a css.length c ∧ css.length ≤ c ∧ CasesAt W a css := by
  obtain ⟨l, h1, h2, h3⟩ := h
  obtain ⟨a, c, hv, hle, hr⟩ := h2.row
  have hl : css.length = l.length := by rw [← h1]; simp
  refine ⟨a, c, by rw [hv, hl]; simp, by rw [hl]; simpa using hle, l, h1, hr, fun x hx => ?_⟩
  obtain ⟨a2, c2, hv2, _, hr2⟩ := (h3 x hx).row
  simp only [List.length_map, Value.slice.injEq] at hv2
  obtain ⟨rfl, _, _⟩ := hv2
  exact hr2

theorem CasesOwn.casesAt {W : World} {n0 : Nat} {a : Option Addr} {n c : Nat} {css : List (List Cd)} (h : CasesOwn W n0 (.slice a n c) css) : css.length = n ∧ n ≤ c ∧ CasesAt W a css := by
  obtain ⟨a', c', e, hle, hr⟩ := h.row
  cases e; exact ⟨rfl, hle, hr⟩
theorem CasesOwn.but {W W' : World} {n0 b : Nat} {v : Value} {css : List (List Cd)} (h : CasesOwn W n0 v css) (hb : But b W W') (hlt : b < n0) : CasesOwn W' n0 v css := by
  obtain ⟨l, h1, h2, h3⟩ := h
  exact ⟨l, h1, h2.but hb hlt, fun x hx => (h3 x hx).but hb hlt⟩
theorem CasesOwn.push {wr w5 W' W'' : World} {n0 b : Nat} {l : List CV} {v3 v' : Value} {a : Option Addr} {c : Nat} {x : List Cd} {css : List (List Cd)} (h1 : l.map (·.cs) = css)
    (h3 : ∀ y ∈ l, Own wr n0 84 8 (.slice y.a y.cs.length y.c) (y.cs.map Cd.vs)) (hb : Below wr.heap.size wr w5) (hO : Own w5 n0 85 1 v3 (l.map fun y => [.slice y.a y.cs.length y.c]))
    (hx : Own w5 n0 84 8 (.slice a x.length c) (x.map Cd.vs)) (hO' : Own W' n0 85 1 v' ((l.map fun y => [.slice y.a y.cs.length y.c]) ++ [[.slice a x.length c]])) (hg : w5.grownBy W' v3.ownBlock)
    (hbut : But b W' W'') (hlt : b < n0) : CasesOwn W'' n0 v' (css ++ [x]) := by
  refine ⟨l ++ [⟨a, c, x⟩], by simp [h1], ?_, ?_⟩
  · have := hO'.but hbut hlt
    simpa using this
  · intro y hy
    rcases List.mem_append.1 hy with hy | hy
    · exact (h3 y hy).aside hb hO (by decide) hg hbut hlt
    · simp at hy; subst hy
      exact (hx.apart hO (by decide) hg).but hbut hlt

/-- A value that owns a row; a slice of one such value, in a block of its own. -/
def ownSpec (n0 : Nat) (E : TypeId) (size : Nat) (xs : List (List Value)) : Fat.Spec := fun v _ _ w => Own w n0 E size v xs
def oneOwnSpec (T : TypeId) (n0 : Nat) (E : TypeId) (size : Nat) (xs : List (List Value)) : Fat.Spec := fun v lo hi w => v = .slice (some ⟨lo, 0, none⟩) 1 1 ∧ lo < hi ∧ ∃ u, Box w lo #[u] T ∧ Own w n0 E size u xs
theorem ownSpec_lasting (n0 : Nat) (E : TypeId) (size : Nat) (xs : List (List Value)) : Fat.Lasting (ownSpec n0 E size xs) := fun _ _ _ _ _ hb _ h => Own.later h hb
theorem oneOwnSpec_lasting (T : TypeId) (n0 : Nat) (E : TypeId) (size : Nat) (xs : List (List Value)) : Fat.Lasting (oneOwnSpec T n0 E size xs) := fun _ _ _ _ _ hb _ h =>
  ⟨h.1, h.2.1, let ⟨u, h1, h2⟩ := h.2.2; ⟨u, h1.later hb, h2.later hb⟩⟩
theorem oneOwnSpec_new {w : World} (T : TypeId) {n0 : Nat} {E : TypeId} {size : Nat} {xs : List (List Value)} {u : Value} (h : Own w n0 E size u xs) :
    Below w.heap.size w (w.alloc (.cells #[u] T)) ∧ oneOwnSpec T n0 E size xs (.slice (some ⟨w.heap.size, 0, none⟩) 1 1) w.heap.size (w.heap.size + 1) (w.alloc (.cells #[u] T)) :=
  ⟨al (Below.refl _ _) _, rfl, by simp, u, Box.new w _ T, h.later (al (Below.refl _ _) _)⟩

/-- A land that is being converted. -/
structure LS (q : LV) (L : Land) (w : World) (n0 k1 k2 k3 k4 : Nat) (wr : World) : Prop where
  hW : Below w.heap.size w wr
  hsz : n0 ≤ wr.heap.size
  b1 : Box wr w.heap.size #[.slice q.a1 L.st.length q.c1, .slice q.a2 L.rd.length q.c2, .slice q.a3 L.cs.length q.c3, .slice q.a4 L.sn.length q.c4] 27
  b2 : Box wr (w.heap.size + 1) #[.slice none 0 0, .slice none 0 0, .slice none 0 0, .slice none 0 0] 39
  ex : ∃ v1 v2 v3 v4, Box wr (w.heap.size + 1 + 1) #[v1, v2, v3, v4] 39 ∧ Own wr n0 81 4 v1 ((L.st.take k1).map Stn.vs) ∧ Own wr n0 82 6 v2 ((L.rd.take k2).map Wl.vs) ∧
    CasesOwn wr n0 v3 (L.cs.take k3) ∧ Own wr n0 99 3 v4 ((L.sn.take k4).map Sn.vs)

section
variable {q : LV} {L : Land} {w : World} {n0 k1 k2 k3 k4 : Nat} {wr w5 W' : World}
theorem LS.begin (hW : Below w.heap.size w wr) (b1 : Box wr w.heap.size #[.slice q.a1 L.st.length q.c1, .slice q.a2 L.rd.length q.c2, .slice q.a3 L.cs.length q.c3, .slice q.a4 L.sn.length q.c4] 27)
    (b2 : Box wr (w.heap.size + 1) #[.slice none 0 0, .slice none 0 0, .slice none 0 0, .slice none 0 0] 39) (b3 : Box wr (w.heap.size + 1 + 1) #[.slice none 0 0, .slice none 0 0, .slice none 0 0, .slice none 0 0] 39) :
    LS q L w wr.heap.size 0 0 0 0 wr :=
  ⟨hW, Nat.le_refl _, b1, b2, _, _, _, _, b3, Own.nil _ _ _ _, Own.nil _ _ _ _, CasesOwn.nil _ _, Own.nil _ _ _ _⟩
/-- The frame's part of a round: an append, and a store into the land's variable. -/
theorem LS.turn (hW : Below w.heap.size w wr) (hsz : n0 ≤ wr.heap.size) (b1 : Box W' w.heap.size #[.slice q.a1 L.st.length q.c1, .slice q.a2 L.rd.length q.c2, .slice q.a3 L.cs.length q.c3, .slice q.a4 L.sn.length q.c4] 27)
    (b2 : Box W' (w.heap.size + 1) #[.slice none 0 0, .slice none 0 0, .slice none 0 0, .slice none 0 0] 39) {cs : Array Value} (b3 : Box W' (w.heap.size + 1 + 1) cs 39) (hn : w.heap.size + 1 + 1 < n0)
    (hb5 : Below wr.heap.size wr w5) (hb' : Below n0 w5 W') (i : Nat) (u : Value) :
    Below w.heap.size w (W'.setCell ⟨w.heap.size + 1 + 1, i, none⟩ u) ∧ n0 ≤ (W'.setCell ⟨w.heap.size + 1 + 1, i, none⟩ u).heap.size ∧
    Box (W'.setCell ⟨w.heap.size + 1 + 1, i, none⟩ u) w.heap.size #[.slice q.a1 L.st.length q.c1, .slice q.a2 L.rd.length q.c2, .slice q.a3 L.cs.length q.c3, .slice q.a4 L.sn.length q.c4] 27 ∧
    Box (W'.setCell ⟨w.heap.size + 1 + 1, i, none⟩ u) (w.heap.size + 1) #[.slice none 0 0, .slice none 0 0, .slice none 0 0, .slice none 0 0] 39 ∧
    Box (W'.setCell ⟨w.heap.size + 1 + 1, i, none⟩ u) (w.heap.size + 1 + 1) (cs.setIfInBounds i u) 39 := by
  have hbut := setCell_but W' (w.heap.size + 1 + 1) i u
  refine ⟨?_, ?_, hbut.box b1 (by omega), hbut.box b2 (by omega), setCell_box b3 i u⟩
  · exact hbut.below ((over hW hb5).trans (hb'.mono (by omega))) (by omega)
  · rw [hbut.size]; exact Nat.le_trans hsz (Nat.le_trans hb5.size hb'.size)
end
end Go.Proofs.Ytmfnkmmbihmjnaa
