/- Several copies of a land side by side. -/
import Derived.Test.YtmfnkmmbihmjnaaMore1
open Go.RowKit
namespace Go.Proofs.Ytmfnkmmbihmjnaa
open Go.Hill

theorem CasesR.apart {W W' : World} {n0 base1 size1 : Nat} {E1 : TypeId} {v v1 : Value} {xs1 : List (List Value)} {css : List (List Cd)} (h : CasesR W n0 v css) (h1 : Own W base1 E1 size1 v1 xs1) (e1 : E1 ≠ 61) (e2 : E1 ≠ 59) (hg : W.grownBy W' v1.ownBlock) : CasesR W' n0 v css := by
  obtain ⟨l, a1, a2, a3, a4⟩ := h
  exact ⟨l, a1, a2.apart h1 (Ne.symm e2) hg, fun x hx => (a3 x hx).apart h1 (Ne.symm e1) hg, a4⟩
/-- A row of cases, when one cell of another row of cases is set. -/
theorem CasesR.away {W : World} {n0 g p : Nat} {v u : Value} {css : List (List Cd)} {cur : Array Value} (h : CasesR W n0 v css) (hB : Box W g cur 59) (hne : v.ownBlock ≠ some g) : CasesR (W.setCell ⟨g, p, none⟩ u) n0 v css := by
  obtain ⟨l, a1, a2, a3, a4⟩ := h
  have hbut := setCell_but W g p u
  exact ⟨l, a1, a2.turn fun k hk => hbut.block k fun e => hne (by rw [hk, e]), fun x hx => (a3 x hx).other hB (by decide) hbut, a4⟩
/-- Blocks of clouds and of cases between two marks are as they were. -/
def SameC (lo hi : Nat) (w w' : World) : Prop := ∀ b cs T, lo ≤ b → b < hi → Box w b cs T → T = 61 ∨ T = 59 → Box w' b cs T
/-- Cases whose rows lie between two marks. -/
def CasesB (W : World) (lo hi : Nat) (v : Value) (css : List (List Cd)) : Prop :=
  ∃ l : List CV, (l.map (·.cs) = css ∧ Own W lo 59 1 v (l.map fun x => [x.val]) ∧ (∀ x ∈ l, Own W lo 61 8 x.val (x.cs.map Cd.vs)) ∧ l.Pairwise fun x y => ∀ g, x.val.ownBlock = some g → y.val.ownBlock ≠ some g) ∧
    (∀ g, v.ownBlock = some g → g < hi) ∧ ∀ x ∈ l, ∀ g, x.val.ownBlock = some g → g < hi
section
variable {W W' : World} {lo hi : Nat} {v : Value} {css : List (List Cd)}
theorem CasesB.now (h : CasesB W lo hi v css) : CasesR W lo v css := by
  obtain ⟨l, h1, _, _⟩ := h; exact ⟨l, h1⟩
theorem CasesB.of (h : CasesR W lo v css) : CasesB W lo W.heap.size v css := by
  obtain ⟨l, h1, h2, h3, h4⟩ := h
  exact ⟨l, ⟨h1, h2, h3, h4⟩, fun g hg => (h2.1.lt g hg).2, fun x hx g hg => ((h3 x hx).1.lt g hg).2⟩
theorem CasesB.carry (h : CasesB W lo hi v css) (ha : SameC lo hi W W') : CasesB W' lo hi v css := by
  obtain ⟨l, ⟨h1, h2, h3, h4⟩, h5, h6⟩ := h
  refine ⟨l, ⟨h1, h2.turn fun k hk => ?_, fun x hx => (h3 x hx).turn fun k hk => ?_, h4⟩, h5, h6⟩
  · obtain ⟨cur, hc⟩ := own_cells2 h2 hk
    exact (show W'.heap[k]? = _ from ha k cur _ (h2.1.lt k hk).1 (h5 k hk) hc (.inr rfl)).trans hc.symm
  · obtain ⟨cur, hc⟩ := own_cells2 (h3 x hx) hk
    exact (show W'.heap[k]? = _ from ha k cur _ ((h3 x hx).1.lt k hk).1 (h6 x hx k hk) hc (.inl rfl)).trans hc.symm
theorem CasesB.row {k : Nat} {cs : List Cd} (h : CasesB W lo hi v css) (hk : css[k]? = some cs) :
    ∃ (g cap : Nat) (x : CV), v = .slice (some ⟨g, 0, none⟩) css.length cap ∧ lo ≤ g ∧ g < hi ∧ W.cell? ⟨g, k, none⟩ = some x.val ∧ x.cs = cs ∧ ∀ b, x.val.ownBlock = some b → lo ≤ b ∧ b < hi := by
  obtain ⟨l, ⟨h1, h2, h3, h4⟩, h5, h6⟩ := h
  subst h1
  rw [List.getElem?_map] at hk
  cases hx : l[k]? with
  | none => rw [hx] at hk; cases hk
  | some x =>
    rw [hx] at hk
    simp only [Option.map_some, Option.some.injEq] at hk
    subst hk
    have hkl : k < l.length := (List.getElem?_eq_some_iff.1 hx).1
    have hxm := List.mem_of_getElem? hx
    obtain ⟨a, c, hv, _, _⟩ := h2.row
    subst hv
    rw [List.length_map] at h2 h5
    obtain ⟨g, cur, e, hg, hB, hC⟩ := own_row h2 (by omega)
    subst e
    refine ⟨g, c, x, by simp, hg, h5 g rfl, ?_, rfl, fun b hb => ⟨((h3 x hxm).1.lt b hb).1, h6 x hxm b hb⟩⟩
    have := cells_one (f := CV.val) hC hx
    rwa [Nat.zero_add] at this
end
/-- A copied land whose rows lie between two marks. -/
structure Rest (L : Land) (q : LV) (lo hi : Nat) (w : World) : Prop where
  le : hi ≤ w.heap.size
  lt : lo ≤ hi
  st : Own w lo 64 4 (.slice q.a1 L.st.length q.c1) (L.st.map Stn.vs) ∧ ∀ g, (Value.slice q.a1 L.st.length q.c1).ownBlock = some g → g < hi
  rd : Own w lo 55 6 (.slice q.a2 L.rd.length q.c2) (L.rd.map Wl.vs) ∧ ∀ g, (Value.slice q.a2 L.rd.length q.c2).ownBlock = some g → g < hi
  cs : CasesB w lo hi (.slice q.a3 L.cs.length q.c3) L.cs
  sn : Own w lo 50 3 (.slice q.a4 L.sn.length q.c4) (L.sn.map Sn.vs) ∧ ∀ g, (Value.slice q.a4 L.sn.length q.c4).ownBlock = some g → g < hi
def landSpec (L : Land) : Fat.Spec := fun v lo hi w => ∃ q : LV, v = .agg #[.slice q.a1 L.st.length q.c1, .slice q.a2 L.rd.length q.c2, .slice q.a3 L.cs.length q.c3, .slice q.a4 L.sn.length q.c4] ∧ Rest L q lo hi w
section
variable {L : Land} {q : LV} {lo hi g : Nat} {w w' : World}
theorem Rest.now (h : Rest L q lo hi w) : LandR w lo q L := ⟨h.st.1, h.rd.1, h.cs.now, h.sn.1⟩
theorem Rest.carry (h : Rest L q lo hi w) (hs : w.heap.size ≤ w'.heap.size) (ha : ∀ b, lo ≤ b → b < hi → w'.heap[b]? = w.heap[b]?) : Rest L q lo hi w' :=
  ⟨Nat.le_trans h.le hs, h.lt, ⟨h.st.1.turn fun k hk => ha k (h.st.1.1.lt k hk).1 (h.st.2 k hk), h.st.2⟩, ⟨h.rd.1.turn fun k hk => ha k (h.rd.1.1.lt k hk).1 (h.rd.2 k hk), h.rd.2⟩,
    h.cs.carry fun b _ _ b1 b2 hB _ => (ha b b1 b2).trans hB, ⟨h.sn.1.turn fun k hk => ha k (h.sn.1.1.lt k hk).1 (h.sn.2 k hk), h.sn.2⟩⟩
theorem Rest.later (h : Rest L q lo hi w) (hb : Below w.heap.size w w') : Rest L q lo hi w' := h.carry hb.size fun b _ b2 => hb.block b (Nat.lt_of_lt_of_le b2 h.le)
theorem Rest.but (h : Rest L q lo hi w) (hb : But g w w') (hg : g < lo ∨ hi ≤ g) : Rest L q lo hi w' := h.carry (by rw [hb.size]; exact Nat.le_refl _) fun b b1 b2 => hb.block b (by omega)
theorem Rest.grown {row : Option Nat} (h : Rest L q lo hi w) (hg : w.grownBy w' row) (hr : ∀ g, row = some g → g < lo ∨ hi ≤ g) : Rest L q lo hi w' :=
  h.carry hg.size fun b b1 b2 => hg.block b (Nat.lt_of_lt_of_le b2 h.le) fun e => by have := hr b e.symm; omega
theorem landSpec_of (h : LandR w' w.heap.size q L) (hb : Below w.heap.size w w') : landSpec L (.agg #[.slice q.a1 L.st.length q.c1, .slice q.a2 L.rd.length q.c2, .slice q.a3 L.cs.length q.c3, .slice q.a4 L.sn.length q.c4]) w.heap.size w'.heap.size w' :=
  ⟨q, rfl, Nat.le_refl _, hb.size, ⟨h.st, fun g hg => (h.st.1.lt g hg).2⟩, ⟨h.rd, fun g hg => (h.rd.1.lt g hg).2⟩, CasesB.of h.cs, ⟨h.sn, fun g hg => (h.sn.1.lt g hg).2⟩⟩
end
theorem landSpec_lasting (L : Land) : Fat.Lasting (landSpec L) := fun _ _ _ _ _ hb _ ⟨q, h1, h2⟩ => ⟨q, h1, h2.later hb⟩
/-- The cases alone. -/
structure RestC (css : List (List Cd)) (v : Value) (lo hi : Nat) (w : World) : Prop where
  le : hi ≤ w.heap.size
  cases : CasesB w lo hi v css
theorem Rest.toC {L : Land} {q : LV} {lo hi : Nat} {w : World} (h : Rest L q lo hi w) : RestC L.cs (.slice q.a3 L.cs.length q.c3) lo hi w := ⟨h.le, h.cs⟩
section
variable {css : List (List Cd)} {v : Value} {lo hi g : Nat} {w w' : World}
theorem RestC.carry (h : RestC css v lo hi w) (hs : w.heap.size ≤ w'.heap.size) (ha : SameC lo hi w w') : RestC css v lo hi w' := ⟨Nat.le_trans h.le hs, h.cases.carry ha⟩
theorem RestC.later (h : RestC css v lo hi w) (hb : Below w.heap.size w w') : RestC css v lo hi w' := h.carry hb.size fun _ _ _ _ _ hB _ => hB.later hb
theorem RestC.but (h : RestC css v lo hi w) (hb : But g w w') (hg : g < lo ∨ hi ≤ g) : RestC css v lo hi w' := h.carry (by rw [hb.size]; exact Nat.le_refl _) fun b _ _ b1 b2 hB _ => hb.box hB (by omega)
theorem RestC.butT {c : Array Value} {T : TypeId} (h : RestC css v lo hi w) (hb : But g w w') (hB : Box w g c T) (h1 : T ≠ 61) (h2 : T ≠ 59) : RestC css v lo hi w' :=
  h.carry (by rw [hb.size]; exact Nat.le_refl _) fun b cs T' _ _ hB' hT => hb.box hB' fun e => by
    subst e
    unfold Box at hB hB'
    rw [hB] at hB'
    injection hB' with h3
    injection h3 with _ h4
    subst h4
    rcases hT with h | h
    · exact h1 h
    · exact h2 h
theorem RestC.grown {row : Option Nat} (h : RestC css v lo hi w) (hg : w.grownBy w' row) (hr : ∀ g, row = some g → g < lo ∨ hi ≤ g) : RestC css v lo hi w' :=
  h.carry hg.size fun b _ _ b1 b2 hB _ => (hg.block b (Nat.lt_of_lt_of_le b2 h.le) fun e => by have := hr b e.symm; omega).trans hB
theorem RestC.grownT {base size : Nat} {E : TypeId} {u : Value} {xs : List (List Value)} (h : RestC css v lo hi w) (hO : Own w base E size u xs) (h1 : E ≠ 61) (h2 : E ≠ 59) (hg : w.grownBy w' u.ownBlock) : RestC css v lo hi w' :=
  h.carry hg.size fun b _ T b1 b2 hB hT => (hg.block b (Nat.lt_of_lt_of_le b2 h.le) fun e => own_ne hO hB (by rcases hT with h | h <;> rw [h] <;> exact Ne.symm (by assumption)) e.symm).trans hB
end
end Go.Proofs.Ytmfnkmmbihmjnaa
