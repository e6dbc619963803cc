/- What every walk uses: the form of a contract. -/
import Derived.Test.YtbphpeoddifkfaaProg
import Derived.Test.YtbphpeoddifkfaaFat
import Derived.WalkKit
import Derived.BigQuiet
import Derived.Deep.RegionHeld3
import Derived.Deep.DeepFit
import Derived.RangeFuncBox
import Derived.Deep.MidRow
import Derived.Lib.Hide
import Derived.Laws.EntriesVeiled
open Go.RowKit
namespace Go.Proofs.Ytbphpeoddifkfaa

/-- It returns v, and nothing that was there has turned. -/
def Ret (v : Value) (w : World) (e : Ending) (w' : World) : Prop := e = .returned v ∧ Below w.heap.size w w'

theorem bcell {W w1 : World} (hb : Below W.heap.size W w1) : (∀ b o, b < W.heap.size → w1.cell? ⟨b, o, none⟩ = W.cell? ⟨b, o, none⟩) ∧ (∀ b o, b < W.heap.size → w1.frozen? ⟨b, o, none⟩ = W.frozen? ⟨b, o, none⟩) :=
  ⟨fun b o h => hb.cell (p := ⟨b, o, none⟩) h, fun b o h => hb.frozen (p := ⟨b, o, none⟩) h⟩
theorem ret_bool {a b : Bool} (h : a = b) : Ending.returned (.bool a) = .returned (.bool b) := by rw [h]
theorem ret_int {k : IntKind} {a b : Int} (h : a = b) : Ending.returned (.int k a) = .returned (.int k b) := by rw [h]


/-! ### What has turned -/
theorem over {w W w1 : World} (h : Below w.heap.size w W) (hb : Below W.heap.size W w1) : Below w.heap.size w w1 := h.trans (hb.mono h.size)
theorem al {w W : World} (h : Below w.heap.size w W) (o : Obj) : Below w.heap.size w (W.alloc o) := h.alloc h.size o
theorem sc {w W : World} (h : Below w.heap.size w W) {p : Addr} (hp : w.heap.size ≤ p.block) (u : Value) : Below w.heap.size w (W.setCell p u) := h.setCell hp u

theorem lt1 {W w1 : World} {b : Nat} (hb : Below W.heap.size W w1) (h : b < W.heap.size) : b < w1.heap.size := Nat.lt_of_lt_of_le h hb.size

/-! ### What an operation of a drawn region is good for -/
def isSpec (u : Value) : Fat.Spec := fun v _ _ _ => v = u
def freshSpec (o : Obj) : Fat.Spec := fun v lo hi w => v = .pointer (some ⟨lo, 0, none⟩) ∧ lo < hi ∧ w.heap[lo]? = some o
theorem isSpec_local (u : Value) : Fat.Local (isSpec u) := fun _ _ _ _ _ _ _ _ _ h => h
theorem isSpec_lasting (u : Value) : Fat.Lasting (isSpec u) := fun _ _ _ _ _ _ _ h => h
theorem freshSpec_lasting (o : Obj) : Fat.Lasting (freshSpec o) := fun _ lo hi w w' hb hi' h => ⟨h.1, h.2.1, by rw [hb.block lo (Nat.lt_of_lt_of_le h.2.1 hi')]; exact h.2.2⟩
theorem freshSpec_new (o : Obj) (w : World) : Below w.heap.size w (w.alloc o) ∧ freshSpec o (.pointer (some ⟨w.heap.size, 0, none⟩)) w.heap.size (w.heap.size + 1) (w.alloc o) :=
  ⟨al (Below.refl _ _) o, rfl, by simp, World.alloc_heap_new w o⟩
attribute [go_sem] Fat.gives Fat.cell_cls Fat.frozen_cls
@[go_sem] theorem lt_up {b n : Nat} (h : b < n) : (b < n + 1) = True := by simp; omega

/-! ### Blocks that are known whole -/
def Box (W : World) (b : Nat) (cs : Array Value) (T : TypeId) : Prop := W.heap[b]? = some (.cells cs T)
section
variable {W W' : World} {b : Nat} {cs : Array Value} {T : TypeId}
theorem Box.lt (h : Box W b cs T) : b < W.heap.size := (Array.getElem?_eq_some_iff.1 h).1
theorem Box.cell (h : Box W b cs T) : ∀ o, W.cell? ⟨b, o, none⟩ = cs[o]? := fun o => by
  have : W.heap[b]? = some (.cells cs T) := h
  simp [World.cell?, this]
theorem Box.frozen (h : Box W b cs T) : ∀ o, W.frozen? ⟨b, o, none⟩ = false := fun o => by
  have : W.heap[b]? = some (.cells cs T) := h
  simp [World.frozen?, this]
theorem Box.later (h : Box W b cs T) (hb : Below W.heap.size W W') : Box W' b cs T := (hb.block b h.lt).trans h
theorem Box.new (W : World) (cs : Array Value) (T : TypeId) : Box (W.alloc (.cells cs T)) W.heap.size cs T := World.alloc_heap_new W _
theorem Box.alloc (h : Box W b cs T) (o : Obj) : Box (W.alloc o) b cs T := h.later (al (Below.refl _ _) o)
theorem Box.drew (h : Box W b cs T) : Box W.drew b cs T := h
end

/-- Nothing has turned but block b. -/
structure But (b : Nat) (w w' : World) : Prop where
  os : w'.os = w.os
  tape : w'.tape = w.tape
  output : w'.output = w.output
  size : w'.heap.size = w.heap.size
  block : ∀ k, k ≠ b → w'.heap[k]? = w.heap[k]?
theorem But.below {b : Nat} {w W W' : World} (h : But b W W') (hb : Below w.heap.size w W) (hle : w.heap.size ≤ b) : Below w.heap.size w W' :=
  hb.trans ⟨h.os, h.tape, h.output, by rw [h.size]; exact Nat.le_refl _, fun k hk => h.block k (by omega)⟩
theorem But.box {b c : Nat} {W W' : World} {cs : Array Value} {T : TypeId} (h : But b W W') (hc : Box W c cs T) (hne : c ≠ b) : Box W' c cs T := (h.block c hne).trans hc

theorem setCell_box {W : World} {b : Nat} {cs : Array Value} {T : TypeId} (h : Box W b cs T) (i : Nat) (v : Value) : Box (W.setCell ⟨b, i, none⟩ v) b (cs.setIfInBounds i v) T := by
  obtain ⟨hlt, hk⟩ := Array.getElem?_eq_some_iff.1 h
  show (W.heap.modify b _)[b]? = _
  rw [Array.getElem?_eq_getElem (by rw [Array.size_modify]; exact hlt), Array.getElem_modify_self, hk]
  rfl
theorem setCell_but (W : World) (b i : Nat) (v : Value) : But b W (W.setCell ⟨b, i, none⟩ v) :=
  ⟨rfl, rfl, rfl, by simp [World.setCell], fun k hk => Below.heap_setCell _ _ _ _ hk⟩
theorem But.trans {b : Nat} {x y z : World} (h : But b x y) (k : But b y z) : But b x z :=
  ⟨k.os.trans h.os, k.tape.trans h.tape, k.output.trans h.output, k.size.trans h.size, fun j hj => (k.block j hj).trans (h.block j hj)⟩

theorem setCells_form {b : Nat} {T : TypeId} (vs : List Value) : ∀ (o : Nat) {W : World} {cs : Array Value}, Box W b cs T → (∃ c, Box (W.setCells b o vs) b c T ∧ c.size = cs.size) ∧ But b W (W.setCells b o vs) := by
  induction vs with
  | nil => intro o W cs h; exact ⟨⟨cs, h, rfl⟩, rfl, rfl, rfl, rfl, fun _ _ => rfl⟩
  | cons v vs ih =>
    intro o W cs h
    obtain ⟨⟨c, h1, h2⟩, h3⟩ := ih (o + 1) (setCell_box h o v)
    exact ⟨⟨c, h1, by rw [h2]; simp⟩, (setCell_but W b o v).trans h3⟩
theorem setCells_box {W : World} {b : Nat} {T : TypeId} {cs cells : Array Value} (h : Box W b cs T) (hs : cs.size = cells.size) : Box (W.setCells b 0 cells.toList) b cells T ∧ But b W (W.setCells b 0 cells.toList) := by
  obtain ⟨⟨c, h1, h2⟩, h3⟩ := setCells_form (b := b) cells.toList 0 h
  refine ⟨?_, h3⟩
  have : c = cells := by
    apply Array.ext
    · omega
    · intro j hj1 hj2
      have h4 := World.cell?_setCells_in b cells.toList 0 W (fun i hi => by rw [h.cell]; simp at hi ⊢; omega) j (by simpa using hj2)
      rw [h1.cell] at h4
      simpa [hj1, hj2] using h4
  subst this; exact h1

/-- A value of several cells goes into a block that is known whole. -/
theorem wpList_store_box {P : Program} {ops : Array Oper} {rest : List Oper} {op : Oper} {a : Act} {w : World} {Q : Exit → Act → World → Prop} (hgd : op.guard = none) (hds : op.dst = none) (ty : TypeId) (x y : Operand) (ho : op.op = .store ty x y)
    (b : Nat) (cells : Array Value) (hx : a.eval x = .pointer (some ⟨b, 0, none⟩)) (hy : a.eval y = .agg cells) {old : Array Value} {T : TypeId} (hB : Box w b old T) (hs : old.size = cells.size)
    (hi : (P.info? ty).map (·.size) = some cells.size) (h1 : cells.toList.all (·.oneCell') = true)
    (h : ∀ w', Box w' b cells T → But b w w' → wpList P ops Q rest a w') : wpList P ops Q (op :: rest) a w := by
  refine wpList_store_mid hgd ty x y ho b 0 cells hx hy (fun j hj => ?_) hi (by rw [← Array.all_toList]; exact h1) ?_
  · rw [hB.cell, hB.frozen]; simp; omega
  · obtain ⟨h2, h3⟩ := setCells_box (cells := cells) hB hs
    rw [hds]
    exact h _ h2 h3

/-! ### A variable that a drawn region makes, and fills -/
/-- A new block of k cells. -/
def newSpec (T : TypeId) (k : Nat) : Fat.Spec := fun v lo hi w => v = .pointer (some ⟨lo, 0, none⟩) ∧ lo < hi ∧ ∃ cs, Box w lo cs T ∧ cs.size = k
/-- It has been filled. -/
def setSpec (T : TypeId) (cs : Array Value) : Fat.Spec := fun _ lo hi w => lo < hi ∧ Box w lo cs T
theorem newSpec_lasting (T : TypeId) (k : Nat) : Fat.Lasting (newSpec T k) := fun _ _ _ _ _ hb _ h => ⟨h.1, h.2.1, let ⟨cs, h1, h2⟩ := h.2.2; ⟨cs, h1.later hb, h2⟩⟩
theorem setSpec_lasting (T : TypeId) (cs : Array Value) : Fat.Lasting (setSpec T cs) := fun _ _ _ _ _ hb _ h => ⟨h.1, h.2.later hb⟩
theorem newSpec_local (T : TypeId) (k : Nat) : Fat.Local (newSpec T k) := fun _ lo _ _ _ _ _ hw hd h => ⟨h.1, h.2.1, let ⟨cs, h1, h2⟩ := h.2.2; ⟨cs, (hw.block lo (by have := h.2.1; omega)).trans h1, h2⟩⟩
theorem setSpec_local (T : TypeId) (cs : Array Value) : Fat.Local (setSpec T cs) := fun _ lo _ _ _ _ _ hw hd h => ⟨h.1, (hw.block lo (by have := h.1; omega)).trans h.2⟩
theorem newSpec_new (T : TypeId) (cs : Array Value) (w : World) : Below w.heap.size w (w.alloc (.cells cs T)) ∧ newSpec T cs.size (.pointer (some ⟨w.heap.size, 0, none⟩)) w.heap.size (w.heap.size + 1) (w.alloc (.cells cs T)) :=
  ⟨al (Below.refl _ _) _, rfl, by simp, cs, Box.new w cs T, rfl⟩
theorem But.wr {b lo hi : Nat} {w w' : World} (h : But b w w') (h1 : lo ≤ b) (h2 : b < hi) : Fat.Wr lo hi w w' := ⟨h.os, h.tape, h.output, h.size, fun k hk => h.block k (by omega)⟩
theorem gives_fill {P : Program} {o : Oper} {A : Act} {w : World} {ty : TypeId} {x y : Operand} (ho : o.op = .store ty x y) {lo hi : Nat} {k : Nat} {v : Value} {T : TypeId} (hn : newSpec T k v lo hi w) (cells : Array Value)
    (hx : A.eval x = v) (hy : A.eval y = .agg cells) (hs : k = cells.size) (hi' : (P.info? ty).map (·.size) = some cells.size) (h1 : cells.toList.all (·.oneCell') = true) :
    Fat.gives P o A w fun _ w' => Fat.Wr lo hi w w' ∧ setSpec T cells undef lo hi w' ∧ newSpec T k v lo hi w' := by
  obtain ⟨rfl, hlt, cs, hB, hc⟩ := hn
  obtain ⟨h2, h3⟩ := setCells_box (cells := cells) hB (by omega)
  unfold Fat.gives execOp
  simp only [ho, hx, hy, Instr.storeAt, Instr.sureAddr, Sem.run_bind, Sem.run_pure, Result.andThen_ok, run_storeVar_mid w lo 0 ty cells (fun j hj => by rw [hB.cell, hB.frozen]; simp; omega) hi' (by rw [← Array.all_toList]; exact h1)]
  exact ⟨h3.wr (Nat.le_refl _) hlt, ⟨hlt, h2⟩, rfl, hlt, cells, h2, hs.symm⟩

/-! ### A world that is written out gets a name -/
theorem Box.newAt {W : World} {n : Nat} (cs : Array Value) (T : TypeId) (h : W.heap.size = n) : Box (W.alloc (.cells cs T)) n cs T := h ▸ Box.new W cs T
section
variable {p : World → Prop} {w : World} {c1 c2 c3 c4 : Array Value} {t1 t2 t3 t4 : TypeId}
theorem named1 (h : ∀ W, Below w.heap.size w W → Box W w.heap.size c1 t1 → p W) : p (w.alloc (.cells c1 t1)) := h _ (al (Below.refl _ _) _) (Box.new _ _ _)
theorem named2 (h : ∀ W, Below w.heap.size w W → Box W w.heap.size c1 t1 → Box W (w.heap.size + 1) c2 t2 → p W) : p ((w.alloc (.cells c1 t1)).alloc (.cells c2 t2)) :=
  h _ (al (al (Below.refl _ _) _) _) ((Box.new _ _ _).alloc _) (Box.newAt _ _ (by simp))
theorem named3 (h : ∀ W, Below w.heap.size w W → Box W w.heap.size c1 t1 → Box W (w.heap.size + 1) c2 t2 → Box W (w.heap.size + 1 + 1) c3 t3 → p W) : p (((w.alloc (.cells c1 t1)).alloc (.cells c2 t2)).alloc (.cells c3 t3)) :=
  h _ (al (al (al (Below.refl _ _) _) _) _) (((Box.new _ _ _).alloc _).alloc _) ((Box.newAt _ _ (by simp)).alloc _) (Box.newAt _ _ (by simp))
theorem named4 (h : ∀ W, Below w.heap.size w W → Box W w.heap.size c1 t1 → Box W (w.heap.size + 1) c2 t2 → Box W (w.heap.size + 1 + 1) c3 t3 → Box W (w.heap.size + 1 + 1 + 1) c4 t4 → p W) : p ((((w.alloc (.cells c1 t1)).alloc (.cells c2 t2)).alloc (.cells c3 t3)).alloc (.cells c4 t4)) :=
  h _ (al (al (al (al (Below.refl _ _) _) _) _) _) ((((Box.new _ _ _).alloc _).alloc _).alloc _) (((Box.newAt _ _ (by simp)).alloc _).alloc _) ((Box.newAt _ _ (by simp)).alloc _) (Box.newAt _ _ (by simp))
end

end Go.Proofs.Ytbphpeoddifkfaa
