/- An append of a whole row onto a new slice. -/
import Derived.Test.YtbphpeoddifkfaaGrow0
open Go.RowKit
namespace Go.Proofs.Ytbphpeoddifkfaa

theorem flat_cells {W : World} {b o size : Nat} {xs : List (List Value)} (h : Cells W b o size xs) (hl : ∀ x ∈ xs, x.length = size) (h0 : 0 < size) (j : Nat) (u : Value) (hj : xs.flatten[j]? = some u) : W.cell? ⟨b, o + j, none⟩ = some u := by
  have h1 : j < xs.flatten.length := (List.getElem?_eq_some_iff.1 hj).1
  rw [flat_length xs hl] at h1
  have h2 : j / size < xs.length := Nat.div_lt_of_lt_mul (by rw [Nat.mul_comm]; exact h1)
  have h3 := Nat.mod_lt j h0
  have hx : xs[j / size]? = some xs[j / size] := by simp [h2]
  have hlen : xs[j / size].length = size := hl _ (List.getElem_mem h2)
  have hv : xs[j / size][j % size]? = some (xs[j / size][j % size]'(by omega)) := by simp [hlen, h3]
  have h4 := flat_at xs (j / size) _ hl hx (j % size) _ hv
  have h5 : j / size * size + j % size = j := by rw [Nat.mul_comm]; exact Nat.div_add_mod j size
  rw [h5, hj] at h4
  have h6 := h (j / size) _ hx (j % size) _ hv
  rw [show o + j / size * size + j % size = o + j by omega] at h6
  rw [h6, ← h4]

theorem run_append_fresh {P : Program} {t ty E : TypeId} {size bytes : Nat} (he : Elem P t E size bytes) (h0 : 0 < size) (w : World) (g base : Nat) (hg : Box w g #[] E) (hb : base ≤ g) (xs : List (List Value)) (hl : ∀ x ∈ xs, x.length = size) (h1 : ∀ x ∈ xs, ∀ u ∈ x, u.oneCell' = true)
    (a : Option Addr) (c : Nat) (hr : RowAt w a size xs) (hn : xs.length ≤ 1000) (hby : bytes ≤ 1000) :
    ∃ v' w', (Builtin.append_ #[t, t] ty #[.slice (some ⟨g, 0, none⟩) 0 0, .slice a xs.length c]).run P w = .ok v' w' ∧ Below w.heap.size w w' ∧ Own w' base E size v' xs := by
  obtain ⟨i, z, hi, hz, i1, i2, i3⟩ := he.get
  have hglt := hg.lt
  have hown : w.ownsRow base E size (.slice (some ⟨g, 0, none⟩) 0 0) 0 [] := ⟨by simp, .inr ⟨g, 0, #[], rfl, hb, hg, Nat.le_refl _, Nat.zero_le _, by simp, by simp⟩⟩
  cases a with
  | none =>
    have hx : xs = [] := by
      rcases hr with h | ⟨b, o, h, _⟩
      · exact h
      · cases h
    subst hx
    refine ⟨.slice (some ⟨g, 0, none⟩) 0 0, w, ?_, Below.refl _ _, hown, by simp⟩
    simp [Builtin.append_, run_underlying he.ht, sizeOf, typeInfo, hi, Builtin.lenOf, Builtin.firstCells, loadCells, loadCellsFrom]
    rfl
  | some ad =>
    have hnews : ∀ j u, xs.flatten[j]? = some u → w.cell? (ad.add j) = some u := fun j u hj => by
      rcases hr with h | ⟨b, o, h, hC⟩
      · subst h; simp at hj
      · cases h
        rw [Addr.add_lit]
        exact flat_cells hC hl h0 j u hj
    have hfl : xs.flatten.length = xs.length * size := flat_length xs hl
    have h1' : ∀ u ∈ xs.flatten, u.oneCell' = true := fun u hu => by
      obtain ⟨x, hx, hux⟩ := List.mem_flatten.1 hu
      exact h1 x hx u hux
    have hbb : (0 + xs.length) * bytes ≤ 140737488355328 := by
      have : xs.length * bytes ≤ 1000 * 1000 := Nat.mul_le_mul hn hby
      rw [Nat.zero_add]; omega
    obtain ⟨v', w', hrun, ho, hgr, _, _⟩ := run_append_own_at (P := P) w base t ty E i z size bytes he.ht hi hz i1 i2 i3 h0 (.slice (some ⟨g, 0, none⟩) 0 0) 0 [] hown ad xs.length c xs.flatten hfl hnews h1' (by unfold maxLen; omega) hbb (by omega)
    refine ⟨v', w', hrun, ?_, by rw [Nat.zero_add, List.nil_append] at ho; exact ho, hl⟩
    refine ⟨hgr.os, hgr.tape, hgr.output, hgr.size, fun k hk => ?_⟩
    by_cases hkg : k = g
    · subst hkg
      by_cases hm : xs.length = 0
      · have hx : xs = [] := List.length_eq_zero_iff.1 hm
        subst hx
        have hr2 := run_append_room (P := P) w t ty E i he.ht hi k 0 0 #[] hg ad 0 c [] (by simp) (fun j u hj => by simp at hj) (fun u hu => by cases hu) (Nat.le_refl _) (by simp)
        rw [show ([] : List (List Value)).length = 0 from rfl, hr2] at hrun
        cases hrun
        rw [setRow_heap w k #[] _ E _ hg]
        simpa using hg.symm
      · have hr2 := run_append_grow (P := P) w t ty E i z he.ht hi hz ⟨k, 0, none⟩ 0 0 [] (by simp) (fun j u hj => by simp at hj) ad xs.length c xs.flatten (by rw [i1]; exact hfl) hnews (by omega) (by omega) (growslice_fits (by omega) (by rw [i2]; exact hbb))
        rw [hr2] at hrun
        cases hrun
        exact Below.heap_alloc w.drew _ k hk
    · exact hgr.block k hk (fun e => hkg (by simpa [Value.ownBlock] using e))

theorem gives_append {P : Program} {o : Oper} {A : Act} {t E : TypeId} {size bytes : Nat} (he : Elem P t E size bytes) (h0 : 0 < size) {x y : Operand} (ho : o.op = .call { callee := .builtin .append, args := #[x, y], argTypes := #[t, t] })
    (w : World) (g base : Nat) (hx : A.eval x = .slice (some ⟨g, 0, none⟩) 0 0) (hg : Box w g #[] E) (hb : base ≤ g) (xs : List (List Value)) (hl : ∀ x ∈ xs, x.length = size) (h1 : ∀ x ∈ xs, ∀ u ∈ x, u.oneCell' = true)
    (a : Option Addr) (n c : Nat) (hy : A.eval y = .slice a n c) (hnn : n = xs.length) (hr : RowAt w a size xs) (hn : xs.length ≤ 1000) (hby : bytes ≤ 1000) :
    Fat.gives P o A w fun v w' => Below w.heap.size w w' ∧ Own w' base E size v xs := by
  subst hnn
  obtain ⟨v', w', hrun, h2, h3⟩ := run_append_fresh (ty := o.type) he h0 w g base hg hb xs hl h1 a c hr hn hby
  unfold Fat.gives execOp
  simp only [ho, resolve, invoke, builtin, Sem.run_bind, Sem.run_pure, Result.andThen_ok, List.map_toArray, List.map_cons, List.map_nil, hx, hy, hrun]
  exact ⟨h2, h3⟩
/-- At the walk. -/
theorem wpList_fresh {P : Program} {ops : Array Oper} {rest : List Oper} {o : Oper} {a : Act} {W : World} {Q : Exit → Act → World → Prop} (hgd : o.guard = none) (s x : Operand) (t : TypeId)
    (ho : o.op = .call { callee := .builtin .append, args := #[s, x], argTypes := #[t, t] }) {E : TypeId} {size bytes : Nat} (he : Elem P t E size bytes) (h0 : 0 < size) {g base : Nat} (hs : a.eval s = .slice (some ⟨g, 0, none⟩) 0 0) (hg : Box W g #[] E) (hb : base ≤ g)
    (xs : List (List Value)) (hl : ∀ x ∈ xs, x.length = size) (h1 : ∀ x ∈ xs, ∀ u ∈ x, u.oneCell' = true) {ad : Option Addr} {n c : Nat} (hx : a.eval x = .slice ad n c) (hnn : n = xs.length) (hr : RowAt W ad size xs) (hn : xs.length ≤ 1000) (hby : bytes ≤ 1000)
    (h : ∀ v' W', Below W.heap.size W W' → Own W' base E size v' xs → wpList P ops Q rest (a.put o.dst v') W') : wpList P ops Q (o :: rest) a W := by
  subst hnn
  obtain ⟨v', w', hrun, h2, h3⟩ := run_append_fresh (ty := o.type) he h0 W g base hg hb xs hl h1 ad c hr hn hby
  refine wpList_plain hgd fun _ hK => ?_
  unfold Oper.wp execOp
  simp only [ho, resolve, invoke, builtin, Sem.run_bind, Sem.run_pure, Result.andThen_ok, List.map_toArray, List.map_cons, List.map_nil, hs, hx, hrun]
  exact hK _ _ (h v' w' h2 h3)
/-- Onto the nil slice. -/
theorem run_append_nil {P : Program} {t ty E : TypeId} {size bytes : Nat} (he : Elem P t E size bytes) (h0 : 0 < size) (w : World) (xs : List (List Value)) (hl : ∀ x ∈ xs, x.length = size) (h1 : ∀ x ∈ xs, ∀ u ∈ x, u.oneCell' = true)
    (a : Option Addr) (c : Nat) (hr : RowAt w a size xs) (hn : xs.length ≤ 1000) (hby : bytes ≤ 1000) :
    ∃ v' w', (Builtin.append_ #[t, t] ty #[.slice none 0 0, .slice a xs.length c]).run P w = .ok v' w' ∧ Below w.heap.size w w' ∧ Own w' w.heap.size E size v' xs := by
  obtain ⟨i, z, hi, hz, i1, i2, i3⟩ := he.get
  cases a with
  | none =>
    have hx : xs = [] := by
      rcases hr with h | ⟨b, o, h, _⟩
      · exact h
      · cases h
    subst hx
    refine ⟨.slice none 0 0, w, ?_, Below.refl _ _, Own.nil _ _ _ _⟩
    simp [Builtin.append_, run_underlying he.ht, sizeOf, typeInfo, hi, Builtin.lenOf, Builtin.firstCells]
  | some ad =>
    have hnews : ∀ j u, xs.flatten[j]? = some u → w.cell? (ad.add j) = some u := fun j u hj => by
      rcases hr with h | ⟨b, o, h, hC⟩
      · subst h; simp at hj
      · cases h
        rw [Addr.add_lit]
        exact flat_cells hC hl h0 j u hj
    have hfl : xs.flatten.length = xs.length * size := flat_length xs hl
    have h1' : ∀ u ∈ xs.flatten, u.oneCell' = true := fun u hu => by
      obtain ⟨x, hx, hux⟩ := List.mem_flatten.1 hu
      exact h1 x hx u hux
    have hbb : (0 + xs.length) * bytes ≤ 140737488355328 := by
      have : xs.length * bytes ≤ 1000 * 1000 := Nat.mul_le_mul hn hby
      rw [Nat.zero_add]; omega
    obtain ⟨v', w', hrun, ho, hgr, _, _⟩ := run_append_own_at (P := P) w w.heap.size t ty E i z size bytes he.ht hi hz i1 i2 i3 h0 (.slice none 0 0) 0 [] (World.ownsRow_nil w w.heap.size E size) ad xs.length c xs.flatten hfl hnews h1' (by unfold maxLen; omega) hbb (by omega)
    exact ⟨v', w', hrun, below_grown hgr (Nat.le_refl _) (fun k hk => by cases hk), by rw [Nat.zero_add, List.nil_append] at ho; exact ho, hl⟩
theorem wpList_onto_nil {P : Program} {ops : Array Oper} {rest : List Oper} {o : Oper} {a : Act} {W : World} {Q : Exit → Act → World → Prop} (hgd : o.guard = none) (s x : Operand) (t : TypeId)
    (ho : o.op = .call { callee := .builtin .append, args := #[s, x], argTypes := #[t, t] }) {E : TypeId} {size bytes : Nat} (he : Elem P t E size bytes) (h0 : 0 < size) (hs : a.eval s = .slice none 0 0)
    (xs : List (List Value)) (hl : ∀ x ∈ xs, x.length = size) (h1 : ∀ x ∈ xs, ∀ u ∈ x, u.oneCell' = true) {ad : Option Addr} {n c : Nat} (hx : a.eval x = .slice ad n c) (hnn : n = xs.length) (hr : RowAt W ad size xs) (hn : xs.length ≤ 1000) (hby : bytes ≤ 1000)
    (h : ∀ v' W', Below W.heap.size W W' → Own W' W.heap.size E size v' xs → wpList P ops Q rest (a.put o.dst v') W') : wpList P ops Q (o :: rest) a W := by
  subst hnn
  obtain ⟨v', w', hrun, h2, h3⟩ := run_append_nil (ty := o.type) he h0 W xs hl h1 ad c hr hn hby
  refine wpList_plain hgd fun _ hK => ?_
  unfold Oper.wp execOp
  simp only [ho, resolve, invoke, builtin, Sem.run_bind, Sem.run_pure, Result.andThen_ok, List.map_toArray, List.map_cons, List.map_nil, hs, hx, hrun]
  exact hK _ _ (h v' w' h2 h3)
/-- A row appended to a row of the call's own. -/
theorem run_append_row {P : Program} {t ty E : TypeId} {size bytes : Nat} (he : Elem P t E size bytes) (h0 : 0 < size) (w : World) (base : Nat) (hbase : base ≤ w.heap.size) (v : Value) (xs : List (List Value)) (hown : Own w base E size v xs) (ys : List (List Value)) (hl : ∀ x ∈ ys, x.length = size) (h1 : ∀ x ∈ ys, ∀ u ∈ x, u.oneCell' = true)
    (a : Option Addr) (c : Nat) (hr : RowAt w a size ys) (hn : xs.length + ys.length ≤ 1000) (hby : bytes ≤ 1000) :
    ∃ v' w', (Builtin.append_ #[t, t] ty #[v, .slice a ys.length c]).run P w = .ok v' w' ∧ Below base w w' ∧ w.grownBy w' v.ownBlock ∧ Own w' base E size v' (xs ++ ys) := by
  obtain ⟨i, z, hi, hz, i1, i2, i3⟩ := he.get
  cases a with
  | none =>
    have hx : ys = [] := by
      rcases hr with h | ⟨b, o, h, _⟩
      · exact h
      · cases h
    subst hx
    obtain ⟨a', c', rfl, hle, _⟩ := hown.row
    refine ⟨_, w, ?_, Below.refl _ _, World.grownBy.refl _ _, by rw [List.append_nil]; exact hown⟩
    simp [Builtin.append_, run_underlying he.ht, sizeOf, typeInfo, hi, Builtin.lenOf, Builtin.firstCells]
    rw [if_pos hle]
    cases a' <;> rfl
  | some ad =>
    have hnews : ∀ j u, ys.flatten[j]? = some u → w.cell? (ad.add j) = some u := fun j u hj => by
      rcases hr with h | ⟨b, o, h, hC⟩
      · subst h; simp at hj
      · cases h
        rw [Addr.add_lit]
        exact flat_cells hC hl h0 j u hj
    have hfl : ys.flatten.length = ys.length * size := flat_length ys hl
    have h1' : ∀ u ∈ ys.flatten, u.oneCell' = true := fun u hu => by
      obtain ⟨x, hx, hux⟩ := List.mem_flatten.1 hu
      exact h1 x hx u hux
    have hbb : (xs.length + ys.length) * bytes ≤ 140737488355328 := by
      have : (xs.length + ys.length) * bytes ≤ 1000 * 1000 := Nat.mul_le_mul hn hby
      omega
    obtain ⟨v', w', hrun, ho, hgr, _, _⟩ := run_append_own_at (P := P) w base t ty E i z size bytes he.ht hi hz i1 i2 i3 h0 v xs.length xs.flatten hown.1 ad ys.length c ys.flatten hfl hnews h1' (by unfold maxLen; omega) hbb hbase
    refine ⟨v', w', hrun, below_grown hgr hbase fun k hk => (hown.1.lt k hk).1, hgr, ?_, fun x hx => ?_⟩
    · rw [List.length_append, List.flatten_append]; exact ho
    · rcases List.mem_append.1 hx with hx | hx
      · exact hown.2 x hx
      · exact hl x hx
theorem wpList_append_row {P : Program} {ops : Array Oper} {rest : List Oper} {o : Oper} {a : Act} {W : World} {Q : Exit → Act → World → Prop} (hgd : o.guard = none) (s x : Operand) (t : TypeId)
    (ho : o.op = .call { callee := .builtin .append, args := #[s, x], argTypes := #[t, t] }) {E : TypeId} {size bytes : Nat} (he : Elem P t E size bytes) (h0 : 0 < size) {base : Nat} (hbase : base ≤ W.heap.size) {v : Value} {xs : List (List Value)} (hs : a.eval s = v) (hown : Own W base E size v xs)
    (ys : List (List Value)) (hl : ∀ x ∈ ys, x.length = size) (h1 : ∀ x ∈ ys, ∀ u ∈ x, u.oneCell' = true) {ad : Option Addr} {n c : Nat} (hx : a.eval x = .slice ad n c) (hnn : n = ys.length) (hr : RowAt W ad size ys) (hn : xs.length + ys.length ≤ 1000) (hby : bytes ≤ 1000)
    (h : ∀ v' W', Below base W W' → W.grownBy W' v.ownBlock → Own W' base E size v' (xs ++ ys) → wpList P ops Q rest (a.put o.dst v') W') : wpList P ops Q (o :: rest) a W := by
  subst hnn
  obtain ⟨v', w', hrun, h2, h3, h4⟩ := run_append_row (ty := o.type) he h0 W base hbase v xs hown ys hl h1 ad c hr hn hby
  refine wpList_plain hgd fun _ hK => ?_
  unfold Oper.wp execOp
  simp only [ho, resolve, invoke, builtin, Sem.run_bind, Sem.run_pure, Result.andThen_ok, List.map_toArray, List.map_cons, List.map_nil, hs, hx, hrun]
  exact hK _ _ (h v' w' h2 h3 h4)
/-- A row of numbers. -/
abbrev ivs (l : List Int) : List (List Value) := l.map fun n => [Value.int .i64 n]
theorem ivs_one (l : List Int) : ∀ x ∈ ivs l, x.length = 1 := by
  intro x hx
  obtain ⟨n, _, rfl⟩ := List.mem_map.1 hx
  rfl
theorem ivs_cell (l : List Int) : ∀ x ∈ ivs l, ∀ u ∈ x, u.oneCell' = true := by
  intro x hx u hu
  obtain ⟨n, _, rfl⟩ := List.mem_map.1 hx
  simp at hu; subst hu; rfl
/-- It returns a row of its own. -/
def RetRow (E : TypeId) (size : Nat) (xs : List (List Value)) (w : World) (e : Ending) (w' : World) : Prop :=
  ∃ v, e = .returned v ∧ Below w.heap.size w w' ∧ Own w' w.heap.size E size v xs
end Go.Proofs.Ytbphpeoddifkfaa
