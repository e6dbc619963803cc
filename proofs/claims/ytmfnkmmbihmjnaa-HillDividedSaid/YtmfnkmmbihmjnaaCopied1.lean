/- Lands copied: an append of a whole row onto a new slice. -/
import Derived.Test.YtmfnkmmbihmjnaaW15
open Go.RowKit
namespace Go.Proofs.Ytmfnkmmbihmjnaa
open Go.Hill

theorem flat_cells {W : World} {b o size : Nat} {xs : List (List Value)} (h : Cells W b o size xs) (hl : ∀ x ∈ xs, x.length = size) (h0 : 0 < size) (j : Nat) (u : Value) (hj : xs.flatten[j]? = some u) : W.cell? ⟨b, o + j, none⟩ = some u := by
  have h1 : j < xs.flatten.length := (List.getElem?_eq_some_iff.1 hj).1
  rw [flat_length xs hl] at h1
  have h2 : j / size < xs.length := Nat.div_lt_of_lt_mul (by rw [Nat.mul_comm]; exact h1)
  have h3 := Nat.mod_lt j h0
  have hx : xs[j / size]? = some xs[j / size] := by simp [h2]
  have hlen : xs[j / size].length = size := hl _ (List.getElem_mem h2)
  have hv : xs[j / size][j % size]? = some (xs[j / size][j % size]'(by omega)) := by simp [hlen, h3]
  have h4 := flat_at xs (j / size) _ hl hx (j % size) _ hv
  have h5 : j / size * size + j % size = j := by rw [Nat.mul_comm]; exact Nat.div_add_mod j size
  rw [h5, hj] at h4
  have h6 := h (j / size) _ hx (j % size) _ hv
  rw [show o + j / size * size + j % size = o + j by omega] at h6
  rw [h6, ← h4]

theorem run_append_fresh {P : Program} {t ty E : TypeId} {size bytes : Nat} (he : Elem P t E size bytes) (h0 : 0 < size) (w : World) (g base : Nat) (hg : Box w g #[] E) (hb : base ≤ g) (xs : List (List Value)) (hl : ∀ x ∈ xs, x.length = size) (h1 : ∀ x ∈ xs, ∀ u ∈ x, u.oneCell' = true)
    (a : Option Addr) (c : Nat) (hr : RowAt w a size xs) (hn : xs.length ≤ 1000) (hby : bytes ≤ 1000) :
    ∃ v' w', (Builtin.append_ #[t, t] ty #[.slice (some ⟨g, 0, none⟩) 0 0, .slice a xs.length c]).run P w = .ok v' w' ∧ Below w.heap.size w w' ∧ Own w' base E size v' xs := by
  obtain ⟨i, z, hi, hz, i1, i2, i3⟩ := he.get
  have hglt := hg.lt
  have hown : w.ownsRow base E size (.slice (some ⟨g, 0, none⟩) 0 0) 0 [] := ⟨by simp, .inr ⟨g, 0, #[], rfl, hb, hg, Nat.le_refl _, Nat.zero_le _, by simp, by simp⟩⟩
  cases a with
  | none =>
    have hx : xs = [] := by
      rcases hr with h | ⟨b, o, h, _⟩
      · exact h
      · cases h
    subst hx
    refine ⟨.slice (some ⟨g, 0, none⟩) 0 0, w, ?_, Below.refl _ _, hown, by simp⟩
    simp [Builtin.append_, run_underlying he.ht, sizeOf, typeInfo, hi, Builtin.lenOf, Builtin.firstCells, loadCells, loadCellsFrom]
    rfl
  | some ad =>
    have hnews : ∀ j u, xs.flatten[j]? = some u → w.cell? (ad.add j) = some u := fun j u hj => by
      rcases hr with h | ⟨b, o, h, hC⟩
      · subst h; simp at hj
      · cases h
        rw [Addr.add_lit]
        exact flat_cells hC hl h0 j u hj
    have hfl : xs.flatten.length = xs.length * size := flat_length xs hl
    have h1' : ∀ u ∈ xs.flatten, u.oneCell' = true := fun u hu => by
      obtain ⟨x, hx, hux⟩ := List.mem_flatten.1 hu
      exact h1 x hx u hux
    have hbb : (0 + xs.length) * bytes ≤ 140737488355328 := by
      have : xs.length * bytes ≤ 1000 * 1000 := Nat.mul_le_mul hn hby
      rw [Nat.zero_add]; omega
    obtain ⟨v', w', hrun, ho, hgr, _, _⟩ := run_append_own_at (P := P) w base t ty E i z size bytes he.ht hi hz i1 i2 i3 h0 (.slice (some ⟨g, 0, none⟩) 0 0) 0 [] hown ad xs.length c xs.flatten hfl hnews h1' (by unfold maxLen; omega) hbb (by omega)
    refine ⟨v', w', hrun, ?_, by rw [Nat.zero_add, List.nil_append] at ho; exact ho, hl⟩
    refine ⟨hgr.os, hgr.tape, hgr.output, hgr.size, fun k hk => ?_⟩
    by_cases hkg : k = g
    · subst hkg
      by_cases hm : xs.length = 0
      · have hx : xs = [] := List.length_eq_zero_iff.1 hm
        subst hx
        have hr2 := run_append_room (P := P) w t ty E i he.ht hi k 0 0 #[] hg ad 0 c [] (by simp) (fun j u hj => by simp at hj) (fun u hu => by cases hu) (Nat.le_refl _) (by simp)
        rw [show ([] : List (List Value)).length = 0 from rfl, hr2] at hrun
        cases hrun
        rw [setRow_heap w k #[] _ E _ hg]
        simpa using hg.symm
      · have hr2 := run_append_grow (P := P) w t ty E i z he.ht hi hz ⟨k, 0, none⟩ 0 0 [] (by simp) (fun j u hj => by simp at hj) ad xs.length c xs.flatten (by rw [i1]; exact hfl) hnews (by omega) (by omega) (growslice_fits (by omega) (by rw [i2]; exact hbb))
        rw [hr2] at hrun
        cases hrun
        exact Below.heap_alloc w.drew _ k hk
    · exact hgr.block k hk (fun e => hkg (by simpa [Value.ownBlock] using e))

theorem gives_append {P : Program} {o : Oper} {A : Act} {t E : TypeId} {size bytes : Nat} (he : Elem P t E size bytes) (h0 : 0 < size) {x y : Operand} (ho : o.op = .call { callee := .builtin .append, args := #[x, y], argTypes := #[t, t] })
    (w : World) (g base : Nat) (hx : A.eval x = .slice (some ⟨g, 0, none⟩) 0 0) (hg : Box w g #[] E) (hb : base ≤ g) (xs : List (List Value)) (hl : ∀ x ∈ xs, x.length = size) (h1 : ∀ x ∈ xs, ∀ u ∈ x, u.oneCell' = true)
    (a : Option Addr) (n c : Nat) (hy : A.eval y = .slice a n c) (hnn : n = xs.length) (hr : RowAt w a size xs) (hn : xs.length ≤ 1000) (hby : bytes ≤ 1000) :
    Fat.gives P o A w fun v w' => Below w.heap.size w w' ∧ Own w' base E size v xs := by
  subst hnn
  obtain ⟨v', w', hrun, h2, h3⟩ := run_append_fresh (ty := o.type) he h0 w g base hg hb xs hl h1 a c hr hn hby
  unfold Fat.gives execOp
  simp only [ho, resolve, invoke, builtin, Sem.run_bind, Sem.run_pure, Result.andThen_ok, List.map_toArray, List.map_cons, List.map_nil, hx, hy, hrun]
  exact ⟨h2, h3⟩
end Go.Proofs.Ytmfnkmmbihmjnaa
