/- The plain mathematics of sets of hours; marks of loops over functions. -/
import Derived.Test.YtbphpeoddifkfaaOMap
open Go.RowKit Go.Shelf
namespace Go.Proofs.Ytbphpeoddifkfaa
open Go.Once

theorem addTo_iff {s : Nat → Bool} {n k : Nat} : addTo s n k = true ↔ k = n ∨ s k = true := by simp [addTo]
def Cover (legs : List Lg) (sd : Int) (j : Nat) (s : Nat → Bool) : Prop := ∀ x, Once.Reach legs sd j x → s x.toNat = true
def Bnd (s : Nat → Bool) (j : Nat) : Prop := ∀ n, s n = true → n ≤ 31 + 6 * j
def PreC (l : Lg) (pre : List Nat) (s : Nat → Bool) : Prop := ∀ h ∈ pre, ∀ n : Int, l.lo ≤ n → n ≤ l.hi → s (awk l.as ((h : Int) + n)).toNat = true
def PartC (l : Lg) (h j : Nat) (s : Nat → Bool) : Prop := ∀ n : Int, l.lo ≤ n → n < l.lo + j → s (awk l.as ((h : Int) + n)).toNat = true
theorem reach_bd {legs : List Lg} (ho : ∀ l ∈ legs, l.Ok) {sd : Int} (hs : 0 ≤ sd ∧ sd ≤ 30) {j : Nat} {x : Int} (h : Once.Reach legs sd j x) : 0 ≤ x ∧ x ≤ 31 + 6 * j := by
  induction h with
  | start => omega
  | @leg j x n l hx hl h1 h2 ih =>
    have hlo := ho l (List.mem_of_getElem? hl)
    have ht := hlo.tk
    have := awk_bd hlo.as (h := x + n) (by omega)
    omega
theorem reach_some {legs : List Lg} (ho : ∀ l ∈ legs, l.Ok) (sd : Int) : ∀ j, j ≤ legs.length → ∃ x, Once.Reach legs sd j x
  | 0, _ => ⟨sd, .start⟩
  | j + 1, hj => by
    obtain ⟨x, hx⟩ := reach_some ho sd j (by omega)
    obtain ⟨l, hl⟩ : ∃ l, legs[j]? = some l := ⟨legs[j], by simp⟩
    exact ⟨_, .leg hx hl (Int.le_refl _) (ho l (List.mem_of_getElem? hl)).tk.2.1⟩
theorem cover_zero (legs : List Lg) (sd : Int) : Cover legs sd 0 (addTo (fun _ => false) sd.toNat) := fun x h => by
  cases h; exact addTo_iff.2 (.inl rfl)
theorem bnd_zero {sd : Int} (hs : 0 ≤ sd ∧ sd ≤ 30) : Bnd (addTo (fun _ => false) sd.toNat) 0 := fun n h => by
  rcases addTo_iff.1 h with rfl | h
  · omega
  · cases h
theorem cover_succ {legs : List Lg} (ho : ∀ l ∈ legs, l.Ok) {sd : Int} (hs : 0 ≤ sd ∧ sd ≤ 30) {j : Nat} (hj : j < 3) {s s' : Nat → Bool} (hc : Cover legs sd j s) {l : Lg} (hl : legs[j]? = some l) (hp : PreC l (selN s 101) s') : Cover legs sd (j + 1) s' := fun y h => by
  cases h with
  | @leg _ x n l' hx hl' h1 h2 =>
    rw [hl] at hl'; cases hl'
    have hb := reach_bd ho hs hx
    have h3 := hp x.toNat (selN_mem.2 ⟨by omega, hc x hx⟩) n h1 h2
    rwa [show ((x.toNat : Nat) : Int) = x by omega] at h3
theorem bnd_none (j : Nat) : Bnd (fun _ => false) j := fun _ h => by cases h
theorem bnd_add {s : Nat → Bool} {j : Nat} (h : Bnd s j) {n : Nat} (hn : n ≤ 31 + 6 * j) : Bnd (addTo s n) j := fun k hk => by
  rcases addTo_iff.1 hk with rfl | hk
  · exact hn
  · exact h k hk
theorem preC_add {l : Lg} {pre : List Nat} {s : Nat → Bool} (h : PreC l pre s) (m : Nat) : PreC l pre (addTo s m) := fun x hx n h1 h2 => addTo_iff.2 (.inr (h x hx n h1 h2))
theorem partC_succ {l : Lg} {h j : Nat} {s : Nat → Bool} (hp : PartC l h j s) : PartC l h (j + 1) (addTo s (awk l.as ((h : Int) + (l.lo + j))).toNat) := fun n h1 h2 => by
  by_cases hn : n < l.lo + j
  · exact addTo_iff.2 (.inr (hp n h1 hn))
  · obtain rfl : n = l.lo + j := by omega
    exact addTo_iff.2 (.inl rfl)
theorem preC_snoc {l : Lg} {pre : List Nat} {h j : Nat} {s : Nat → Bool} (h1 : PreC l pre s) (h2 : PartC l h j s) (hj : l.hi < l.lo + j) : PreC l (pre ++ [h]) s := fun x hx n h3 h4 => by
  rcases List.mem_append.1 hx with hx | hx
  · exact h1 x hx n h3 h4
  · simp at hx; subst hx; exact h2 n h3 (by omega)
/-- The hours of a copy, and no odd ones. -/
structure GoodSet (r : Rt) (sd : Int) (s : Nat → Bool) : Prop where
  all : Cover r.legs sd r.legs.length s
  bd : ∀ n, s n = true → n ≤ 49

/-! ### Marks: what loops over functions leave among the deferred calls -/
def markOf (D : Nat) : Deferred := { target := .collected D, args := #[] }
def Marks (n0 : Nat) (ds : List Deferred) (W : World) : Prop := ∃ Ds : List Nat, ds = Ds.map markOf ∧ Ds.Nodup ∧ ∀ D ∈ Ds, n0 ≤ D ∧ W.heap[D]? = some (.deferred (some []))
theorem Marks.nil (n0 : Nat) (W : World) : Marks n0 [] W := ⟨[], rfl, List.nodup_nil, by simp⟩
theorem Marks.keep {n0 : Nat} {ds : List Deferred} {W W' : World} (h : Marks n0 ds W) (hk : ∀ D : Nat, W.heap[D]? = some (Obj.deferred (some [])) → W'.heap[D]? = W.heap[D]?) : Marks n0 ds W' := by
  obtain ⟨Ds, h1, h2, h3⟩ := h
  exact ⟨Ds, h1, h2, fun D hD => ⟨(h3 D hD).1, (hk D (h3 D hD).2).trans (h3 D hD).2⟩⟩
theorem Marks.later {n0 : Nat} {ds : List Deferred} {W W' : World} (h : Marks n0 ds W) (hb : Below W.heap.size W W') : Marks n0 ds W' :=
  h.keep fun D hD => hb.block D (Array.getElem?_eq_some_iff.1 hD).1
theorem Marks.but {n0 g : Nat} {ds : List Deferred} {W W' : World} {cur : Array Value} {T : TypeId} (h : Marks n0 ds W) (hB : Box W g cur T) (hb : But g W W') : Marks n0 ds W' :=
  h.keep fun D hD => hb.block D fun e => by rw [e, show W.heap[g]? = _ from hB] at hD; cases hD
theorem Marks.cons {n0 D : Nat} {ds : List Deferred} {W : World} (h : Marks n0 ds W) (h0 : n0 ≤ D) (hD : W.heap[D]? = some (.deferred (some []))) (hn : ∀ d ∈ ds, d ≠ markOf D) : Marks n0 (markOf D :: ds) W := by
  obtain ⟨Ds, rfl, h2, h3⟩ := h
  refine ⟨D :: Ds, rfl, List.nodup_cons.2 ⟨fun hm => hn _ (List.mem_map_of_mem hm) rfl, h2⟩, fun E hE => ?_⟩
  rcases List.mem_cons.1 hE with rfl | hE
  · exact ⟨h0, hD⟩
  · exact h3 E hE
theorem markOf_inj {D E : Nat} (h : markOf D = markOf E) : D = E := by
  unfold markOf at h; injection h with h1; injection h1
/-- The function leaves, whatever marks there are. -/
theorem marks_leave {F : Fence} {n : Nat} {P : Program} {fn : Func} {tmps : Array Value} {R : Ending → World → Prop} {n0 : Nat} {ds : List Deferred} {W : World} (h : Marks n0 ds W)
    (hR : ∀ W', Below n0 W W' → (∀ k : Nat, W.heap[k]? ≠ some (Obj.deferred (some [])) → W'.heap[k]? = W.heap[k]?) → LeavesInM F n P fn tmps R [] .returning W') (h0 : n0 ≤ W.heap.size) : LeavesInM F n P fn tmps R ds .returning W := by
  obtain ⟨Ds, rfl, h2, h3⟩ := h
  induction Ds generalizing W with
  | nil => exact hR W (Below.refl _ _) (fun _ _ => rfl)
  | cons D Ds ih =>
    have hD := h3 D (by simp)
    obtain ⟨h4, h5⟩ := List.nodup_cons.1 h2
    refine ⟨by simp, .inl ⟨D, _, rfl, run_takeDeferred hD.2, ?_⟩⟩
    have hot : ∀ k, k ≠ D → (W.putObj D (.deferred none)).heap[k]? = W.heap[k]? := fun k hk => World.putObj_heap_other hk
    have hb : Below n0 W (W.putObj D (.deferred none)) := (Below.refl n0 W).grown (grownBy_putObj' W D (.deferred none)) h0 (fun k e => by cases e; exact hD.1)
    refine ih (fun W' hb' hk' => hR W' (hb.trans hb') fun k hk => ?_) (Nat.le_trans h0 hb.size) h5 (fun E hE => ?_)
    · by_cases hkD : k = D
      · exact absurd (hkD ▸ hD.2) hk
      · exact (hk' k (by rw [hot k hkD]; exact hk)).trans (hot k hkD)
    · have hne : E ≠ D := fun e => h4 (e ▸ hE)
      exact ⟨(h3 E (by simp [hE])).1, (hot E hne).trans (h3 E (by simp [hE])).2⟩
end Go.Proofs.Ytbphpeoddifkfaa
