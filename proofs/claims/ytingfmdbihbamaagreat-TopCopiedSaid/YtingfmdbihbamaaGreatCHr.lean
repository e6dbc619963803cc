/- The plain mathematics of sets of hours, both ways: just the hours that can be. -/
import Derived.Test.YtingfmdbihbamaaGreatOMap
import Derived.Test.YtingfmdbihbamaaGreatRA
open Go.RowKit Go.Shelf
namespace Go.Proofs.YtingfmdbihbamaaGreat
namespace Cp
open Go.Once

theorem addTo_iff {s : Nat → Bool} {n k : Nat} : addTo s n k = true ↔ k = n ∨ s k = true := by simp [addTo]
/-- Just the hours at the end of j legs. -/
structure Cover (legs : List Lg) (sd : Int) (j : Nat) (s : Nat → Bool) : Prop where
  all : ∀ x, Once.Reach legs sd j x → s x.toNat = true
  only : ∀ k, s k = true → ∃ x, Once.Reach legs sd j x ∧ k = x.toNat
def Bnd (s : Nat → Bool) (j : Nat) : Prop := ∀ n, s n = true → n ≤ 31 + 6 * j
structure PreC (l : Lg) (pre : List Nat) (s : Nat → Bool) : Prop where
  all : ∀ h ∈ pre, ∀ n : Int, l.lo ≤ n → n ≤ l.hi → s (awk l.as ((h : Int) + n)).toNat = true
  only : ∀ k, s k = true → ∃ h ∈ pre, ∃ n : Int, l.lo ≤ n ∧ n ≤ l.hi ∧ k = (awk l.as ((h : Int) + n)).toNat
structure PartC (l : Lg) (pre : List Nat) (h j : Nat) (s : Nat → Bool) : Prop where
  old : ∀ h ∈ pre, ∀ n : Int, l.lo ≤ n → n ≤ l.hi → s (awk l.as ((h : Int) + n)).toNat = true
  all : ∀ n : Int, l.lo ≤ n → n < l.lo + j → s (awk l.as ((h : Int) + n)).toNat = true
  only : ∀ k, s k = true → (∃ h ∈ pre, ∃ n : Int, l.lo ≤ n ∧ n ≤ l.hi ∧ k = (awk l.as ((h : Int) + n)).toNat) ∨ ∃ n : Int, l.lo ≤ n ∧ n < l.lo + j ∧ k = (awk l.as ((h : Int) + n)).toNat
theorem reach_bd {legs : List Lg} (ho : ∀ l ∈ legs, l.Ok) {sd : Int} (hs : 0 ≤ sd ∧ sd ≤ 30) {j : Nat} {x : Int} (h : Once.Reach legs sd j x) : 0 ≤ x ∧ x ≤ 31 + 6 * j := by
  induction h with
  | start => omega
  | @leg j x n l hx hl h1 h2 ih =>
    have hlo := ho l (List.mem_of_getElem? hl)
    have ht := hlo.tk
    have := awk_bd hlo.as (h := x + n) (by omega)
    omega
theorem cover_zero (legs : List Lg) (sd : Int) : Cover legs sd 0 (addTo (fun _ => false) sd.toNat) :=
  ⟨fun x h => by cases h; exact addTo_iff.2 (.inl rfl), fun k h => by
    rcases addTo_iff.1 h with rfl | h
    · exact ⟨sd, .start, rfl⟩
    · cases h⟩
theorem bnd_zero {sd : Int} (hs : 0 ≤ sd ∧ sd ≤ 30) : Bnd (addTo (fun _ => false) sd.toNat) 0 := fun n h => by
  rcases addTo_iff.1 h with rfl | h
  · omega
  · cases h
theorem cover_succ {legs : List Lg} (ho : ∀ l ∈ legs, l.Ok) {sd : Int} (hs : 0 ≤ sd ∧ sd ≤ 30) {j : Nat} (hj : j < 3) {s s' : Nat → Bool} (hc : Cover legs sd j s) {l : Lg} (hl : legs[j]? = some l) (hp : PreC l (selN s 101) s') : Cover legs sd (j + 1) s' := by
  refine ⟨fun y h => ?_, fun k hk => ?_⟩
  · cases h with
    | @leg _ x n l' hx hl' h1 h2 =>
      rw [hl] at hl'; cases hl'
      have hb := reach_bd ho hs hx
      have h3 := hp.all x.toNat (selN_mem.2 ⟨by omega, hc.all x hx⟩) n h1 h2
      rwa [show ((x.toNat : Nat) : Int) = x by omega] at h3
  · obtain ⟨h, h1, n, h2, h3, h4⟩ := hp.only k hk
    obtain ⟨h5, h6⟩ := selN_mem.1 h1
    obtain ⟨x, h7, h8⟩ := hc.only h h6
    have hb := reach_bd ho hs h7
    refine ⟨awk l.as (x + n), .leg h7 hl h2 h3, ?_⟩
    rw [h4, h8, show ((x.toNat : Nat) : Int) = x by omega]
theorem bnd_none (j : Nat) : Bnd (fun _ => false) j := fun _ h => by cases h
theorem bnd_add {s : Nat → Bool} {j : Nat} (h : Bnd s j) {n : Nat} (hn : n ≤ 31 + 6 * j) : Bnd (addTo s n) j := fun k hk => by
  rcases addTo_iff.1 hk with rfl | hk
  · exact hn
  · exact h k hk
theorem preC_none (l : Lg) : PreC l [] (fun _ => false) := ⟨fun h hh => by simp at hh, fun k h => by cases h⟩
theorem partC_zero {l : Lg} {pre : List Nat} {h : Nat} {s : Nat → Bool} (hp : PreC l pre s) : PartC l pre h 0 s :=
  ⟨hp.all, fun n h1 h2 => by omega, fun k hk => .inl (hp.only k hk)⟩
theorem partC_succ {l : Lg} {pre : List Nat} {h j : Nat} {s : Nat → Bool} (hp : PartC l pre h j s) : PartC l pre h (j + 1) (addTo s (awk l.as ((h : Int) + (l.lo + j))).toNat) := by
  refine ⟨fun x hx n h1 h2 => addTo_iff.2 (.inr (hp.old x hx n h1 h2)), fun n h1 h2 => ?_, fun k hk => ?_⟩
  · by_cases hn : n < l.lo + j
    · exact addTo_iff.2 (.inr (hp.all n h1 hn))
    · obtain rfl : n = l.lo + j := by omega
      exact addTo_iff.2 (.inl rfl)
  · rcases addTo_iff.1 hk with rfl | hk
    · exact .inr ⟨l.lo + j, by omega, by omega, rfl⟩
    · rcases hp.only k hk with h1 | ⟨n, h1, h2, h3⟩
      · exact .inl h1
      · exact .inr ⟨n, h1, by omega, h3⟩
theorem preC_snoc {l : Lg} {pre : List Nat} {h j : Nat} {s : Nat → Bool} (h2 : PartC l pre h j s) (hj : l.lo + j = l.hi + 1) : PreC l (pre ++ [h]) s := by
  refine ⟨fun x hx n h3 h4 => ?_, fun k hk => ?_⟩
  · rcases List.mem_append.1 hx with hx | hx
    · exact h2.old x hx n h3 h4
    · simp at hx; subst hx; exact h2.all n h3 (by omega)
  · rcases h2.only k hk with ⟨x, h3, h4⟩ | ⟨n, h3, h4, h5⟩
    · exact ⟨x, by simp [h3], h4⟩
    · exact ⟨h, by simp, n, h3, by omega, h5⟩
/-- The hours of a copy, and no odd ones. -/
structure GoodSet (r : Rt) (sd : Int) (s : Nat → Bool) : Prop where
  all : Cover r.legs sd r.legs.length s
  bd : ∀ n, s n = true → n ≤ 49

/-! ### Nothing sleeps -/
theorem awk_none (h : Int) : awk [] h = h := by
  unfold awk
  rw [wakes_at (k := 0) (by omega) rfl (fun j hj => by omega)]
  omega
def sumLo (legs : List Lg) : Nat → Int
  | 0 => 0
  | j + 1 => sumLo legs j + match legs[j]? with | some l => l.lo | none => 0
def sumHi (legs : List Lg) : Nat → Int
  | 0 => 0
  | j + 1 => sumHi legs j + match legs[j]? with | some l => l.hi | none => 0
theorem reach_iff {legs : List Lg} (ho : ∀ l ∈ legs, l.Ok) (ha : ∀ l ∈ legs, l.as = []) {sd x : Int} : ∀ j, j ≤ legs.length → (Once.Reach legs sd j x ↔ sd + sumLo legs j ≤ x ∧ x ≤ sd + sumHi legs j) := by
  intro j
  induction j generalizing x with
  | zero =>
    intro _
    constructor
    · intro h; cases h; simp [sumLo, sumHi]
    · intro h
      have : x = sd := by simp [sumLo, sumHi] at h; omega
      subst this; exact .start
  | succ j ih =>
    intro hj
    obtain ⟨l, hl⟩ : ∃ l, legs[j]? = some l := ⟨legs[j], by simp⟩
    have hlm := List.mem_of_getElem? hl
    have ht := (ho l hlm).tk
    simp only [sumLo, sumHi, hl]
    constructor
    · intro h
      cases h with
      | @leg _ y n l' hy hl' h1 h2 =>
        rw [hl] at hl'; cases hl'
        rw [ha l hlm, awk_none]
        have := (ih (by omega)).1 hy
        omega
    · rintro ⟨h1, h2⟩
      have hle : sumLo legs j ≤ sumHi legs j := by
        clear ih h1 h2
        have : ∀ i, i ≤ legs.length → sumLo legs i ≤ sumHi legs i := by
          intro i
          induction i with
          | zero => intro _; exact Int.le_refl _
          | succ i ih =>
            intro hi
            have := ih (by omega)
            obtain ⟨m, hm⟩ : ∃ m, legs[i]? = some m := ⟨legs[i], by simp⟩
            have := (ho m (List.mem_of_getElem? hm)).tk
            simp only [sumLo, sumHi, hm]; omega
        exact this j (by omega)
      obtain ⟨n, hn1, hn2, hn3, hn4⟩ : ∃ n, l.lo ≤ n ∧ n ≤ l.hi ∧ sd + sumLo legs j ≤ x - n ∧ x - n ≤ sd + sumHi legs j := ⟨max l.lo (x - (sd + sumHi legs j)), by omega, by omega, by omega, by omega⟩
      have := Once.Reach.leg ((ih (by omega)).2 ⟨hn3, hn4⟩) hl hn1 hn2
      rwa [ha l hlm, awk_none, show x - n + n = x by omega] at this
/-- The first and the last hour of a set. -/
structure Ends (s : Nat → Bool) (lo hi : Nat) : Prop where
  iff : ∀ k, s k = true ↔ lo ≤ k ∧ k ≤ hi
  le : lo ≤ hi
  bd : hi ≤ 49
theorem goodSet_ends {r : Rt} {sd : Int} {s : Nat → Bool} (hg : GoodSet r sd s) (ho : r.Ok) (ha : ∀ l ∈ r.legs, l.as = []) (hs : 0 ≤ sd ∧ sd ≤ 30) : Ends s (sd + sumLo r.legs r.legs.length).toNat (sd + sumHi r.legs r.legs.length).toNat := by
  have hle : 0 ≤ sumLo r.legs r.legs.length ∧ sumLo r.legs r.legs.length ≤ sumHi r.legs r.legs.length := by
    have : ∀ i, i ≤ r.legs.length → 0 ≤ sumLo r.legs i ∧ sumLo r.legs i ≤ sumHi r.legs i := by
      intro i
      induction i with
      | zero => intro _; exact ⟨Int.le_refl _, Int.le_refl _⟩
      | succ i ih =>
        intro hi
        have := ih (by omega)
        obtain ⟨m, hm⟩ : ∃ m, r.legs[i]? = some m := ⟨r.legs[i], by simp⟩
        have := (ho.legs m (List.mem_of_getElem? hm)).tk
        simp only [sumLo, sumHi, hm]; omega
    exact this _ (Nat.le_refl _)
  have hri := fun x => reach_iff ho.legs ha (sd := sd) (x := x) r.legs.length (Nat.le_refl _)
  have h1 : ∀ k, s k = true ↔ (sd + sumLo r.legs r.legs.length).toNat ≤ k ∧ k ≤ (sd + sumHi r.legs r.legs.length).toNat := fun k => by
    constructor
    · intro hk
      obtain ⟨x, hx, rfl⟩ := hg.all.only k hk
      have := (hri x).1 hx
      omega
    · intro hk
      have := hg.all.all (k : Int) ((hri k).2 (by omega))
      simpa using this
  refine ⟨h1, by omega, ?_⟩
  exact hg.bd _ ((h1 _).2 ⟨by omega, Nat.le_refl _⟩)
end Cp
end Go.Proofs.YtingfmdbihbamaaGreat
