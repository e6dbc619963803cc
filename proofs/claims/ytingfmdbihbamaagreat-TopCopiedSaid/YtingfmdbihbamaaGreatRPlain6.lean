/- The plain mathematics of layer 3: what the statements need. No program. -/
import Derived.Test.YtingfmdbihbamaaGreatRPl
namespace Go.Hill

theorem hat_mono {L : Land} {f s s' k : Nat} {out : Int} {x : Nat} (hf : f < L.st.length) (hss : s ≤ s') (hs' : s' ≤ L.sn.length) (hx : x < L.st.length) : L.hat f s k out x ≤ L.hat f s' k out x :=
  Rel.hat_le (r := L.rel k out) (f := f) (s := s') hf (Rel.hat_closed (show s ≤ (L.rel k out).e from Nat.le_trans hss hs')) (by rw [Rel.hat_from]; omega) (fun y _ => (Rel.hat_bd (show s ≤ (L.rel k out).e from Nat.le_trans hss hs') y).2) hs' x hx
theorem surF_ge {g : Nat → Int} {n : Nat} : -1 ≤ (surF g n).1 := by
  induction n with
  | zero => exact Int.le_refl _
  | succ n ih =>
    unfold surF
    split
    · show (-1 : Int) ≤ g n; omega
    · exact ih
theorem surF_mono {g g' : Nat → Int} {n : Nat} (h : ∀ k, k < n → g k ≤ g' k) : (surF g n).1 ≤ (surF g' n).1 := by
  rcases surF_cases g n with ⟨h1, _⟩ | ⟨h1, h2, _⟩
  · rw [h1]; exact surF_ge
  · rw [h2]; exact Int.le_trans (h _ h1) (surF_le h1)
theorem sur_mono {L : Land} {f t s s' : Nat} {out : Int} (hf : f < L.st.length) (ht : t < L.st.length) (hss : s ≤ s') (hs' : s' ≤ L.sn.length) : (L.sur f t s out).1 ≤ (L.sur f t s' out).1 :=
  surF_mono fun _ _ => hat_mono hf hss hs' ht
theorem sur_from {L : Land} {f t s : Nat} (hc : 0 < L.cs.length) (hs : s ≤ L.sn.length) : (s : Int) ≤ (L.sur f t s (-1)).1 := by
  have h1 := surF_le (g := fun k => L.hat f s k (-1) t) hc
  have h2 : (s : Int) ≤ L.hat f s 0 (-1) t := (Rel.hat_bd (r := L.rel 0 (-1)) (f := f) hs t).1
  exact Int.le_trans h2 h1
/-- The latest start. -/
theorem lat_none {L : Land} {f t u : Nat} (hc : 0 < L.cs.length) (h : L.lat f t u = -1) (s : Nat) (hs : s ≤ L.sn.length) : ¬ (L.sur f t s (-1)).1 ≤ u := by
  unfold Land.lat at h
  rcases lastF_cases (fun s => decide ((L.sur f t s (-1)).1 ≤ u)) (u + 1) with ⟨_, h2⟩ | ⟨k, h2, _⟩
  · by_cases h3 : s < u + 1
    · simpa using h2 s h3
    · have := sur_from (f := f) (t := t) hc hs
      omega
  · rw [h2] at h; omega
theorem lat_some {L : Land} {f t u : Nat} (hc : 0 < L.cs.length) (hf : f < L.st.length) (ht : t < L.st.length) (hu : u ≤ L.sn.length) (h : L.lat f t u ≠ -1) : ∃ k : Nat, L.lat f t u = k ∧ k ≤ u ∧ (L.sur f t k (-1)).1 ≤ u ∧ ∀ s, s ≤ L.sn.length → ((L.sur f t s (-1)).1 ≤ u ↔ s ≤ k) := by
  unfold Land.lat at h ⊢
  rcases lastF_cases (fun s => decide ((L.sur f t s (-1)).1 ≤ u)) (u + 1) with ⟨h2, _⟩ | ⟨k, h2, h3, h4, h5⟩
  · exact absurd h2 h
  · have h4' : (L.sur f t k (-1)).1 ≤ u := by simpa using h4
    refine ⟨k, h2, by omega, h4', fun s hs => ⟨fun h6 => ?_, fun h6 => ?_⟩⟩
    · refine Nat.le_of_not_lt fun h7 => ?_
      by_cases h8 : s < u + 1
      · have := h5 s h7 h8
        simp only [decide_eq_false_iff_not] at this
        exact this h6
      · have := sur_from (f := f) (t := t) hc hs
        omega
    · exact Int.le_trans (sur_mono hf ht h6 (by omega)) h4'
end Go.Hill
