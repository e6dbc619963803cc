/- The plain mathematics of layer 3: what the statements on routes need. No program. -/
import Derived.Test.YtingfmdbihbamaaGreatRPlain10
import Derived.Test.YtingfmdbihbamaaGreatRPlain6
namespace Go.Hill

section
variable {L : Land} {f s k t : Nat}
theorem fin_from : L.fin f s k (-1) f = s := Rel.has_from _
theorem fin_lt (hs : s ≤ L.sn.length) : L.fin f s k (-1) t < 0 ↔ (L.sn.length : Int) < L.hat f s k (-1) t := (Rel.hat_gt (r := L.rel k (-1)) hs).symm
theorem fin_eq (hs : s ≤ L.sn.length) (h : L.hat f s k (-1) t ≤ L.sn.length) : L.fin f s k (-1) t = L.hat f s k (-1) t := by
  have h1 : ¬ L.fin f s k (-1) t < 0 := fun h1 => by have := (fin_lt hs).1 h1; omega
  show _ = Rel.hat (L.rel k (-1)) f s t
  unfold Rel.hat
  exact (if_neg h1).symm
theorem fin_pos (hs : s ≤ L.sn.length) (h : L.hat f s k (-1) t ≤ L.sn.length) : 0 ≤ L.fin f s k (-1) t := by
  refine Int.not_lt.1 fun h1 => ?_
  have := (fin_lt hs).1 h1; omega
theorem fin_ge : -1 ≤ L.fin f s k (-1) t := by
  by_cases h : L.fin f s k (-1) t < 0
  · have := Rel.has_neg (r := L.rel k (-1)) (f := f) (s := s) _ _ h
    have h2 : L.fin f s k (-1) t = -1 := this
    omega
  · omega
theorem mem_stk {i : Nat} (hi : i < L.cs.length) : (i : Int) ∈ L.stk f t s (-1) ↔ (L.sn.length : Int) < L.hat f s i (-1) t := by
  unfold Land.stk sel
  constructor
  · intro h
    obtain ⟨a, h1, h2⟩ := List.mem_map.1 h
    have h3 : a = i := by omega
    subst h3
    simpa using (List.mem_filter.1 h1).2
  · intro h
    exact List.mem_map.2 ⟨i, List.mem_filter.2 ⟨by simpa using hi, by simpa using h⟩, rfl⟩
theorem surfin (hs : s ≤ L.sn.length) (h : (L.sur f t s (-1)).1 ≤ L.sn.length) : surF (fun k => L.fin f s k (-1) t) L.cs.length = L.sur f t s (-1) :=
  surF_congr fun _ hk => fin_eq hs (Int.le_trans (surF_le (g := fun k => L.hat f s k (-1) t) hk) h)
theorem sur_arr {l : List Hp} (hs : s ≤ L.sn.length) (hf : f < L.st.length) (hch : chain L.st.length L.sn.length f s l) (hst : ∀ p ∈ l, L.stick p.fr p.ta p.hr = L.cs.length) : (L.sur f (endR f l) s (-1)).1 ≤ arrA s l := by
  rcases surF_cases (fun k => L.hat f s k (-1) (endR f l)) L.cs.length with ⟨h1, h2⟩ | ⟨h1, h2, _⟩
  · unfold Land.sur; rw [h1]; simp only; omega
  · unfold Land.sur; rw [h2]
    refine chain_hat hs hf (by rw [show L.hat f s _ (-1) f = s from Rel.hat_from]; exact Int.le_refl _) hch fun p hp => ?_
    have := alws_stick.2 (hst p hp)
    unfold Land.alws at this
    rw [List.all_eq_true] at this
    exact this _ (by simpa using h1)
/-- The best route, of a land; and any other one. -/
theorem route_good {L : Land} {f t s u : Nat} {l : List Hp} (he : L.sn.length ≤ 97) (hs : s ≤ L.sn.length) (h : L.route f t s = some (l, u)) :
    s ≤ u ∧ u ≤ L.sn.length ∧ arrA s l = u ∧ chain L.st.length L.sn.length f s l ∧ endR f l = t ∧ (∀ p ∈ l, L.stick p.fr p.ta p.hr = L.cs.length) ∧ l.length ≤ u := by
  rcases route_cases (L := L) (f := f) (t := t) hs with ⟨h0, _⟩ | ⟨l', u', h1, h2, h3, h4, h5⟩
  · rw [h0] at h; cases h
  · rw [h1] at h
    injection h with h
    injection h with h6 h7
    subst h6 h7
    obtain ⟨g1, g2⟩ := route_arr he h2 h3 h4 h5
    obtain ⟨g3, g4, g5⟩ := okP_chain g2 (by omega)
    have g6 := okP_len g2
    exact ⟨h2, h3, g1, g3, g4, g5, by omega⟩
theorem route_le {L : Land} {f s : Nat} {l : List Hp} (he : L.sn.length ≤ 97) (hs : s ≤ L.sn.length) (hch : chain L.st.length L.sn.length f s l) (hst : ∀ p ∈ l, L.stick p.fr p.ta p.hr = L.cs.length) :
    ∃ l' u, L.route f (endR f l) s = some (l', u) ∧ (u < arrA s l ∨ (u = arrA s l ∧ l'.length ≤ l.length)) :=
  route_best he hs (chain_okP hch hst) (chain_arr hs hch).2
end
end Go.Hill
