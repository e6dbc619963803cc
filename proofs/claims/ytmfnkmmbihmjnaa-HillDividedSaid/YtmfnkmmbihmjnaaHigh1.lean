/- A station higher up: plain facts. -/
import Derived.Test.YtmfnkmmbihmjnaaLReached
open Go.RowKit
namespace Go.Proofs.Ytmfnkmmbihmjnaa
open Go.Hill

theorem sel_nil {p : Nat → Bool} {n : Nat} : sel p n = [] ↔ ∀ r, r < n → p r = false := by
  induction n with
  | zero => simp [sel]
  | succ n ih =>
    rw [sel_succ, List.append_eq_nil_iff, ih]
    constructor
    · rintro ⟨h1, h2⟩ r hr
      by_cases hrn : r = n
      · subst hrn
        cases h : p r with
        | false => rfl
        | true => rw [h] at h2; simp at h2
      · exact h1 r (by omega)
    · intro h
      exact ⟨fun r hr => h r (by omega), by rw [h n (by omega)]; rfl⟩
theorem sel_sub {p r : Nat → Bool} (h : ∀ k, p k = true → r k = true) (n : Nat) : (∀ x ∈ sel p n, x ∈ sel r n) ∧ (sel p n).length ≤ (sel r n).length := by
  constructor
  · intro x hx
    obtain ⟨k, h1, h2, rfl⟩ := sel_mem.1 hx
    exact sel_mem.2 ⟨k, h1, h k h2, rfl⟩
  · induction n with
    | zero => simp [sel]
    | succ n ih =>
      rw [sel_succ, sel_succ, List.length_append, List.length_append]
      cases hp : p n with
      | false => simp; omega
      | true => rw [h n hp]; simp; exact ih

section
variable {L : Land} {i j : Nat} {a b : Stn}
theorem rb_set (hi : L.st[i]? = some a) (hj : L.st[j]? = some b) (hne : i ≠ j) (a' : Stn) (r : Nat) : (L.setSt i a').rb i j r = match L.rd[r]? with | some w => blk w a' b | none => false := by
  have hil : i < L.st.length := (List.getElem?_eq_some_iff.1 hi).1
  unfold Land.rb Land.setSt
  simp only [List.getElem?_set, if_pos hil, if_neg hne, hj, if_true]
  cases L.rd[r]? <;> rfl
theorem rb_old (hi : L.st[i]? = some a) (hj : L.st[j]? = some b) (r : Nat) : L.rb i j r = match L.rd[r]? with | some w => blk w a b | none => false := by
  unfold Land.rb
  rw [hi, hj]
  cases L.rd[r]? <;> rfl
theorem rbs_free (hi : L.st[i]? = some a) (hj : L.st[j]? = some b) (hne : i ≠ j) (u : Int) : (L.setSt i (a.upBy u)).rbs i j = [] ↔ freeAt L.rd a b u = true := by
  unfold Land.rbs
  rw [sel_nil]
  unfold freeAt
  rw [List.all_eq_true]
  constructor
  · intro h w hw
    obtain ⟨r, hr, hrw⟩ := List.mem_iff_getElem.1 hw
    have h1 := h r (by simpa [Land.setSt] using hr)
    rw [rb_set hi hj hne, show L.rd[r]? = some w by rw [List.getElem?_eq_getElem hr, hrw]] at h1
    simp only at h1
    rw [h1]; rfl
  · intro h r hr
    rw [rb_set hi hj hne]
    have hr' : r < L.rd.length := by simpa [Land.setSt] using hr
    rw [List.getElem?_eq_getElem hr']
    have := h _ (List.getElem_mem hr')
    simpa using this
theorem rbs_sub (hi : L.st[i]? = some a) (hj : L.st[j]? = some b) (hne : i ≠ j) (hB : ∀ w ∈ L.rd, w.B = 0) (ha : 0 ≤ a.Z) (hb : 0 ≤ b.Z) {u : Int} (hu : 0 ≤ u) :
    (∀ x ∈ (L.setSt i (a.upBy u)).rbs i j, x ∈ L.rbs i j) ∧ ((L.setSt i (a.upBy u)).rbs i j).length ≤ (L.rbs i j).length := by
  unfold Land.rbs
  refine sel_sub (fun r h => ?_) L.rd.length
  rw [rb_set hi hj hne] at h
  rw [rb_old hi hj]
  cases hr : L.rd[r]? with
  | none => rw [hr] at h; cases h
  | some w =>
    rw [hr] at h
    simp only at h ⊢
    cases hk : blk w a b with
    | true => rfl
    | false =>
      have := blk_up (hB w (List.mem_of_getElem? hr)) ha hb (Int.le_refl 0) hu (by rw [upBy_zero]; exact hk)
      rw [h] at this; cases this
theorem rise_cases (hi : L.st[i]? = some a) (hj : L.st[j]? = some b) (h1 : a.Z ≤ 1000) :
    (L.rise i j = -1 ∧ ∀ m : Nat, a.Z + m ≤ 1000 → freeAt L.rd a b m = false) ∨ (∃ n : Nat, L.rise i j = n ∧ a.Z + n ≤ 1000 ∧ freeAt L.rd a b n = true ∧ ∀ m : Nat, m < n → freeAt L.rd a b m = false) := by
  unfold Land.rise riseOf
  rw [hi, hj]
  simp only
  cases h : (List.range (1001 - a.Z).toNat).find? (fun n : Nat => freeAt L.rd a b n) with
  | none =>
    rw [List.find?_range_eq_none] at h
    exact .inl ⟨rfl, fun m hm => by have := h m (by omega); simpa using this⟩
  | some n =>
    rw [List.find?_range_eq_some] at h
    obtain ⟨h2, h3, h4⟩ := h
    exact .inr ⟨n, rfl, by simp at h3; omega, h2, fun m hm => by have := h4 m hm; simpa using this⟩
end
end Go.Proofs.Ytmfnkmmbihmjnaa
