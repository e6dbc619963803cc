/- The plain mathematics of layer 3: where a route leads, and where it sticks. No program. -/
import Derived.Test.YtingfmdbihbamaaGreatRPlain8
namespace Go.Hill

/-- A hop that came in. -/
structure Hi where
  fr : Int
  ta : Int
  hr : Int
def Hp.hi (p : Hp) : Hi := ⟨p.fr, p.ta, p.hr⟩
/-- Where a list leads, if it is a route. -/
def leadF (n e : Nat) : Int → Int → List Hi → Option Int
  | a, _, [] => some a
  | a, h, p :: l => if p.fr = a ∧ inB p.ta 0 ((n : Int) - 1) = true ∧ inB p.hr h ((e : Int) - 1) = true then leadF n e p.ta (p.hr + 1) l else none
def chain (n e : Nat) : Nat → Nat → List Hp → Prop
  | _, _, [] => True
  | a, h, p :: l => p.fr = a ∧ h ≤ p.hr ∧ p.hr < e ∧ p.ta < n ∧ chain n e p.ta (p.hr + 1) l
def endR : Nat → List Hp → Nat
  | a, [] => a
  | _, p :: l => endR p.ta l
theorem lead_chain {n e : Nat} : ∀ {l : List Hi} {a h : Nat} {g : Int}, leadF n e a h l = some g → ∃ hl : List Hp, l = hl.map Hp.hi ∧ chain n e a h hl ∧ g = endR a hl := by
  intro l
  induction l with
  | nil => intro a h g hg; cases hg; exact ⟨[], rfl, trivial, rfl⟩
  | cons p l ih =>
    intro a h g hg
    unfold leadF at hg
    split at hg
    · rename_i h1
      obtain ⟨h2, h3, h4⟩ := h1
      simp only [inB, decide_eq_true_eq] at h3 h4
      obtain ⟨fr, ta, hr⟩ := p
      simp only at h2 h3 h4 hg
      obtain ⟨t, rfl⟩ : ∃ t : Nat, ta = t := ⟨ta.toNat, by omega⟩
      obtain ⟨r, rfl⟩ : ∃ r : Nat, hr = r := ⟨hr.toNat, by omega⟩
      subst h2
      obtain ⟨hl, g1, g2, g3⟩ := ih (a := t) (h := r + 1) (by rw [← hg]; push_cast; rfl)
      exact ⟨⟨a, t, r⟩ :: hl, by rw [g1]; rfl, ⟨rfl, by simp only; omega, by simp only; omega, by simp only; omega, g2⟩, g3⟩
    · cases hg
theorem chain_lead {n e : Nat} : ∀ {hl : List Hp} {a h : Nat}, chain n e a h hl → leadF n e a h (hl.map Hp.hi) = some ((endR a hl : Nat) : Int) := by
  intro hl
  induction hl with
  | nil => intro a h _; rfl
  | cons p l ih =>
    intro a h ⟨h1, h2, h3, h4, h5⟩
    show leadF n e a h (p.hi :: l.map Hp.hi) = _
    unfold leadF
    rw [if_pos ⟨by show (p.fr : Int) = a; rw [h1], by show inB (p.ta : Int) _ _ = true; simp [inB]; omega, by show inB (p.hr : Int) _ _ = true; simp [inB]; omega⟩]
    have := ih h5
    show leadF n e (p.ta : Int) ((p.hr : Int) + 1) _ = _
    rw [show ((p.hr : Int) + 1) = ((p.hr + 1 : Nat) : Int) by push_cast; rfl, this]; rfl
theorem chain_mem {n e : Nat} : ∀ {hl : List Hp} {a h : Nat}, a < n → chain n e a h hl → ∀ p ∈ hl, p.fr < n ∧ p.ta < n ∧ p.hr < e := by
  intro hl
  induction hl with
  | nil => intro a h _ _ p hp; cases hp
  | cons q l ih =>
    intro a h ha ⟨h1, h2, h3, h4, h5⟩ p hp
    rcases List.mem_cons.1 hp with rfl | hp
    · exact ⟨by omega, h4, h3⟩
    · exact ih h4 h5 p hp
/-- Where it sticks. -/
def stkF (L : Land) : List Hp → Nat → Option (Nat × Nat)
  | [], _ => none
  | p :: l, i => if L.stick p.fr p.ta p.hr = L.cs.length then stkF L l (i + 1) else some (i, L.stick p.fr p.ta p.hr)
theorem stkF_skip {L : Land} : ∀ {l : List Hp} {j : Nat} (i : Nat), i ≤ l.length → (∀ x p, x < i → l[x]? = some p → L.stick p.fr p.ta p.hr = L.cs.length) → stkF L l j = stkF L (l.drop i) (j + i) := by
  intro l
  induction l with
  | nil => intro j i hi _; simp at hi; subst hi; rfl
  | cons p l ih =>
    intro j i hi h
    cases i with
    | zero => rfl
    | succ i =>
      have h0 := h 0 p (by omega) rfl
      rw [List.drop_succ_cons]
      unfold stkF
      rw [if_pos h0, ih i (by simpa using hi) fun x q hx hq => h (x + 1) q (by omega) (by simpa using hq), show j + 1 + i = j + (i + 1) by omega]
      cases hd : l.drop i <;> rfl
theorem stkF_at {L : Land} {l : List Hp} {i : Nat} {p : Hp} (hp : l[i]? = some p) (h : ∀ x q, x < i → l[x]? = some q → L.stick q.fr q.ta q.hr = L.cs.length) (hs : L.stick p.fr p.ta p.hr ≠ L.cs.length) : stkF L l 0 = some (i, L.stick p.fr p.ta p.hr) := by
  have hi := (List.getElem?_eq_some_iff.1 hp).1
  rw [stkF_skip i (by omega) h, Nat.zero_add, List.drop_eq_getElem_cons hi]
  have he : l[i] = p := (List.getElem?_eq_some_iff.1 hp).2
  unfold stkF
  rw [he, if_neg hs]
theorem stkF_none {L : Land} {l : List Hp} (h : ∀ x q, x < l.length → l[x]? = some q → L.stick q.fr q.ta q.hr = L.cs.length) : stkF L l 0 = none := by
  rw [stkF_skip l.length (Nat.le_refl _) h, List.drop_length]; rfl
def stkV (L : Land) (l : List Hp) : Int × Int × Bool := match stkF L l 0 with
  | some (i, k) => (i, k, true)
  | none => (0, 0, false)
end Go.Hill
