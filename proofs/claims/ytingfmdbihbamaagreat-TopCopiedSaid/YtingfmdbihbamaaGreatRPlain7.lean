/- The plain mathematics of layer 3: tables that prove. No program. -/
import Derived.Test.YtingfmdbihbamaaGreatRPlain6
namespace Go.Hill

/-- A number of a table. -/
def tbl (l : List Int) (x : Nat) : Int := (l[x]?).getD 0
/-- Nobody who gets it from a station has too great a number. -/
def okA (c : Nat → Nat → Nat → Bool) (n e : Nat) (t : Nat → Int) (a : Nat) : Prop := ∀ h b : Nat, t a ≤ h → h < e → b < n → c a b h = true → t b ≤ h + 1
def closB (c : Nat → Nat → Nat → Bool) (n e : Nat) (t : Nat → Int) : Bool := (List.range n).all fun a => (List.range e).all fun h => (List.range n).all fun b => !(decide (t a ≤ (h : Int)) && c a b h) || decide (t b ≤ (h : Int) + 1)
theorem closB_iff {c : Nat → Nat → Nat → Bool} {n e : Nat} {t : Nat → Int} : closB c n e t = true ↔ ∀ a, a < n → okA c n e t a := by
  unfold closB
  simp only [List.all_eq_true, List.mem_range, Bool.or_eq_true, Bool.not_eq_true', Bool.and_eq_false_iff, decide_eq_false_iff_not, decide_eq_true_eq]
  constructor
  · intro h a ha hh b h1 h2 h3 h4
    rcases h a ha hh h2 b h3 with (h5 | h5) | h5
    · exact absurd h1 h5
    · rw [h4] at h5; cases h5
    · exact h5
  · intro h a ha hh h2 b h3
    by_cases h1 : t a ≤ (hh : Int)
    · by_cases h4 : c a b hh = true
      · exact .inr (h a ha hh b h1 h2 h3 h4)
      · exact .inl (.inr (by simpa using h4))
    · exact .inl (.inl h1)
theorem closB_no {c : Nat → Nat → Nat → Bool} {n e : Nat} {t : Nat → Int} {a h b : Nat} (h0 : a < n) (h1 : t a ≤ h) (h2 : h < e) (h3 : b < n) (h4 : c a b h = true) (h5 : ¬ t b ≤ h + 1) : closB c n e t = false := by
  cases hc : closB c n e t with
  | false => rfl
  | true => exact absurd (closB_iff.1 hc a h0 h b h1 h2 h3 h4) h5
/-- A table proves: of the right length, no number beyond the end plus 1, closed, and not after the start where it starts. -/
def Land.prvB (L : Land) (f s k : Nat) (l : List Int) : Bool := decide (l.length = L.st.length) && ((l.all fun x => inB x 0 ((L.sn.length : Int) + 1)) && (closB (fun a b h => L.can a b k h) L.st.length L.sn.length (tbl l) && decide (tbl l f ≤ s)))
theorem prv_len {L : Land} {f s k : Nat} {l : List Int} (h : l.length ≠ L.st.length) : L.prvB f s k l = false := by unfold Land.prvB; rw [decide_eq_false h]; rfl
theorem prv_all {L : Land} {f s k : Nat} {l : List Int} (h : (l.all fun x => inB x 0 ((L.sn.length : Int) + 1)) = false) : L.prvB f s k l = false := by unfold Land.prvB; rw [h]; simp
theorem prv_clos {L : Land} {f s k : Nat} {l : List Int} (h : closB (fun a b h => L.can a b k h) L.st.length L.sn.length (tbl l) = false) : L.prvB f s k l = false := by unfold Land.prvB; rw [h]; simp
theorem prv_end {L : Land} {f s k : Nat} {l : List Int} (h1 : l.length = L.st.length) (h2 : (l.all fun x => inB x 0 ((L.sn.length : Int) + 1)) = true) (h3 : closB (fun a b h => L.can a b k h) L.st.length L.sn.length (tbl l) = true) : L.prvB f s k l = decide (tbl l f ≤ s) := by
  unfold Land.prvB; rw [h2, h3, decide_eq_true h1]; rfl
theorem tbl_at {l : List Int} {x : Nat} (h : x < l.length) : l[x]? = some (tbl l x) := by unfold tbl; rw [List.getElem?_eq_getElem h]; rfl
theorem all_bd {l : List Int} {e : Int} (h : (l.all fun x => inB x 0 e) = true) {x : Nat} (hx : x < l.length) : 0 ≤ tbl l x ∧ tbl l x ≤ e := by
  have h1 := List.all_eq_true.1 h (tbl l x) (List.mem_of_getElem? (tbl_at hx))
  simpa [inB] using h1
end Go.Hill
