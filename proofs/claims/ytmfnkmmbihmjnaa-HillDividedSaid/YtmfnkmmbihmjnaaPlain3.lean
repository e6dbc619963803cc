/- The plain mathematics of layer 1, the answers: what blocks, why, at which hours, how high. No program. -/
import Derived.Test.YtmfnkmmbihmjnaaPlain2
namespace Go.Hill

/-- The numbers below n that pass. -/
def sel (p : Nat → Bool) (n : Nat) : List Int := ((List.range n).filter p).map fun i : Nat => (i : Int)
theorem sel_zero (p : Nat → Bool) : sel p 0 = [] := rfl
theorem sel_succ (p : Nat → Bool) (n : Nat) : sel p (n + 1) = sel p n ++ if p n then [(n : Int)] else [] := by
  unfold sel
  rw [List.range_succ, List.filter_append, List.map_append]
  congr 1
  cases h : p n <;> simp [h]
theorem sel_yes {p : Nat → Bool} {n : Nat} (h : p n = true) : sel p (n + 1) = sel p n ++ [(n : Int)] := by rw [sel_succ, h]; rfl
theorem sel_no {p : Nat → Bool} {n : Nat} (h : p n = false) : sel p (n + 1) = sel p n := by rw [sel_succ, h]; simp
theorem sel_len (p : Nat → Bool) (n : Nat) : (sel p n).length ≤ n := by
  unfold sel
  rw [List.length_map]
  exact Nat.le_trans (List.length_filter_le _ _) (by simp)
theorem sel_congr {p q : Nat → Bool} {n : Nat} (h : ∀ i, i < n → p i = q i) : sel p n = sel q n := by
  unfold sel
  congr 1
  exact List.filter_congr fun i hi => h i (by simpa using hi)
theorem sel_mem {p : Nat → Bool} {n : Nat} {x : Int} : x ∈ sel p n ↔ ∃ i : Nat, i < n ∧ p i = true ∧ x = i := by
  unfold sel
  simp only [List.mem_map, List.mem_filter, List.mem_range]
  constructor
  · rintro ⟨i, ⟨h1, h2⟩, rfl⟩; exact ⟨i, h1, h2, rfl⟩
  · rintro ⟨i, h1, h2, rfl⟩; exact ⟨i, ⟨h1, h2⟩, rfl⟩
theorem sel_contains {p : Nat → Bool} {n i : Nat} : (sel p n).contains (i : Int) = (decide (i < n) && p i) := by
  rw [Bool.eq_iff_iff, List.contains_iff_mem, sel_mem]
  simp only [Bool.and_eq_true, decide_eq_true_eq]
  constructor
  · rintro ⟨j, h1, h2, h3⟩
    obtain rfl : i = j := by omega
    exact ⟨h1, h2⟩
  · rintro ⟨h1, h2⟩; exact ⟨i, h1, h2, rfl⟩
theorem sel_nil {p : Nat → Bool} {n : Nat} : sel p n = [] ↔ ∀ i, i < n → p i = false := by
  constructor
  · intro h i hi
    cases hp : p i with
    | false => rfl
    | true =>
      have : (i : Int) ∈ sel p n := sel_mem.2 ⟨i, hi, hp, rfl⟩
      rw [h] at this; cases this
  · intro h
    rw [List.eq_nil_iff_forall_not_mem]
    intro x hx
    obtain ⟨i, h1, h2, _⟩ := sel_mem.1 hx
    rw [h i h1] at h2; cases h2

/-- How many mirrors a station needs. -/
def needM (s : Sn) (a b : Stn) : Int := if behind s a b then 2 else 1

def Land.rb (L : Land) (i j r : Nat) : Bool := match L.rd[r]?, L.st[i]?, L.st[j]? with
  | some w, some a, some b => blk w a b
  | _, _, _ => false
def Land.rbs (L : Land) (i j : Nat) : List Int := sel (L.rb i j) L.rd.length
def Land.kase (L : Land) (k : Nat) : List Cd := L.cs[k]?.getD []
def Land.cb (L : Land) (i j k t c : Nat) : Bool := match (L.kase k)[c]?, L.st[i]?, L.st[j]? with
  | some w, some a, some b => inB t w.fr w.to && blk w.wl a b
  | _, _, _ => false
def Land.cbs (L : Land) (i j k t : Nat) : List Int := sel (L.cb i j k t) (L.kase k).length
def Land.up (L : Land) (t : Nat) : Bool := match L.sn[t]? with
  | some s => decide (0 < s.U)
  | none => false
def Land.need (L : Land) (i j t : Nat) : Int := match L.sn[t]?, L.st[i]?, L.st[j]? with
  | some s, some a, some b => needM s a b
  | _, _, _ => 0
def Land.mir (L : Land) (i : Nat) : Int := match L.st[i]? with
  | some a => a.M
  | none => 0
/-- The reason, and the first wall. -/
def Land.why (L : Land) (i j k t : Nat) : Int × Int :=
  if L.up t = false then (1, 0)
  else if L.mir i < L.need i j t then (2, 0)
  else match L.rbs i j with
    | r :: _ => (3, r)
    | [] => match L.cbs i j k t with
      | c :: _ => (4, c)
      | [] => (0, 0)
def Land.can (L : Land) (i j k t : Nat) : Bool := i != j && (L.why i j k t).1 == 0
def Land.hrs (L : Land) (i j k : Nat) : List Int := sel (fun t => L.can i j k t) L.sn.length
/-- The first case in which it cannot, or their number. -/
def firstNot (p : Nat → Bool) (n : Nat) : Nat := ((List.range n).find? fun k => !p k).getD n
def Land.stick (L : Land) (i j t : Nat) : Nat := firstNot (fun k => L.can i j k t) L.cs.length
def Land.alw (L : Land) (i j : Nat) : List Int := sel (fun t => L.stick i j t == L.cs.length) L.sn.length
def Land.rch (L : Land) (i k t : Nat) : List Int := sel (fun j => L.can i j k t) L.st.length

theorem why_night {L : Land} {i j k t : Nat} (h : L.up t = false) : L.why i j k t = (1, 0) := by unfold Land.why; rw [if_pos h]
theorem why_behind {L : Land} {i j k t : Nat} (h : L.up t = true) (hm : L.mir i < L.need i j t) : L.why i j k t = (2, 0) := by unfold Land.why; rw [if_neg (by simp [h]), if_pos hm]
theorem why_ridge {L : Land} {i j k t : Nat} {x : Int} (h : L.up t = true) (hm : ¬ L.mir i < L.need i j t) (hx : (L.rbs i j)[0]? = some x) : L.why i j k t = (3, x) := by
  unfold Land.why; rw [if_neg (by simp [h]), if_neg hm]
  cases hr : L.rbs i j with
  | nil => rw [hr] at hx; cases hx
  | cons y l => rw [hr] at hx; simp at hx; subst hx; rfl
theorem why_cloud {L : Land} {i j k t : Nat} {x : Int} (h : L.up t = true) (hm : ¬ L.mir i < L.need i j t) (hr : L.rbs i j = []) (hx : (L.cbs i j k t)[0]? = some x) : L.why i j k t = (4, x) := by
  unfold Land.why; rw [if_neg (by simp [h]), if_neg hm, hr]
  cases hc : L.cbs i j k t with
  | nil => rw [hc] at hx; cases hx
  | cons y l => rw [hc] at hx; simp at hx; subst hx; rfl
theorem why_free {L : Land} {i j k t : Nat} (h : L.up t = true) (hm : ¬ L.mir i < L.need i j t) (hr : L.rbs i j = []) (hc : L.cbs i j k t = []) : L.why i j k t = (0, 0) := by
  unfold Land.why; rw [if_neg (by simp [h]), if_neg hm, hr, hc]
theorem firstNot_at {p : Nat → Bool} {n k : Nat} (hk : k < n) (hp : p k = false) (h : ∀ j, j < k → p j = true) : firstNot p n = k := by
  have : (List.range n).find? (fun k => !p k) = some k := by
    rw [List.find?_range_eq_some]
    exact ⟨by simp [hp], by simpa using hk, fun j hj => by simp [h j hj]⟩
  simp [firstNot, this]
theorem firstNot_all {p : Nat → Bool} {n : Nat} (h : ∀ j, j < n → p j = true) : firstNot p n = n := by
  have : (List.range n).find? (fun k => !p k) = none := by
    rw [List.find?_range_eq_none]
    intro j hj; simp [h j hj]
  simp [firstNot, this]
theorem firstNot_cases (p : Nat → Bool) (n : Nat) : (firstNot p n < n ∧ p (firstNot p n) = false ∧ ∀ j, j < firstNot p n → p j = true) ∨ (firstNot p n = n ∧ ∀ j, j < n → p j = true) := by
  induction n with
  | zero => exact .inr ⟨rfl, fun j hj => by omega⟩
  | succ n ih =>
    rcases ih with ⟨h1, h2, h3⟩ | ⟨h1, h2⟩
    · have : firstNot p (n + 1) = firstNot p n := firstNot_at (by omega) h2 h3
      rw [this]; exact .inl ⟨by omega, h2, h3⟩
    · cases hp : p n with
      | false =>
        have : firstNot p (n + 1) = n := firstNot_at (by omega) hp h2
        rw [this]; exact .inl ⟨by omega, hp, h2⟩
      | true =>
        have h4 : ∀ j, j < n + 1 → p j = true := fun j hj => by
          rcases Nat.lt_succ_iff_lt_or_eq.1 hj with h | h
          · exact h2 j h
          · subst h; exact hp
        exact .inr ⟨firstNot_all h4, h4⟩

/-- With n more, no ridge blocks. -/
def Stn.upBy (a : Stn) (n : Int) : Stn := ⟨a.X, a.Y, a.Z + n, a.M⟩
def freeAt (rd : List Wl) (a b : Stn) (n : Int) : Bool := rd.all fun w => !blk w (a.upBy n) b
/-- The least number at which no ridge blocks; -1 if there is none. -/
def riseOf (rd : List Wl) (a b : Stn) : Int := match (List.range (1001 - a.Z).toNat).find? fun n : Nat => freeAt rd a b n with
  | some n => n
  | none => -1
def Land.rise (L : Land) (i j : Nat) : Int := match L.st[i]?, L.st[j]? with
  | some a, some b => riseOf L.rd a b
  | _, _ => -1
theorem riseOf_some {rd : List Wl} {a b : Stn} {n : Nat} (h1 : a.Z + n ≤ 1000) (h2 : freeAt rd a b n = true) (h3 : ∀ m : Nat, m < n → freeAt rd a b m = false) : riseOf rd a b = n := by
  have : (List.range (1001 - a.Z).toNat).find? (fun n : Nat => freeAt rd a b n) = some n := by
    rw [List.find?_range_eq_some]
    exact ⟨h2, by simp; omega, fun j hj => by simp [h3 j hj]⟩
  simp [riseOf, this]
theorem riseOf_none {rd : List Wl} {a b : Stn} (h : ∀ m : Nat, a.Z + m ≤ 1000 → freeAt rd a b m = false) : riseOf rd a b = -1 := by
  have : (List.range (1001 - a.Z).toNat).find? (fun n : Nat => freeAt rd a b n) = none := by
    rw [List.find?_range_eq_none]
    intro j hj
    simp [h j (by omega)]
  simp [riseOf, this]
end Go.Hill
