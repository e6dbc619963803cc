import Derived.Test.YtingfmdbihbamaaGreatPl0
section
/- The plain mathematics of layer 3: the earliest hours, the sure hour, the latest start, the vital stations. No program. -/
namespace Go.Hill

/-- A case: how many stations, the end, who is left out, who can flash to whom at which hour. -/
structure Rel where
  n : Nat
  e : Nat
  out : Int
  c : Nat → Nat → Nat → Bool

def Rel.ok (r : Rel) (R : Nat → Int) (h a b : Nat) : Bool := decide ((a : Int) ≠ r.out) && (decide ((b : Int) ≠ r.out) && (decide (0 ≤ R a) && (decide (R a ≤ h) && r.c a b h)))
def Rel.any (r : Rel) (R : Nat → Int) (h A b : Nat) : Bool := (List.range A).any fun a => r.ok R h a b
/-- The table, when the first A stations have flashed at hour h. -/
def Rel.step (r : Rel) (R : Nat → Int) (h A b : Nat) : Int := if 0 ≤ R b then R b else if r.any R h A b then h + 1 else -1
/-- The table after j hours. -/
def Rel.has (r : Rel) (f s : Nat) : Nat → Nat → Int
  | 0, x => if x = f then s else -1
  | j + 1, x => r.step (r.has f s j) (s + j) r.n x
def Rel.fin (r : Rel) (f s x : Nat) : Int := r.has f s (r.e - s) x
def Rel.hat (r : Rel) (f s x : Nat) : Int := if r.fin f s x < 0 then r.e + 1 else r.fin f s x

theorem Rel.any_iff {r : Rel} {R : Nat → Int} {h A b : Nat} : r.any R h A b = true ↔ ∃ a, a < A ∧ (a : Int) ≠ r.out ∧ (b : Int) ≠ r.out ∧ 0 ≤ R a ∧ R a ≤ h ∧ r.c a b h = true := by
  simp only [Rel.any, List.any_eq_true, List.mem_range, Rel.ok, Bool.and_eq_true, decide_eq_true_eq]
theorem Rel.any_succ (r : Rel) (R : Nat → Int) (h A b : Nat) : r.any R h (A + 1) b = (r.any R h A b || r.ok R h A b) := by
  simp [Rel.any, List.range_succ, List.any_append]
theorem Rel.step_zero {r : Rel} {R : Nat → Int} {h b : Nat} (h1 : R b < 0 → R b = -1) : r.step R h 0 b = R b := by
  unfold Rel.step
  split
  · rfl
  · rw [if_neg (by simp [Rel.any])]; exact (h1 (by omega)).symm
theorem Rel.step_yes {r : Rel} {R : Nat → Int} {h A b : Nat} (h1 : r.step R h A b < 0) (h2 : r.ok R h A b = true) : r.step R h (A + 1) b = h + 1 := by
  unfold Rel.step at h1 ⊢
  split at h1
  · omega
  · rename_i h3
    rw [if_neg h3, Rel.any_succ, h2, Bool.or_true, if_pos rfl]
theorem Rel.step_pos {r : Rel} {R : Nat → Int} {h A b : Nat} (h1 : 0 ≤ r.step R h A b) : r.step R h (A + 1) b = r.step R h A b := by
  unfold Rel.step at h1 ⊢
  split at h1
  · rename_i h3; rw [if_pos h3, if_pos h3]
  · rename_i h3
    split at h1
    · rename_i h4; rw [if_neg h3, if_neg h3, Rel.any_succ, h4, Bool.true_or, if_pos rfl]
    · omega
theorem Rel.step_no {r : Rel} {R : Nat → Int} {h A b : Nat} (h2 : r.ok R h A b = false) : r.step R h (A + 1) b = r.step R h A b := by
  unfold Rel.step
  rw [Rel.any_succ, h2, Bool.or_false]
/-- In the middle of an hour a number is one of the beginning, or after the hour, or none. -/
theorem Rel.step_was {r : Rel} {R : Nat → Int} {h A b : Nat} : (0 ≤ r.step R h A b ∧ r.step R h A b ≤ h) ↔ (0 ≤ R b ∧ R b ≤ h) := by
  unfold Rel.step
  split
  · exact Iff.rfl
  · split
    · constructor <;> intro ⟨_, _⟩ <;> omega
    · constructor <;> intro ⟨_, _⟩ <;> omega

section
variable {r : Rel} {f s : Nat}
theorem Rel.has_zero (x : Nat) : r.has f s 0 x = if x = f then (s : Int) else -1 := rfl
theorem Rel.has_succ (j x : Nat) : r.has f s (j + 1) x = r.step (r.has f s j) (s + j) r.n x := rfl
theorem Rel.has_next {j x : Nat} (h : 0 ≤ r.has f s j x) : r.has f s (j + 1) x = r.has f s j x := by
  show r.step _ _ _ _ = _
  unfold Rel.step
  rw [if_pos h]
theorem Rel.has_stay {j k x : Nat} (h : 0 ≤ r.has f s j x) : r.has f s (j + k) x = r.has f s j x := by
  induction k with
  | zero => rfl
  | succ k ih => rw [← Nat.add_assoc, Rel.has_next (by rw [ih]; exact h), ih]
theorem Rel.has_neg (j x : Nat) : r.has f s j x < 0 → r.has f s j x = -1 := by
  induction j with
  | zero =>
    rw [Rel.has_zero]
    split <;> omega
  | succ j ih =>
    rw [Rel.has_succ]
    unfold Rel.step
    split
    · omega
    · split <;> omega
theorem Rel.has_bd (j x : Nat) : 0 ≤ r.has f s j x → (s : Int) ≤ r.has f s j x ∧ r.has f s j x ≤ s + j := by
  induction j with
  | zero =>
    rw [Rel.has_zero]
    split <;> omega
  | succ j ih =>
    rw [Rel.has_succ]
    unfold Rel.step
    split
    · intro h; have := ih h; omega
    · split <;> omega
theorem Rel.has_late {j k x : Nat} (h : r.has f s j x < 0) : 0 ≤ r.has f s (j + k) x → (s : Int) + j + 1 ≤ r.has f s (j + k) x := by
  induction k with
  | zero => intro h2; rw [Nat.add_zero] at h2; omega
  | succ k ih =>
    rw [← Nat.add_assoc, Rel.has_succ]
    unfold Rel.step
    split
    · exact ih
    · split <;> omega
theorem Rel.has_early {j k x : Nat} (h : 0 ≤ r.has f s (j + k) x) (h2 : r.has f s (j + k) x ≤ s + j) : r.has f s j x = r.has f s (j + k) x := by
  by_cases h3 : 0 ≤ r.has f s j x
  · exact (Rel.has_stay h3).symm
  · have := Rel.has_late (k := k) (Int.not_le.1 h3) h
    omega
theorem Rel.has_from (j : Nat) : r.has f s j f = s := by
  have h : r.has f s 0 f = s := if_pos rfl
  have := Rel.has_stay (r := r) (f := f) (s := s) (j := 0) (k := j) (x := f) (by omega)
  rw [Nat.zero_add] at this
  omega
end

/-- Nobody in a table is later than a flash to it. -/
def Rel.Closed (r : Rel) (t : Nat → Int) : Prop := ∀ a b h : Nat, a < r.n → b < r.n → (a : Int) ≠ r.out → (b : Int) ≠ r.out → t a ≤ h → h < r.e → r.c a b h = true → t b ≤ h + 1
theorem Rel.hat_closed {r : Rel} {f s : Nat} (hs : s ≤ r.e) : r.Closed (r.hat f s) := by
  intro a b h ha hb ho ho' hta he hc
  unfold Rel.hat at hta ⊢
  split at hta
  · omega
  · rename_i h0
    have h0 : 0 ≤ r.has f s (r.e - s) a := Int.not_lt.1 h0
    change r.has f s (r.e - s) a ≤ h at hta
    obtain ⟨h1, h2⟩ := Rel.has_bd _ _ h0
    obtain ⟨j, rfl⟩ : ∃ j, h = s + j := ⟨h - s, by omega⟩
    obtain ⟨k, hk⟩ : ∃ k, r.e - s = j + 1 + k := ⟨r.e - s - (j + 1), by omega⟩
    have h3 : r.has f s j a = r.has f s (r.e - s) a := by
      rw [hk, Nat.add_assoc] at h0 hta ⊢
      exact Rel.has_early h0 (by omega)
    have h4 : 0 ≤ r.has f s (j + 1) b ∧ r.has f s (j + 1) b ≤ s + j + 1 := by
      show 0 ≤ r.step _ _ _ _ ∧ r.step _ _ _ _ ≤ _
      unfold Rel.step
      split
      · rename_i h5; have := Rel.has_bd _ _ h5; omega
      · rw [if_pos (Rel.any_iff.2 ⟨a, ha, ho, ho', by omega, by omega, hc⟩)]; omega
    have h5 : r.fin f s b = r.has f s (j + 1) b := by unfold Rel.fin; rw [hk]; exact Rel.has_stay h4.1
    rw [h5, if_neg (by omega)]
    have h6 := h4.2
    push_cast at h6 ⊢
    omega
theorem Rel.hat_le {r : Rel} {f s : Nat} {t : Nat → Int} (hf : f < r.n) (hc : r.Closed t) (h0 : t f ≤ s) (h1 : ∀ x, x < r.n → t x ≤ r.e + 1) (hs : s ≤ r.e) : ∀ x, x < r.n → t x ≤ r.hat f s x := by
  have key : ∀ j, j ≤ r.e - s → ∀ x, x < r.n → 0 ≤ r.has f s j x → t x ≤ r.has f s j x := by
    intro j
    induction j with
    | zero =>
      intro _ x _
      rw [Rel.has_zero]
      split
      · rename_i h; subst h; omega
      · omega
    | succ j ih =>
      intro hj x hx
      rw [Rel.has_succ]
      unfold Rel.step
      split
      · exact fun h => ih (by omega) x hx h
      · split
        · rename_i h2
          obtain ⟨a, h3, h4, h4', h5, h6, h7⟩ := Rel.any_iff.1 h2
          intro _
          have := ih (by omega) a h3 h5
          exact hc a x (s + j) h3 hx h4 h4' (by omega) (by omega) h7
        · omega
  intro x hx
  unfold Rel.hat
  split
  · exact h1 x hx
  · rename_i h2; exact key _ (Nat.le_refl _) x hx (Int.not_lt.1 h2)
theorem Rel.hat_bd {r : Rel} {f s : Nat} (hs : s ≤ r.e) (x : Nat) : (s : Int) ≤ r.hat f s x ∧ r.hat f s x ≤ r.e + 1 := by
  unfold Rel.hat
  split
  · omega
  · rename_i h
    have := Rel.has_bd (r := r) (f := f) (s := s) (r.e - s) x (Int.not_lt.1 h)
    unfold Rel.fin
    omega
theorem Rel.hat_from {r : Rel} {f s : Nat} : r.hat f s f = s := by
  unfold Rel.hat Rel.fin
  rw [Rel.has_from, if_neg (by omega)]
theorem Rel.hat_gt {r : Rel} {f s x : Nat} (hs : s ≤ r.e) : (r.e : Int) < r.hat f s x ↔ r.fin f s x < 0 := by
  unfold Rel.hat
  split
  · rename_i h; simp only [h, iff_true]; omega
  · rename_i h
    have := Rel.has_bd (r := r) (f := f) (s := s) (r.e - s) x (Int.not_lt.1 h)
    unfold Rel.fin at h ⊢
    omega
theorem Rel.fin_hat {r : Rel} {f s x : Nat} (hs : s ≤ r.e) : (if (r.e : Int) < r.hat f s x then -1 else r.hat f s x) = r.fin f s x := by
  by_cases h : r.fin f s x < 0
  · rw [if_pos ((Rel.hat_gt hs).2 h)]; exact (Rel.has_neg _ _ h).symm
  · rw [if_neg fun h2 => h ((Rel.hat_gt hs).1 h2)]; unfold Rel.hat; rw [if_neg h]

/-- The greatest of the first numbers, and the first that is it; -1 and 0 if there are none. -/
def surF (g : Nat → Int) : Nat → Int × Nat
  | 0 => (-1, 0)
  | k + 1 => if (surF g k).1 < g k then (g k, k) else surF g k
theorem surF_le {g : Nat → Int} {n k : Nat} (hk : k < n) : g k ≤ (surF g n).1 := by
  induction n with
  | zero => omega
  | succ n ih =>
    unfold surF
    by_cases h : k = n
    · subst h; split
      · exact Int.le_refl _
      · omega
    · have := ih (by omega)
      split
      · simp only; omega
      · exact this
theorem surF_cases (g : Nat → Int) (n : Nat) : (surF g n = (-1, 0) ∧ ∀ k, k < n → g k ≤ -1) ∨ ((surF g n).2 < n ∧ (surF g n).1 = g (surF g n).2 ∧ ∀ k, k < (surF g n).2 → g k < (surF g n).1) := by
  induction n with
  | zero => exact .inl ⟨rfl, fun k hk => by omega⟩
  | succ n ih =>
    have hs : surF g (n + 1) = if (surF g n).1 < g n then (g n, n) else surF g n := rfl
    rw [hs]
    split
    · rename_i h
      refine .inr ⟨by simp, rfl, fun k hk => ?_⟩
      have := surF_le (g := g) (show k < n from hk)
      simp only; omega
    · rename_i h
      rcases ih with ⟨h1, h2⟩ | ⟨h1, h2, h3⟩
      · refine .inl ⟨h1, fun k hk => ?_⟩
        rcases Nat.lt_succ_iff_lt_or_eq.1 hk with hk | rfl
        · exact h2 k hk
        · rw [h1] at h; simp only at h; omega
      · exact .inr ⟨by omega, h2, h3⟩
theorem surF_congr {g g' : Nat → Int} {n : Nat} (h : ∀ k, k < n → g k = g' k) : surF g n = surF g' n := by
  induction n with
  | zero => rfl
  | succ n ih => unfold surF; rw [ih fun k hk => h k (by omega), h n (by omega)]
/-- The last of the first numbers that passes, or -1. -/
def lastF (p : Nat → Bool) : Nat → Int
  | 0 => -1
  | n + 1 => if p n then (n : Int) else lastF p n
theorem lastF_congr {p q : Nat → Bool} {n : Nat} (h : ∀ k, k < n → p k = q k) : lastF p n = lastF q n := by
  induction n with
  | zero => rfl
  | succ n ih => unfold lastF; rw [ih fun k hk => h k (by omega), h n (by omega)]
theorem lastF_more {p : Nat → Bool} {n : Nat} (m : Nat) (h : ∀ k, n ≤ k → k < n + m → p k = false) : lastF p (n + m) = lastF p n := by
  induction m with
  | zero => rfl
  | succ m ih =>
    rw [← Nat.add_assoc]
    unfold lastF
    rw [h (n + m) (by omega) (by omega), if_neg (by simp)]
    cases n with
    | zero => exact ih fun k h1 h2 => h k h1 (by omega)
    | succ n => exact ih fun k h1 h2 => h k h1 (by omega)
theorem lastF_cases (p : Nat → Bool) (n : Nat) : (lastF p n = -1 ∧ ∀ k, k < n → p k = false) ∨ ∃ k : Nat, lastF p n = k ∧ k < n ∧ p k = true ∧ ∀ j, k < j → j < n → p j = false := by
  induction n with
  | zero => exact .inl ⟨rfl, fun k hk => by omega⟩
  | succ n ih =>
    unfold lastF
    cases hp : p n with
    | true => exact .inr ⟨n, if_pos rfl, by omega, hp, fun j h1 h2 => by omega⟩
    | false =>
      rw [if_neg (by simp)]
      rcases ih with ⟨h1, h2⟩ | ⟨k, h1, h2, h3, h4⟩
      · exact .inl ⟨h1, fun k hk => by
          rcases Nat.lt_succ_iff_lt_or_eq.1 hk with hk | rfl
          · exact h2 k hk
          · exact hp⟩
      · exact .inr ⟨k, h1, by omega, h3, fun j h5 h6 => by
          rcases Nat.lt_succ_iff_lt_or_eq.1 h6 with hk | rfl
          · exact h4 j h5 hk
          · exact hp⟩

/-! ### Of a land -/
def Land.rel (L : Land) (k : Nat) (out : Int) : Rel := ⟨L.st.length, L.sn.length, out, fun a b h => L.can a b k h⟩
def Land.hat (L : Land) (f s k : Nat) (out : Int) (x : Nat) : Int := (L.rel k out).hat f s x
def Land.fin (L : Land) (f s k : Nat) (out : Int) (x : Nat) : Int := (L.rel k out).fin f s x
/-- The sure hour, after the end if there is none, and its first case. -/
def Land.sur (L : Land) (f t s : Nat) (out : Int) : Int × Nat := surF (fun k => L.hat f s k out t) L.cs.length
def Land.stk (L : Land) (f t s : Nat) (out : Int) : List Int := sel (fun k => decide ((L.sn.length : Int) < L.hat f s k out t)) L.cs.length
def Land.lat (L : Land) (f t u : Nat) : Int := lastF (fun s => decide ((L.sur f t s (-1)).1 ≤ u)) (u + 1)
def Land.vit (L : Land) (f t s : Nat) : List Int := sel (fun i => i != f && (i != t && decide ((L.sn.length : Int) < (L.sur f t s i).1))) L.st.length
/-- The error of stations, hours and a case. -/
def Land.askr (L : Land) (fr ta st k : Int) : Int :=
  if L.chk = 0 then (if inB fr 0 (L.st.length - 1) && (inB ta 0 (L.st.length - 1) && (inB st 0 L.sn.length && inB k 0 (L.cs.length - 1))) then 0 else 2) else L.chk
theorem stk_nil {L : Land} {f t s : Nat} {out : Int} : L.stk f t s out = [] ↔ (L.sur f t s out).1 ≤ L.sn.length := by
  unfold Land.stk Land.sur
  rw [sel_nil]
  constructor
  · intro h
    rcases surF_cases (fun k => L.hat f s k out t) L.cs.length with ⟨h1, _⟩ | ⟨h1, h2, _⟩
    · rw [h1]; simp only; omega
    · rw [h2]; have := h _ h1; simpa using this
  · intro h k hk
    have := surF_le (g := fun k => L.hat f s k out t) hk
    simp only [decide_eq_false_iff_not]
    omega
end Go.Hill
end

section
/- The plain mathematics of layer 3: sets of stations as numbers; the best route. No program. -/
namespace Go.Hill

/-- The numbers below n that pass, as they are. -/
def selN (p : Nat → Bool) (n : Nat) : List Nat := (List.range n).filter p
theorem selN_yes {p : Nat → Bool} {n : Nat} (h : p n = true) : selN p (n + 1) = selN p n ++ [n] := by simp [selN, List.range_succ, List.filter_append, h]
theorem selN_no {p : Nat → Bool} {n : Nat} (h : p n = false) : selN p (n + 1) = selN p n := by simp [selN, List.range_succ, List.filter_append, h]
theorem selN_len (p : Nat → Bool) (n : Nat) : (selN p n).length ≤ n := Nat.le_trans (List.length_filter_le _ _) (by simp)
theorem selN_mem {p : Nat → Bool} {n k : Nat} : k ∈ selN p n ↔ k < n ∧ p k = true := by simp [selN]
theorem selN_more {p : Nat → Bool} {n : Nat} (m : Nat) (h : ∀ k, n ≤ k → k < n + m → p k = false) : selN p (n + m) = selN p n := by
  induction m with
  | zero => rfl
  | succ m ih => rw [← Nat.add_assoc, selN_no (h _ (by omega) (by omega)), ih fun k h1 h2 => h k h1 (by omega)]
theorem selN_congr {p q : Nat → Bool} {n : Nat} (h : ∀ i, i < n → p i = q i) : selN p n = selN q n := List.filter_congr fun i hi => h i (by simpa using hi)

/-- A set of numbers below n as one number. -/
def bitN (p : Nat → Bool) : Nat → Nat
  | 0 => 0
  | n + 1 => if p n then 2 ^ n + bitN p n else bitN p n
theorem bitN_lt (p : Nat → Bool) (n : Nat) : bitN p n < 2 ^ n := by
  induction n with
  | zero => simp [bitN]
  | succ n ih => unfold bitN; rw [Nat.pow_succ]; split <;> omega
theorem bitN_test (p : Nat → Bool) (n i : Nat) : (bitN p n).testBit i = (decide (i < n) && p i) := by
  induction n with
  | zero => simp [bitN]
  | succ n ih =>
    have hlt := bitN_lt p n
    unfold bitN
    cases hp : p n with
    | true =>
      rw [if_pos rfl]
      rcases Nat.lt_trichotomy i n with h | rfl | h
      · rw [Nat.testBit_two_pow_add_gt h, ih]; simp [h, Nat.lt_succ_of_lt h]
      · rw [Nat.testBit_two_pow_add_eq, ih]; simp [hp]
      · rw [Nat.testBit_lt_two_pow (Nat.lt_of_lt_of_le (show 2 ^ n + bitN p n < 2 ^ (n + 1) by rw [Nat.pow_succ]; omega) (Nat.pow_le_pow_right (by omega) h))]
        simp; omega
    | false =>
      rw [if_neg (by simp), ih]
      by_cases h : i = n
      · subst h; simp [hp]
      · have : (i < n + 1) ↔ i < n := by omega
        simp [this]
theorem bitN_eq {p : Nat → Bool} {n m : Nat} (h : ∀ i, m.testBit i = (decide (i < n) && p i)) : m = bitN p n := Nat.eq_of_testBit_eq fun i => by rw [h, bitN_test]
theorem bitN_all (n : Nat) : 2 ^ n - 1 = bitN (fun _ => true) n := bitN_eq fun i => by rw [Nat.testBit_two_pow_sub_one]; simp
theorem bitN_and (p q : Nat → Bool) (n : Nat) : bitN p n &&& bitN q n = bitN (fun i => p i && q i) n := bitN_eq fun i => by
  rw [Nat.testBit_and, bitN_test, bitN_test]; cases decide (i < n) <;> simp
theorem bitN_or {p : Nat → Bool} {n k : Nat} (h : k < n) : bitN p n ||| 2 ^ k = bitN (fun i => p i || i == k) n := bitN_eq fun i => by
  rw [Nat.testBit_or, bitN_test, Nat.testBit_two_pow]
  by_cases hk : i = k
  · subst hk; simp [h]
  · have h1 : ¬ k = i := fun e => hk e.symm
    have h2 : (i == k) = false := by simp [hk]
    simp [h1, h2]
theorem bitN_congr {p q : Nat → Bool} {n : Nat} (h : ∀ i, i < n → p i = q i) : bitN p n = bitN q n := bitN_eq fun i => by
  rw [bitN_test]
  by_cases hi : i < n
  · simp [hi, h i hi]
  · simp [hi]
theorem bit_at (p : Nat → Bool) (n i : Nat) : bitN p n / 2 ^ i % 2 = if (decide (i < n) && p i) then 1 else 0 := by
  have h := Nat.testBit_eq_decide_div_mod_eq (x := bitN p n) (i := i)
  rw [bitN_test] at h
  cases hb : (decide (i < n) && p i) with
  | true => rw [hb] at h; simpa using h
  | false => rw [hb] at h; simp at h; simpa using h
theorem bit_end {p : Nat → Bool} {n i : Nat} (h : bitN p n / 2 ^ i = 0) : ∀ k, i ≤ k → k < n → p k = false := fun k hk hn => by
  have h1 := bit_at p n k
  have h2 : bitN p n / 2 ^ k = 0 := by
    obtain ⟨m, rfl⟩ : ∃ m, k = i + m := ⟨k - i, by omega⟩
    rw [Nat.pow_add, ← Nat.div_div_eq_div_mul, h, Nat.zero_div]
  rw [h2] at h1
  cases hp : p k with
  | false => rfl
  | true => rw [hp] at h1; simp [hn] at h1
theorem bit_more {p : Nat → Bool} {n i : Nat} (h : bitN p n / 2 ^ i ≠ 0) : i < n := by
  rcases Nat.lt_or_ge i n with h1 | h1
  · exact h1
  · exact absurd (Nat.div_eq_of_lt (Nat.lt_of_lt_of_le (bitN_lt p n) (Nat.pow_le_pow_right (by omega) h1))) h

/-! ### Routes -/
structure Hp where
  fr : Nat
  ta : Nat
  hr : Nat
deriving DecidableEq
/-- How two routes with as many hops compare: the sooner, then the lower. -/
def cmpR : List Hp → List Hp → Int
  | [], [] => 0
  | [], _ :: _ => -1
  | _ :: _, [] => 1
  | a :: l, b :: m => if a.hr < b.hr then -1 else if b.hr < a.hr then 1 else if a.ta < b.ta then -1 else if b.ta < a.ta then 1 else cmpR l m
/-- Whether a path is before another one. -/
def bettR : Option (List Hp) → Option (List Hp) → Bool
  | none, _ => false
  | some _, none => true
  | some a, some b => if a.length = b.length then decide (cmpR a b < 0) else decide (a.length < b.length)
/-- The best one, once those over the first stations are tried. -/
def bestS (al : Nat → Nat → Nat → Bool) (g : Nat → Option (List Hp)) (a h : Nat) : Nat → Option (List Hp)
  | 0 => g a
  | b + 1 => if al a b h then (match g b with
      | some x => if bettR (some (⟨a, b, h⟩ :: x)) (bestS al g a h b) then some (⟨a, b, h⟩ :: x) else bestS al g a h b
      | none => bestS al g a h b) else bestS al g a h b
/-- The best path from a station, with d hours left till 'by'. -/
def bestF (al : Nat → Nat → Nat → Bool) (n ta u : Nat) : Nat → Nat → Option (List Hp)
  | 0, a => if a = ta then some [] else none
  | d + 1, a => if a = ta then some [] else bestS al (bestF al n ta u d) a (u - (d + 1)) n
def Land.alws (L : Land) (a b h : Nat) : Bool := (List.range L.cs.length).all fun k => L.can a b k h
def Land.best (L : Land) (f t s u : Nat) : Option (List Hp) := bestF L.alws L.st.length t u (u - s) f
/-- The best route, and when it arrives. -/
def Land.route (L : Land) (f t s : Nat) : Option (List Hp × Nat) := ((List.range (L.sn.length + 1 - s)).findSome? fun i => (L.best f t s (s + i)).map fun l => (l, s + i))
theorem bestS_no {al : Nat → Nat → Nat → Bool} {g : Nat → Option (List Hp)} {a h b : Nat} (hb : al a b h = false) : bestS al g a h (b + 1) = bestS al g a h b := by
  rw [bestS, hb]; simp
theorem bestS_more {al : Nat → Nat → Nat → Bool} {g : Nat → Option (List Hp)} {a h n : Nat} (m : Nat) (hb : ∀ b, n ≤ b → b < n + m → al a b h = false) : bestS al g a h (n + m) = bestS al g a h n := by
  induction m with
  | zero => rfl
  | succ m ih => rw [← Nat.add_assoc, bestS_no (hb _ (by omega) (by omega)), ih fun k h1 h2 => hb k h1 (by omega)]
end Go.Hill
end

section
/- The plain mathematics of layer 3: the table of the earliest hours, as the program fills it. No program. -/
namespace Go.Hill

/-- A table on the way: no number is too low. -/
structure Tab (r : Rel) (f s : Nat) (h : Nat → Int) : Prop where
  lo : ∀ x, x < r.n → r.hat f s x ≤ h x
  hi : ∀ x, x < 6 → h x ≤ r.e + 1
  ge : ∀ x, x < 6 → 0 ≤ h x
  fr : h f ≤ s
  far : ∀ x, r.n ≤ x → x < 6 → h x = r.e + 1
/-- Station b may have it at hour v. -/
def upd (h : Nat → Int) (b : Nat) (v : Int) : Nat → Int := fun x => if x = b then min (h x) v else h x
theorem upd_le (h : Nat → Int) (b : Nat) (v : Int) (x : Nat) : upd h b v x ≤ h x := by unfold upd; split <;> omega
theorem upd_at (h : Nat → Int) (b : Nat) (v : Int) : upd h b v b ≤ v := by unfold upd; rw [if_pos rfl]; omega
theorem tab_start {r : Rel} {f s : Nat} (hf : f < r.n) (hs : s ≤ r.e) : Tab r f s (fun x => if x = f then (s : Int) else r.e + 1) where
  lo := fun x hx => by
    split
    · rename_i h; subst h; rw [Rel.hat_from]; exact Int.le_refl _
    · exact (Rel.hat_bd hs x).2
  hi := fun x _ => by split <;> omega
  ge := fun x _ => by split <;> omega
  fr := by simp
  far := fun x h1 h2 => by rw [if_neg (by omega)]
theorem Tab.upd {r : Rel} {f s : Nat} {h : Nat → Int} (ht : Tab r f s h) (hs : s ≤ r.e) {a b t : Nat} (ha : a < r.n) (hb : b < r.n) (h1 : (a : Int) ≠ r.out) (h2 : (b : Int) ≠ r.out) (h3 : h a ≤ t) (h4 : t < r.e) (hc : r.c a b t = true) : Tab r f s (upd h b (t + 1)) where
  lo := fun x hx => by
    unfold Go.Hill.upd
    split
    · rename_i e; subst e
      have h5 := Rel.hat_closed hs a x t ha hb h1 h2 (Int.le_trans (ht.lo a ha) h3) h4 hc
      have h6 := ht.lo x hx
      omega
    · exact ht.lo x hx
  hi := fun x hx => Int.le_trans (upd_le _ _ _ _) (ht.hi x hx)
  ge := fun x hx => by unfold Go.Hill.upd; split; (have := ht.ge x hx; omega); exact ht.ge x hx
  fr := Int.le_trans (upd_le _ _ _ _) ht.fr
  far := fun x h5 h6 => by unfold Go.Hill.upd; rw [if_neg (by omega)]; exact ht.far x h5 h6
/-- What the first stations' flashes have done to a table since it was h0. -/
structure Pass (r : Rel) (h0 h : Nat → Int) (A : Nat) : Prop where
  le : ∀ x, x < 6 → h x ≤ h0 x
  did : ∀ a t b : Nat, a < A → (a : Int) ≠ r.out → h0 a ≤ t → t < r.e → b < r.n → (b : Int) ≠ r.out → r.c a b t = true → h b ≤ t + 1
theorem Pass.zero (r : Rel) (h : Nat → Int) : Pass r h h 0 := ⟨fun _ _ => Int.le_refl _, fun a t b h => by omega⟩
theorem Pass.less {r : Rel} {h0 h h' : Nat → Int} {A : Nat} (hp : Pass r h0 h A) (hn : r.n ≤ 6) (hl : ∀ x, x < 6 → h' x ≤ h x) : Pass r h0 h' A :=
  ⟨fun x hx => Int.le_trans (hl x hx) (hp.le x hx), fun a t b h1 h2 h3 h4 h5 h6 h7 => Int.le_trans (hl b (by omega)) (hp.did a t b h1 h2 h3 h4 h5 h6 h7)⟩
/-- What station a has done in the hours before t. -/
def Part (r : Rel) (h : Nat → Int) (a : Nat) (t0 t1 : Int) : Prop := ∀ t b : Nat, t0 ≤ t → (t : Int) < t1 → b < r.n → (b : Int) ≠ r.out → r.c a b t = true → h b ≤ t + 1
theorem Part.less {r : Rel} {h h' : Nat → Int} {a : Nat} {t0 t1 : Int} (hp : Part r h a t0 t1) (hn : r.n ≤ 6) (hl : ∀ x, x < 6 → h' x ≤ h x) : Part r h' a t0 t1 :=
  fun t b h1 h2 h3 h4 h5 => Int.le_trans (hl b (by omega)) (hp t b h1 h2 h3 h4 h5)
theorem Part.zero (r : Rel) (h : Nat → Int) (a : Nat) (t : Int) : Part r h a t t := fun _ _ _ _ => by omega
theorem Part.succ {r : Rel} {h : Nat → Int} {a t : Nat} {t0 : Int} (hp : Part r h a t0 t) (hd : ∀ b, b < r.n → (b : Int) ≠ r.out → r.c a b t = true → h b ≤ t + 1) : Part r h a t0 (t + 1) := fun t' b h1 h2 h3 h4 h5 => by
  by_cases he : t' = t
  · subst he; exact hd b h3 h4 h5
  · exact hp t' b h1 (by omega) h3 h4 h5
theorem Pass.succ {r : Rel} {h0 h : Nat → Int} {A : Nat} {t0 t1 : Int} (hp : Pass r h0 h A) (h0le : t0 ≤ h0 A) (hd : Part r h A t0 t1) (ht : (A : Int) = r.out ∨ (r.e : Int) ≤ t1) : Pass r h0 h (A + 1) :=
  ⟨hp.le, fun a t b h1 h2 h3 h4 h5 h6 h7 => by
    by_cases he : a = A
    · subst he
      rcases ht with ht | ht
      · exact absurd ht h2
      · exact hd t b (by omega) (by omega) h5 h6 h7
    · exact hp.did a t b (by omega) h2 h3 h4 h5 h6 h7⟩
/-- The table that is returned. -/
def Rel.tab (r : Rel) (f s : Nat) (x : Nat) : Int := if x < r.n then r.hat f s x else r.e + 1
theorem pass_end {r : Rel} {f s : Nat} {h0 h : Nat → Int} (ht : Tab r f s h) (hp : Pass r h0 h r.n) (he : ∀ x, x < 6 → h x = h0 x) (hn : r.n ≤ 6) (hf : f < r.n) (hs : s ≤ r.e) : ∀ x, x < 6 → h x = r.tab f s x := fun x hx => by
  unfold Rel.tab
  split
  · rename_i hx2
    have hcl : r.Closed h := fun a b t h1 h2 h3 h4 h5 h6 h7 => hp.did a t b h1 h3 (by rw [← he a (by omega)]; exact h5) h6 h2 h4 h7
    have h1 := Rel.hat_le hf hcl ht.fr (fun y hy => ht.hi y (by omega)) hs x hx2
    have h2 := ht.lo x hx2
    omega
  · exact ht.far x (by omega) hx
def sum6 (h : Nat → Int) : Nat := (h 0).toNat + (h 1).toNat + (h 2).toNat + (h 3).toNat + (h 4).toNat + (h 5).toNat
theorem sum6_less {h h0 : Nat → Int} (hl : ∀ x, x < 6 → h x ≤ h0 x) (hg : ∀ x, x < 6 → 0 ≤ h x) (hne : ¬ ∀ x, x < 6 → h x = h0 x) : sum6 h < sum6 h0 := by
  have hle : ∀ x, x < 6 → (h x).toNat ≤ (h0 x).toNat := fun x hx => Int.toNat_le_toNat (hl x hx)
  obtain ⟨x, hx, hlt⟩ : ∃ x, x < 6 ∧ (h x).toNat < (h0 x).toNat := by
    refine Classical.byContradiction fun hc => hne fun x hx => ?_
    have h1 : ¬ (h x).toNat < (h0 x).toNat := fun h2 => hc ⟨x, hx, h2⟩
    have h2 := hl x hx
    have h3 := hg x hx
    omega
  have a0 := hle 0 (by omega); have a1 := hle 1 (by omega); have a2 := hle 2 (by omega); have a3 := hle 3 (by omega); have a4 := hle 4 (by omega); have a5 := hle 5 (by omega)
  unfold sum6
  have hx6 : x = 0 ∨ x = 1 ∨ x = 2 ∨ x = 3 ∨ x = 4 ∨ x = 5 := by omega
  clear hl hg hne hle
  rcases hx6 with rfl | rfl | rfl | rfl | rfl | rfl <;>
  · generalize (h 0).toNat = b0 at *; generalize (h 1).toNat = b1 at *; generalize (h 2).toNat = b2 at *; generalize (h 3).toNat = b3 at *; generalize (h 4).toNat = b4 at *; generalize (h 5).toNat = b5 at *
    generalize (h0 0).toNat = c0 at *; generalize (h0 1).toNat = c1 at *; generalize (h0 2).toNat = c2 at *; generalize (h0 3).toNat = c3 at *; generalize (h0 4).toNat = c4 at *; generalize (h0 5).toNat = c5 at *
    omega
def Land.tab (L : Land) (f s k : Nat) (out : Int) : Nat → Int := (L.rel k out).tab f s
theorem Land.tab_at {L : Land} {f s k x : Nat} {out : Int} (hx : x < L.st.length) : L.tab f s k out x = L.hat f s k out x := if_pos hx
end Go.Hill
end

section
/- The plain mathematics of layer 3: how routes compare; the best route, station by station. No program. -/
namespace Go.Hill

def cmpI (a b : Nat) : Int := if a < b then -1 else if b < a then 1 else 0
def cmpH (a b : Hp) : Int := if cmpI a.hr b.hr = 0 then cmpI a.ta b.ta else cmpI a.hr b.hr
theorem cmpR_cons (a b : Hp) (l m : List Hp) : cmpR (a :: l) (b :: m) = if cmpH a b = 0 then cmpR l m else cmpH a b := by
  rw [cmpR]
  unfold cmpH cmpI
  by_cases h1 : a.hr < b.hr
  · simp [h1]
  · by_cases h2 : b.hr < a.hr
    · simp [h1, h2]
    · by_cases h3 : a.ta < b.ta
      · simp [h1, h2, h3]
      · by_cases h4 : b.ta < a.ta
        · simp [h1, h2, h3, h4]
        · simp [h1, h2, h3, h4]
theorem cmpR_at {l m : List Hp} {i : Nat} {a b : Hp} (ha : l[i]? = some a) (hb : m[i]? = some b) : cmpR (l.drop i) (m.drop i) = if cmpH a b = 0 then cmpR (l.drop (i + 1)) (m.drop (i + 1)) else cmpH a b := by
  obtain ⟨h1, h2⟩ := List.getElem?_eq_some_iff.1 ha
  obtain ⟨h3, h4⟩ := List.getElem?_eq_some_iff.1 hb
  rw [List.drop_eq_getElem_cons h1, List.drop_eq_getElem_cons h3, h2, h4, cmpR_cons]
theorem cmpR_end {l m : List Hp} : cmpR (l.drop l.length) (m.drop l.length) = if l.length < m.length then -1 else 0 := by
  rw [List.drop_length]
  by_cases h : l.length < m.length
  · rw [if_pos h, List.drop_eq_getElem_cons h]; rfl
  · rw [if_neg h, List.drop_eq_nil_of_le (by omega)]; rfl

def bestT (g : Nat → Option (List Hp)) (a h : Nat) (best : Option (List Hp)) (b : Nat) : Option (List Hp) := match g b with
  | some x => if bettR (some (⟨a, b, h⟩ :: x)) best then some (⟨a, b, h⟩ :: x) else best
  | none => best
/-- The best one, once those over the stations of a list are tried. -/
def bestL (g : Nat → Option (List Hp)) (a h : Nat) (l : List Nat) : Option (List Hp) := l.foldl (bestT g a h) (g a)
theorem bestL_snoc (g : Nat → Option (List Hp)) (a h : Nat) (l : List Nat) (b : Nat) : bestL g a h (l ++ [b]) = bestT g a h (bestL g a h l) b := by
  unfold bestL; rw [List.foldl_append]; rfl
theorem bestL_all (al : Nat → Nat → Nat → Bool) (g : Nat → Option (List Hp)) (a h n : Nat) : bestL g a h (selN (fun b => al a b h) n) = bestS al g a h n := by
  induction n with
  | zero => rfl
  | succ n ih =>
    cases hb : al a n h with
    | true =>
      rw [selN_yes (p := fun b => al a b h) hb, bestL_snoc, ih, bestS, hb]
      rfl
    | false => rw [selN_no (p := fun b => al a b h) hb, ih, bestS_no hb]
/-- The hops of a path are of the land, each at an hour of its own. -/
theorem best_len {al : Nat → Nat → Nat → Bool} {n ta u : Nat} : ∀ (d a : Nat) (l : List Hp), bestF al n ta u d a = some l → l.length ≤ d := by
  intro d
  induction d with
  | zero =>
    intro a l h
    unfold bestF at h
    split at h
    · cases h; simp
    · cases h
  | succ d ih =>
    intro a l h
    unfold bestF at h
    split at h
    · cases h; simp
    · have key : ∀ m l, bestS al (bestF al n ta u d) a (u - (d + 1)) m = some l → l.length ≤ d + 1 := by
        intro m
        induction m with
        | zero => intro l h; exact Nat.le_succ_of_le (ih a l h)
        | succ m ihm =>
          intro l h
          unfold bestS at h
          split at h
          · split at h
            · split at h
              · rename_i x hx _
                cases h
                have := ih m x hx
                simp only [List.length_cons]; omega
              · exact ihm l h
            · exact ihm l h
          · exact ihm l h
      exact key n l h
end Go.Hill
end

section
/- The plain mathematics of layer 3: the fewest hops; the best route, hop by hop; what arrives when. No program. -/
namespace Go.Hill

def hopS (al : Nat → Nat → Nat → Bool) (g : Nat → Nat) (a h z : Nat) : Nat → Nat
  | 0 => min z (g a)
  | b + 1 => if g b < 99 ∧ al a b h = true then min (hopS al g a h z b) (1 + g b) else hopS al g a h z b
/-- The fewest hops from a station, with d hours left till u; 99 if there are none. -/
def hopN (al : Nat → Nat → Nat → Bool) (n ta u : Nat) : Nat → Nat → Nat
  | 0, a => if a = ta then 0 else 99
  | d + 1, a => hopS al (hopN al n ta u d) a (u - (d + 1)) (if a = ta then 0 else 99) n
section
variable {al : Nat → Nat → Nat → Bool} {n ta u : Nat}
theorem hopS_z {g : Nat → Nat} {a h z : Nat} (m : Nat) : hopS al g a h z m ≤ z := by
  induction m with
  | zero => exact Nat.min_le_left _ _
  | succ m ih => unfold hopS; split <;> omega
theorem hopS_wait {g : Nat → Nat} {a h z : Nat} (m : Nat) : hopS al g a h z m ≤ g a := by
  induction m with
  | zero => exact Nat.min_le_right _ _
  | succ m ih => unfold hopS; split <;> omega
theorem hopS_le {g : Nat → Nat} {a h z b m : Nat} (hb : b < m) (hg : g b < 99) (ha : al a b h = true) : hopS al g a h z m ≤ 1 + g b := by
  induction m with
  | zero => omega
  | succ m ih =>
    unfold hopS
    by_cases he : b = m
    · subst he; rw [if_pos ⟨hg, ha⟩]; exact Nat.min_le_right _ _
    · have := ih (by omega)
      split <;> omega
theorem bestS_inv {g : Nat → Option (List Hp)} {gn : Nat → Nat} {a h D : Nat} (hg0 : ∀ b, g b = none → 99 ≤ gn b) (hg1 : ∀ b x, g b = some x → gn b = x.length ∧ x.length ≤ D) (hD : D + 1 < 99)
    (hw : ∀ p l, g a = some (p :: l) → h < p.hr) (m : Nat) :
    (bestS al g a h m = none → 99 ≤ hopS al gn a h 99 m) ∧
    (∀ l, bestS al g a h m = some l → hopS al gn a h 99 m = l.length ∧ l.length ≤ D + 1 ∧
      ((g a = some l ∧ ∀ b, b < m → al a b h = true → g b ≠ none → l.length < 1 + gn b) ∨
       (∃ b x, b < m ∧ al a b h = true ∧ g b = some x ∧ l = ⟨a, b, h⟩ :: x ∧ ∀ b', b' < b → al a b' h = true → g b' ≠ none → l.length < 1 + gn b'))) := by
  induction m with
  | zero =>
    refine ⟨fun h0 => ?_, fun l hl => ?_⟩
    · have := hg0 a h0
      show 99 ≤ min 99 (gn a)
      omega
    · obtain ⟨h1, h2⟩ := hg1 a l hl
      refine ⟨?_, by omega, .inl ⟨hl, fun b hb => by omega⟩⟩
      show min 99 (gn a) = _
      omega
  | succ m ih =>
    obtain ⟨ih0, ih1⟩ := ih
    cases hal : al a m h with
    | false =>
      have e1 : bestS al g a h (m + 1) = bestS al g a h m := bestS_no hal
      have e2 : hopS al gn a h 99 (m + 1) = hopS al gn a h 99 m := by rw [hopS, if_neg (by simp [hal])]
      rw [e1, e2]
      refine ⟨ih0, fun l hl => ?_⟩
      obtain ⟨h1, h2, h3⟩ := ih1 l hl
      refine ⟨h1, h2, ?_⟩
      rcases h3 with ⟨h3, h4⟩ | ⟨b, x, h3, h4⟩
      · refine .inl ⟨h3, fun b hb hb2 => ?_⟩
        by_cases he : b = m
        · subst he; rw [hal] at hb2; cases hb2
        · exact h4 b (by omega) hb2
      · exact .inr ⟨b, x, by omega, h4⟩
    | true =>
      cases hgm : g m with
      | none =>
        have hn := hg0 m hgm
        have e1 : bestS al g a h (m + 1) = bestS al g a h m := by rw [bestS, hal, hgm]; simp
        have e2 : hopS al gn a h 99 (m + 1) = hopS al gn a h 99 m := by rw [hopS, if_neg (by omega)]
        rw [e1, e2]
        refine ⟨ih0, fun l hl => ?_⟩
        obtain ⟨h1, h2, h3⟩ := ih1 l hl
        refine ⟨h1, h2, ?_⟩
        rcases h3 with ⟨h3, h4⟩ | ⟨b, x, h3, h4⟩
        · refine .inl ⟨h3, fun b hb hb2 hb3 => ?_⟩
          by_cases he : b = m
          · subst he; exact absurd hgm hb3
          · exact h4 b (by omega) hb2 hb3
        · exact .inr ⟨b, x, by omega, h4⟩
      | some x =>
        obtain ⟨hx1, hx2⟩ := hg1 m x hgm
        have e2 : hopS al gn a h 99 (m + 1) = min (hopS al gn a h 99 m) (1 + gn m) := by rw [hopS, if_pos ⟨by omega, hal⟩]
        have e1 : bestS al g a h (m + 1) = if bettR (some (⟨a, m, h⟩ :: x)) (bestS al g a h m) then some (⟨a, m, h⟩ :: x) else bestS al g a h m := by rw [bestS, hal, hgm]; simp
        have hcl : (⟨a, m, h⟩ :: x : List Hp).length = 1 + x.length := by simp; omega
        rw [e1, e2, hx1]
        have hlow : ∀ b, b < m → al a b h = true → g b ≠ none → hopS al gn a h 99 m ≤ 1 + gn b := fun b h1 h2 h3 => by
          cases hgb : g b with
          | none => exact absurd hgb h3
          | some y =>
            obtain ⟨h4, h5⟩ := hg1 b y hgb
            exact hopS_le h1 (by omega) h2
        cases hS : bestS al g a h m with
        | none =>
          have h0 := ih0 hS
          rw [show bettR (some (⟨a, m, h⟩ :: x)) none = true from rfl, if_pos rfl]
          refine ⟨(by intro h; cases h), fun l hl => ?_⟩
          injection hl with hl
          subst hl
          refine ⟨by rw [hcl]; omega, by rw [hcl]; omega, .inr ⟨m, x, by omega, hal, hgm, rfl, fun b' h1 h2 h3 => ?_⟩⟩
          have h4 := hlow b' h1 h2 h3
          cases hgb : g b' with
          | none => exact absurd hgb h3
          | some y =>
            obtain ⟨h5, h6⟩ := hg1 b' y hgb
            omega
        | some l =>
          obtain ⟨h1, h2, h3⟩ := ih1 l hS
          have hb : bettR (some (⟨a, m, h⟩ :: x)) (some l) = if (⟨a, m, h⟩ :: x : List Hp).length = l.length then decide (cmpR (⟨a, m, h⟩ :: x) l < 0) else decide ((⟨a, m, h⟩ :: x : List Hp).length < l.length) := rfl
          rw [hb, hcl]
          have hnew : (hlt : 1 + x.length ≤ l.length) → (∀ b', b' < m → al a b' h = true → g b' ≠ none → 1 + x.length < 1 + gn b') →
              ((some (⟨a, m, h⟩ :: x) = none → 99 ≤ min (hopS al gn a h 99 m) (1 + x.length)) ∧ ∀ l', some (⟨a, m, h⟩ :: x) = some l' → min (hopS al gn a h 99 m) (1 + x.length) = l'.length ∧ l'.length ≤ D + 1 ∧
                ((g a = some l' ∧ ∀ b, b < m + 1 → al a b h = true → g b ≠ none → l'.length < 1 + gn b) ∨ (∃ b x, b < m + 1 ∧ al a b h = true ∧ g b = some x ∧ l' = ⟨a, b, h⟩ :: x ∧ ∀ b', b' < b → al a b' h = true → g b' ≠ none → l'.length < 1 + gn b'))) := by
            intro hlt hmin
            refine ⟨(by intro h; cases h), fun l' hl => ?_⟩
            injection hl with hl
            subst hl
            exact ⟨by rw [hcl]; omega, by rw [hcl]; omega, .inr ⟨m, x, by omega, hal, hgm, rfl, fun b' k1 k2 k3 => by rw [hcl]; exact hmin b' k1 k2 k3⟩⟩
          by_cases heq : 1 + x.length = l.length
          · rw [if_pos heq]
            rcases h3 with ⟨h3, h4⟩ | ⟨b, y, h3, h4, h5, h6, h7⟩
            · cases l with
              | nil => simp at heq
              | cons p l' =>
                have hlt := hw p l' h3
                have hc : cmpR (⟨a, m, h⟩ :: x) (p :: l') = -1 := by rw [cmpR]; exact if_pos hlt
                rw [hc, show decide ((-1 : Int) < 0) = true from rfl, if_pos rfl]
                exact hnew (by omega) fun b' k1 k2 k3 => by have := h4 b' k1 k2 k3; omega
            · subst h6
              have hc : cmpR (⟨a, m, h⟩ :: x) (⟨a, b, h⟩ :: y) = 1 := by
                rw [cmpR]
                simp only
                rw [if_neg (by omega), if_neg (by omega), if_neg (by omega), if_pos h3]
              rw [hc, show decide ((1 : Int) < 0) = false from rfl, if_neg (by simp)]
              refine ⟨(by intro h; cases h), fun l' hl => ?_⟩
              injection hl with hl
              subst hl
              exact ⟨by omega, h2, .inr ⟨b, y, by omega, h4, h5, rfl, h7⟩⟩
          · rw [if_neg heq]
            by_cases hlt : 1 + x.length < l.length
            · rw [show decide (1 + x.length < l.length) = true by simpa using hlt, if_pos rfl]
              exact hnew (by omega) fun b' k1 k2 k3 => by have := hlow b' k1 k2 k3; omega
            · rw [show decide (1 + x.length < l.length) = false by simpa using hlt, if_neg (by simp)]
              refine ⟨(by intro h; cases h), fun l' hl => ?_⟩
              injection hl with hl
              subst hl
              refine ⟨by omega, h2, ?_⟩
              rcases h3 with ⟨h3, h4⟩ | ⟨b, y, h3, h4⟩
              · refine .inl ⟨h3, fun b hb hb2 hb3 => ?_⟩
                by_cases he : b = m
                · subst he; omega
                · exact h4 b (by omega) hb2 hb3
              · exact .inr ⟨b, y, by omega, h4⟩
/-- The first hop of the best path is the first one that leaves fewest hops. -/
structure First (al : Nat → Nat → Nat → Bool) (n ta u d a : Nat) (p : Hp) (l : List Hp) : Prop where
  fr : p.fr = a
  lo : u - d ≤ p.hr
  hi : p.hr < u
  to : p.ta < n
  yes : al a p.ta p.hr = true
  rest : bestF al n ta u (u - (p.hr + 1)) p.ta = some l
  none1 : ∀ h b, u - d ≤ h → h < p.hr → b < n → al a b h = true → hopN al n ta u (u - (h + 1)) b ≠ l.length
  none2 : ∀ b, b < p.ta → al a b p.hr = true → hopN al n ta u (u - (p.hr + 1)) b ≠ l.length
theorem best_all : ∀ (d a : Nat), d ≤ u → d ≤ 97 → (bestF al n ta u d a = none → 99 ≤ hopN al n ta u d a) ∧
    ∀ l, bestF al n ta u d a = some l → hopN al n ta u d a = l.length ∧ l.length ≤ d ∧ (l = [] → a = ta) ∧ (a = ta → l = []) ∧ ∀ p l', l = p :: l' → First al n ta u d a p l' := by
  intro d
  induction d with
  | zero =>
    intro a _ _
    unfold bestF hopN
    by_cases h : a = ta
    · rw [if_pos h, if_pos h]
      refine ⟨(by intro h; cases h), fun l hl => ?_⟩
      injection hl with hl
      subst hl
      exact ⟨rfl, Nat.le_refl _, fun _ => h, fun _ => rfl, fun p l' h => by cases h⟩
    · rw [if_neg h, if_neg h]
      exact ⟨fun _ => Nat.le_refl _, fun l hl => by cases hl⟩
  | succ d ih =>
    intro a hu hd
    unfold bestF hopN
    by_cases h : a = ta
    · rw [if_pos h, if_pos h]
      refine ⟨(by intro h; cases h), fun l hl => ?_⟩
      injection hl with hl
      subst hl
      exact ⟨Nat.le_zero.1 (hopS_z _), by simp, fun _ => h, fun _ => rfl, fun p l' h => by cases h⟩
    · rw [if_neg h, if_neg h]
      obtain ⟨i0, i1⟩ := bestS_inv (al := al) (g := bestF al n ta u d) (gn := hopN al n ta u d) (a := a) (h := u - (d + 1)) (D := d)
        (fun b hb => (ih b (by omega) (by omega)).1 hb)
        (fun b x hx => by obtain ⟨h1, h2, _⟩ := (ih b (by omega) (by omega)).2 x hx; exact ⟨h1, h2⟩) (by omega)
        (fun p l hl => by
          obtain ⟨_, _, _, _, hF⟩ := (ih a (by omega) (by omega)).2 _ hl
          have := (hF p l rfl).lo
          omega) n
      refine ⟨i0, fun l hl => ?_⟩
      obtain ⟨h1, h2, h3⟩ := i1 l hl
      have hsome : ∀ b k, hopN al n ta u d b = k → k ≤ d → bestF al n ta u d b ≠ none := fun b k hb hk hn => by
        have := (ih b (by omega) (by omega)).1 hn
        omega
      have hud : u - (u - (d + 1) + 1) = d := by omega
      refine ⟨h1, h2, ?_, fun e => absurd e h, ?_⟩
      · rintro rfl
        rcases h3 with ⟨h3, _⟩ | ⟨b, x, _, _, _, h3, _⟩
        · exact ((ih a (by omega) (by omega)).2 _ h3).2.2.1 rfl
        · cases h3
      · rintro p l' rfl
        rcases h3 with ⟨h3, h4⟩ | ⟨b, x, h3, h4, h5, h6, h7⟩
        · obtain ⟨_, hle, _, _, hF⟩ := (ih a (by omega) (by omega)).2 _ h3
          have hF := hF p l' rfl
          have hlen : l'.length + 1 ≤ d := by simpa using hle
          refine ⟨hF.fr, by have := hF.lo; omega, hF.hi, hF.to, hF.yes, hF.rest, fun h' b k1 k2 k3 k4 k5 => ?_, hF.none2⟩
          by_cases he : h' = u - (d + 1)
          · subst he
            rw [hud] at k5
            have := h4 b k3 k4 (hsome b _ k5 (by omega))
            rw [k5] at this
            simp at this
            omega
          · exact hF.none1 h' b (by omega) k2 k3 k4 k5
        · injection h6 with h6 h6'
          subst h6 h6'
          have hlen : l'.length ≤ d := by simpa using h2
          exact ⟨rfl, Nat.le_refl _, by simp only; omega, h3, h4, by simp only; rw [hud]; exact h5, fun h' b' k1 k2 => by simp only at k2; omega, fun b' k1 k2 k3 => by
            simp only at k1 k2 k3
            rw [hud] at k3
            have := h7 b' k1 k2 (hsome b' _ k3 (by omega))
            rw [k3] at this
            simp at this
            omega⟩

/-! ### Paths, and when they arrive -/
def okP (al : Nat → Nat → Nat → Bool) (n ta : Nat) : Nat → Nat → List Hp → Prop
  | a, _, [] => a = ta
  | a, h, p :: l => p.fr = a ∧ h ≤ p.hr ∧ p.ta < n ∧ al a p.ta p.hr = true ∧ okP al n ta p.ta (p.hr + 1) l
def arrA : Nat → List Hp → Nat
  | h, [] => h
  | _, p :: l => arrA (p.hr + 1) l
theorem okP_len : ∀ {l : List Hp} {a h : Nat}, okP al n ta a h l → h + l.length ≤ arrA h l := by
  intro l
  induction l with
  | nil => intro a h _; exact Nat.le_refl _
  | cons p l ih =>
    intro a h ⟨_, h2, _, _, h5⟩
    have := ih h5
    show h + (l.length + 1) ≤ arrA (p.hr + 1) l
    omega
theorem okP_end : ∀ {l : List Hp} {a h : Nat}, okP al n ta a h l → ta < n ∨ l = [] := by
  intro l
  induction l with
  | nil => intro a h _; exact .inr rfl
  | cons p l ih =>
    intro a h ⟨_, _, h3, _, h5⟩
    rcases ih h5 with h | rfl
    · exact .inl h
    · exact .inl (show ta < n from (show p.ta = ta from h5) ▸ h3)
theorem best_sound : ∀ (l : List Hp) (d a : Nat), d ≤ u → d ≤ 97 → bestF al n ta u d a = some l → okP al n ta a (u - d) l ∧ arrA (u - d) l ≤ u := by
  intro l
  induction l with
  | nil =>
    intro d a h1 h2 hl
    obtain ⟨_, _, h3, _⟩ := (best_all d a h1 h2).2 _ hl
    exact ⟨h3 rfl, Nat.sub_le _ _⟩
  | cons p l ih =>
    intro d a h1 h2 hl
    obtain ⟨_, _, _, _, hF⟩ := (best_all d a h1 h2).2 _ hl
    have hF := hF p l rfl
    have h5 := hF.lo
    have h6 := hF.hi
    obtain ⟨h3, h4⟩ := ih (u - (p.hr + 1)) p.ta (by omega) (by omega) hF.rest
    rw [show u - (u - (p.hr + 1)) = p.hr + 1 by omega] at h3 h4
    exact ⟨⟨hF.fr, hF.lo, hF.to, hF.yes, h3⟩, h4⟩
theorem hop_complete : ∀ (d a : Nat) (l : List Hp), d ≤ u → d ≤ 97 → okP al n ta a (u - d) l → arrA (u - d) l ≤ u → hopN al n ta u d a ≤ l.length := by
  intro d
  induction d with
  | zero =>
    intro a l _ _ hp ha
    have := okP_len hp
    have h0 : l = [] := List.length_eq_zero_iff.1 (by omega)
    subst h0
    unfold hopN
    rw [if_pos (show a = ta from hp)]
    simp
  | succ d ih =>
    intro a l hu hd hp ha
    cases l with
    | nil =>
      unfold hopN
      rw [if_pos (show a = ta from hp)]
      exact hopS_z _
    | cons p l =>
      obtain ⟨h1, h2, h3, h4, h5⟩ := hp
      have hl := okP_len h5
      have ha' : arrA (p.hr + 1) l ≤ u := ha
      by_cases he : p.hr = u - (d + 1)
      · have hud : p.hr + 1 = u - d := by omega
        have h6 := ih p.ta l (by omega) (by omega) (by rw [← hud]; exact h5) (by rw [← hud]; exact ha')
        unfold hopN
        rw [he] at h4
        have := hopS_le (al := al) (g := hopN al n ta u d) (z := if a = ta then 0 else 99) h3 (by omega) h4
        simp only [List.length_cons]
        omega
      · have h6 := ih a (p :: l) (by omega) (by omega) ⟨h1, by omega, h3, h4, h5⟩ ha
        unfold hopN
        exact Nat.le_trans (hopS_wait _) h6
theorem best_complete {d a : Nat} {l : List Hp} (hu : d ≤ u) (hd : d ≤ 97) (hp : okP al n ta a (u - d) l) (ha : arrA (u - d) l ≤ u) : ∃ l', bestF al n ta u d a = some l' ∧ l'.length ≤ l.length := by
  have h1 := hop_complete d a l hu hd hp ha
  have h2 := okP_len hp
  cases hb : bestF al n ta u d a with
  | none =>
    have := (best_all d a hu hd).1 hb
    omega
  | some l' =>
    obtain ⟨h3, _⟩ := (best_all d a hu hd).2 l' hb
    exact ⟨l', rfl, by omega⟩
end
theorem findSome_range {α : Type} (F : Nat → Option α) (n : Nat) : ((List.range n).findSome? F = none ∧ ∀ i, i < n → F i = none) ∨ ∃ i x, i < n ∧ F i = some x ∧ (List.range n).findSome? F = some x ∧ ∀ j, j < i → F j = none := by
  induction n with
  | zero => exact .inl ⟨rfl, fun i hi => by omega⟩
  | succ n ih =>
    rw [List.range_succ, List.findSome?_append]
    rcases ih with ⟨h1, h2⟩ | ⟨i, x, h1, h2, h3, h4⟩
    · rw [h1]
      cases hF : F n with
      | none => exact .inl ⟨by simp [hF], fun i hi => by
          by_cases he : i = n
          · subst he; exact hF
          · exact h2 i (by omega)⟩
      | some x => exact .inr ⟨n, x, by omega, hF, by simp [hF], fun j hj => h2 j hj⟩
    · rw [h3]
      exact .inr ⟨i, x, by omega, h2, rfl, h4⟩
/-- The best route: no hour before the one at which it arrives has one. -/
theorem route_cases {L : Land} {f t s : Nat} (hs : s ≤ L.sn.length) : (L.route f t s = none ∧ ∀ u, s ≤ u → u ≤ L.sn.length → L.best f t s u = none) ∨
    ∃ l u, L.route f t s = some (l, u) ∧ s ≤ u ∧ u ≤ L.sn.length ∧ L.best f t s u = some l ∧ ∀ u', s ≤ u' → u' < u → L.best f t s u' = none := by
  rcases findSome_range (fun i => (L.best f t s (s + i)).map fun l => (l, s + i)) (L.sn.length + 1 - s) with ⟨h1, h2⟩ | ⟨i, x, h1, h2, h3, h4⟩
  · refine .inl ⟨h1, fun u hu he => ?_⟩
    have := h2 (u - s) (by omega)
    rw [show s + (u - s) = u by omega] at this
    simpa using this
  · simp only [Option.map_eq_some_iff] at h2
    obtain ⟨l, h2, rfl⟩ := h2
    refine .inr ⟨l, s + i, h3, by omega, by omega, h2, fun u' k1 k2 => ?_⟩
    have := h4 (u' - s) (by omega)
    rw [show s + (u' - s) = u' by omega] at this
    simpa using this
theorem route_arr {L : Land} {f t s u : Nat} {l : List Hp} (he : L.sn.length ≤ 97) (hs : s ≤ u) (hu : u ≤ L.sn.length) (hb : L.best f t s u = some l) (hn : ∀ u', s ≤ u' → u' < u → L.best f t s u' = none) : arrA s l = u ∧ okP L.alws L.st.length t f s l := by
  obtain ⟨h1, h2⟩ := best_sound l (u - s) f (by omega) (by omega) hb
  rw [show u - (u - s) = s by omega] at h1 h2
  refine ⟨?_, h1⟩
  have h3 := okP_len h1
  rcases Nat.lt_or_ge (arrA s l) u with h4 | h4
  · have h5 := hn (arrA s l) (by omega) h4
    obtain ⟨l', h6, _⟩ := best_complete (al := L.alws) (n := L.st.length) (ta := t) (u := arrA s l) (d := arrA s l - s) (a := f) (l := l) (by omega) (by omega) (by rw [show arrA s l - (arrA s l - s) = s by omega]; exact h1) (by rw [show arrA s l - (arrA s l - s) = s by omega]; exact Nat.le_refl _)
    unfold Land.best at h5
    rw [h5] at h6; cases h6
  · omega
/-- A path that works in each case is not better. -/
theorem route_best {L : Land} {f t s : Nat} {l : List Hp} (he : L.sn.length ≤ 97) (hs : s ≤ L.sn.length) (hp : okP L.alws L.st.length t f s l) (ha : arrA s l ≤ L.sn.length) : ∃ l' u, L.route f t s = some (l', u) ∧ (u < arrA s l ∨ (u = arrA s l ∧ l'.length ≤ l.length)) := by
  have h3 := okP_len hp
  obtain ⟨l', h6, h7⟩ := best_complete (al := L.alws) (n := L.st.length) (ta := t) (u := arrA s l) (d := arrA s l - s) (a := f) (l := l) (by omega) (by omega) (by rw [show arrA s l - (arrA s l - s) = s by omega]; exact hp) (by rw [show arrA s l - (arrA s l - s) = s by omega]; exact Nat.le_refl _)
  rcases route_cases (L := L) (f := f) (t := t) hs with ⟨_, h⟩ | ⟨l2, u, h1, h2, h4, h5, h8⟩
  · have := h (arrA s l) (by omega) ha
    unfold Land.best at this
    rw [this] at h6; cases h6
  · refine ⟨l2, u, h1, ?_⟩
    rcases Nat.lt_trichotomy u (arrA s l) with h | h | h
    · exact .inl h
    · subst h
      unfold Land.best at h5
      rw [h5] at h6
      injection h6 with h6
      exact .inr ⟨rfl, by rw [h6]; exact h7⟩
    · have := h8 (arrA s l) (by omega) h
      unfold Land.best at this
      rw [this] at h6; cases h6
end Go.Hill
end
