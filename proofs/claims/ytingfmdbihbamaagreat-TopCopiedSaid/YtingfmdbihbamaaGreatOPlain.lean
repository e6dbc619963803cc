/- The plain mathematics of coded dispatches that are sent in copies. No program. -/
import GoSem.Core.Value
namespace Go.Once

def inB (n lo hi : Int) : Bool := decide (lo ≤ n ∧ n ≤ hi)
structure Ky where
  m : Int
  a : Int
  s : Int
structure Bk where
  size : Int
  words : Int
  keys : List Ky
  days : List Int
def Ky.vs (k : Ky) : List Value := [.int .i64 k.m, .int .i64 k.a, .int .i64 k.s]
def primes : List Int := [13, 17, 19, 23, 29, 31, 37, 41]
structure Ky.Ok (S : Int) (k : Ky) : Prop where
  m1 : 1 ≤ k.m
  m2 : k.m < S
  a1 : 0 ≤ k.a
  a2 : k.a < S
  s1 : 0 ≤ k.s
  s2 : k.s < S
structure Bk.Ok (b : Bk) : Prop where
  size : b.size ∈ primes
  w1 : 1 ≤ b.words
  w2 : b.words ≤ b.size
  k1 : 0 < b.keys.length
  k5 : b.keys.length ≤ 5
  d1 : 0 < b.days.length
  d8 : b.days.length ≤ 8
  keys : ∀ k ∈ b.keys, k.Ok b.size
  days : ∀ d ∈ b.days, 0 ≤ d ∧ d < b.keys.length

/-- The code of a plain number at an index. -/
def codeOf (S : Int) (k : Ky) (n at_ : Int) : Int := (k.m * n + k.a + at_ * k.s) % S
def cLeft (S : Int) (k : Ky) (c at_ : Int) : Int := (c + (S - k.a) % S + at_ * (S - k.s)) % S
/-- What a number is turned to by an inverse. -/
def decOf (S inv : Int) (k : Ky) (c at_ : Int) : Int := cLeft S k c at_ * inv % S

theorem size_bd {S : Int} (h : S ∈ primes) : 13 ≤ S ∧ S ≤ 41 := by
  simp only [primes, List.mem_cons, List.not_mem_nil, or_false] at h
  omega
theorem codeOf_bd {S : Int} (h : S ∈ primes) (k : Ky) (n i : Int) : 0 ≤ codeOf S k n i ∧ codeOf S k n i < S := by
  have := size_bd h
  exact ⟨Int.emod_nonneg _ (by omega), Int.emod_lt_of_pos _ (by omega)⟩
theorem cLeft_code {S : Int} (k : Ky) (n i : Int) : cLeft S k (codeOf S k n i) i = k.m * n % S := by
  unfold cLeft codeOf
  rw [Int.add_assoc, Int.emod_add_emod, ← Int.add_assoc, Int.add_right_comm, Int.add_emod_emod]
  have : k.m * n + k.a + i * k.s + i * (S - k.s) + (S - k.a) = k.m * n + S * (i + 1) := by
    rw [Int.mul_sub, Int.mul_add, Int.mul_one, Int.mul_comm S i]; omega
  rw [this, Int.add_mul_emod_self_left]
theorem decOf_code {S inv : Int} (k : Ky) (n i : Int) (hi : inv * k.m % S = 1) (h0 : 0 ≤ n) (h1 : n < S) : decOf S inv k (codeOf S k n i) i = n := by
  unfold decOf
  rw [cLeft_code, Int.mul_comm, Int.mul_emod, Int.emod_emod, ← Int.mul_emod, ← Int.mul_assoc, Int.mul_emod, hi, Int.one_mul, Int.emod_emod, Int.emod_eq_of_lt h0 h1]
theorem has_inverse : ∀ S ∈ primes, ∀ m : Nat, m < 41 → 1 ≤ m → (m : Int) < S → ∃ i : Nat, i < 41 ∧ ((i : Int) < S ∧ (i : Int) * m % S = 1) := by decide +kernel
theorem is_prime : ∀ S ∈ primes, ∀ d : Nat, d < 41 → 1 < d → (d : Int) < S → ¬ S % d = 0 := by decide +kernel

/-! ### The dispatch -/
def indOf (b : Bk) (day : Nat) : Int := (b.days[day]?.getD 0 + day) % b.keys.length
def sumOf : List Int → Int → Int
  | [], _ => 0
  | x :: l, i => i * x + sumOf l (i + 1)
def chkOf (S : Int) (l : List Int) : Int := sumOf l 1 % S
theorem sumOf_snoc (l : List Int) (x i : Int) : sumOf (l ++ [x]) i = sumOf l i + (i + l.length) * x := by
  induction l generalizing i with
  | nil => simp [sumOf]
  | cons y l ih => simp only [List.cons_append, sumOf, ih, List.length_cons]; rw [show i + 1 + (l.length : Int) = i + ((l.length + 1 : Nat) : Int) by omega]; omega
def codesOf (S : Int) (k : Ky) (l : List Int) : List Int := l.mapIdx fun i n => codeOf S k n i
def dayKey (b : Bk) (day : Nat) : Ky := b.keys[(b.days[day]?.getD 0).toNat]?.getD ⟨1, 0, 0⟩
def bodyOf (b : Bk) (day : Nat) (l : List Int) : List Int := indOf b day :: codesOf b.size (dayKey b day) l
def codeAll (b : Bk) (day : Nat) (l : List Int) : List Int := bodyOf b day l ++ [chkOf b.size (bodyOf b day l)]

/-! ### Copies -/
structure Rg where
  lo : Int
  hi : Int
structure Lg where
  lo : Int
  hi : Int
  as : List Rg
structure Rt where
  legs : List Lg
  lossy : Bool
structure Ps where
  sends : List Int
  routes : List Rt
  pat : Int
def Rg.vs (r : Rg) : List Value := [.int .i64 r.lo, .int .i64 r.hi]
def Rg.Ok (m : Int) (r : Rg) : Prop := 0 ≤ r.lo ∧ r.lo ≤ r.hi ∧ r.hi ≤ m
structure Lg.Ok (l : Lg) : Prop where
  tk : 0 ≤ l.lo ∧ l.lo ≤ l.hi ∧ l.hi ≤ 6
  few : l.as.length ≤ 2
  as : ∀ r ∈ l.as, r.Ok 30
structure Rt.Ok (r : Rt) : Prop where
  l1 : 0 < r.legs.length
  l3 : r.legs.length ≤ 3
  legs : ∀ l ∈ r.legs, l.Ok
structure Ps.Ok (p : Ps) : Prop where
  s1 : 0 < p.sends.length
  s4 : p.sends.length ≤ 4
  r1 : 0 < p.routes.length
  r3 : p.routes.length ≤ 3
  pat : 0 ≤ p.pat ∧ p.pat ≤ 30
  sends : ∀ s ∈ p.sends, 0 ≤ s ∧ s ≤ 30
  rises : ∀ i a b, p.sends[i]? = some a → p.sends[i + 1]? = some b → a < b
  routes : ∀ r ∈ p.routes, r.Ok

/-- Asleep at an hour. -/
def slp (l : List Rg) (h : Int) : Bool := l.any fun r => decide (r.lo ≤ h ∧ h ≤ r.hi)
def wakes (l : List Rg) (h : Int) : Nat := ((List.range 40).find? fun k : Nat => !slp l (h + k)).getD 40
/-- The first hour from h on that is not asleep. -/
def awk (l : List Rg) (h : Int) : Int := h + wakes l h
theorem wakes_at {l : List Rg} {h : Int} {k : Nat} (hk : k < 40) (hp : slp l (h + k) = false) (hb : ∀ j : Nat, j < k → slp l (h + j) = true) : wakes l h = k := by
  have : (List.range 40).find? (fun k : Nat => !slp l (h + k)) = some k := by
    rw [List.find?_range_eq_some]
    refine ⟨by rw [hp]; rfl, List.mem_range.2 hk, fun j hj => by rw [hb j hj]; rfl⟩
  simp [wakes, this]
theorem slp_late {l : List Rg} (hl : ∀ r ∈ l, r.Ok 30) {h : Int} (hh : 30 < h) : slp l h = false := by
  unfold slp
  rw [List.any_eq_false]
  intro r hr
  have := (hl r hr).2.2
  simp; omega
/-- It is within forty hours, where nothing sleeps behind the thirtieth. -/
theorem awk_at {l : List Rg} {h : Int} {k : Nat} (hl : ∀ r ∈ l, r.Ok 30) (h0 : 0 ≤ h) (hp : slp l (h + k) = false) (hb : ∀ j : Nat, j < k → slp l (h + j) = true) : awk l h = h + k ∧ (k = 0 ∨ h + k ≤ 31) := by
  have hk : k = 0 ∨ h + k ≤ 31 := by
    rcases Nat.eq_zero_or_pos k with h1 | h1
    · exact .inl h1
    · refine .inr ?_
      have h2 := hb (k - 1) (by omega)
      by_cases h3 : h + ((k - 1 : Nat) : Int) ≤ 30
      · omega
      · rw [slp_late hl (by omega)] at h2; cases h2
  refine ⟨?_, hk⟩
  unfold awk
  rw [wakes_at (by omega) hp hb]

/-- The hours at which a copy that was sent at s can be at the end of the first j legs. -/
inductive Reach (legs : List Lg) (s : Int) : Nat → Int → Prop
  | start : Reach legs s 0 s
  | leg {j : Nat} {x n : Int} {l : Lg} : Reach legs s j x → legs[j]? = some l → l.lo ≤ n → n ≤ l.hi → Reach legs s (j + 1) (awk l.as (x + n))
end Go.Once
