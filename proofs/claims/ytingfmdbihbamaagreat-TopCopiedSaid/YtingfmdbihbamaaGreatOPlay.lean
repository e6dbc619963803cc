/- The plain mathematics of copies: when they come, what becomes of a dispatch. No program. -/
import Derived.Test.YtingfmdbihbamaaGreatOP9
namespace Go.Proofs.YtingfmdbihbamaaGreat
namespace Cp
open Go.Once

/-- The hour of a copy at the end of its first i legs. -/
def hourAt (legs : List Lg) (s : Int) (xs : List Int) : Nat → Int
  | 0 => s
  | i + 1 => match legs[i]?, xs[i]? with
    | some l, some n => awk l.as (hourAt legs s xs i + n)
    | _, _ => hourAt legs s xs i
theorem hourAt_succ {legs : List Lg} {s : Int} {xs : List Int} {i : Nat} {l : Lg} {n : Int} (hl : legs[i]? = some l) (hn : xs[i]? = some n) : hourAt legs s xs (i + 1) = awk l.as (hourAt legs s xs i + n) := by
  simp only [hourAt, hl, hn]
/-- The hour at which a copy comes; none, if it is lost. -/
def comesR (r : Rt) (s : Int) (xs : List Int) : Int := if xs = [] then 101 else hourAt r.legs s xs r.legs.length
theorem takes_at {r : Rt} {xs : List Int} (h : OkTakes r xs) (hx : ¬ xs = []) {i : Nat} {l : Lg} (hl : r.legs[i]? = some l) : ∃ n, xs[i]? = some n ∧ l.lo ≤ n ∧ n ≤ l.hi := by
  rcases h with ⟨_, h⟩ | ⟨h1, h2⟩
  · exact absurd h hx
  · obtain ⟨n, hn⟩ : ∃ n, xs[i]? = some n := ⟨xs[i]'(by rw [h1]; exact (List.getElem?_eq_some_iff.1 hl).1), by simp⟩
    exact ⟨n, hn, h2 i l n hl hn⟩
theorem hourAt_bd {r : Rt} (ho : r.Ok) {xs : List Int} (h : OkTakes r xs) (hx : ¬ xs = []) {s : Int} (hs : 0 ≤ s ∧ s ≤ 30) : ∀ i, i ≤ r.legs.length → 0 ≤ hourAt r.legs s xs i ∧ hourAt r.legs s xs i ≤ 31 + 6 * i ∧ Once.Reach r.legs s i (hourAt r.legs s xs i) := by
  intro i
  induction i with
  | zero => intro _; exact ⟨by simp [hourAt]; omega, by simp [hourAt]; omega, .start⟩
  | succ i ih =>
    intro hi
    obtain ⟨h1, h2, h3⟩ := ih (by omega)
    obtain ⟨l, hl⟩ : ∃ l, r.legs[i]? = some l := ⟨r.legs[i], by simp⟩
    obtain ⟨n, hn, n1, n2⟩ := takes_at h hx hl
    have hlo := ho.legs l (List.mem_of_getElem? hl)
    have ht := hlo.tk
    rw [hourAt_succ hl hn]
    have hb := awk_bd hlo.as (h := hourAt r.legs s xs i + n) (by omega)
    exact ⟨by omega, by omega, .leg h3 hl n1 n2⟩
theorem comesR_reach {r : Rt} (ho : r.Ok) {xs : List Int} (h : OkTakes r xs) (hx : ¬ xs = []) {s : Int} (hs : 0 ≤ s ∧ s ≤ 30) : Once.Reach r.legs s r.legs.length (comesR r s xs) ∧ 0 ≤ comesR r s xs ∧ comesR r s xs ≤ 49 := by
  obtain ⟨h1, h2, h3⟩ := hourAt_bd ho h hx hs _ (Nat.le_refl _)
  unfold comesR
  rw [if_neg hx]
  have := ho.l3
  exact ⟨h3, h1, by omega⟩
theorem comesR_bd {r : Rt} (ho : r.Ok) {xs : List Int} (h : OkTakes r xs) {s : Int} (hs : 0 ≤ s ∧ s ≤ 30) : 0 ≤ comesR r s xs ∧ comesR r s xs ≤ 101 := by
  by_cases hx : xs = []
  · unfold comesR; rw [if_pos hx]; omega
  · have := comesR_reach ho h hx hs; omega

/-- The first hour at which a copy by one of the first k routes comes. -/
def hourTo (rs : List Rt) (s : Int) (row : List (List Int)) : Nat → Int
  | 0 => 101
  | k + 1 => match rs[k]?, row[k]? with
    | some r, some xs => min (hourTo rs s row k) (comesR r s xs)
    | _, _ => hourTo rs s row k
theorem hourTo_succ {rs : List Rt} {s : Int} {row : List (List Int)} {k : Nat} {r : Rt} {xs : List Int} (hr : rs[k]? = some r) (hx : row[k]? = some xs) : hourTo rs s row (k + 1) = min (hourTo rs s row k) (comesR r s xs) := by
  simp only [hourTo, hr, hx]
theorem hourTo_bd {rs : List Rt} (ho : ∀ r ∈ rs, r.Ok) {row : List (List Int)} (h : OkRow rs row) {s : Int} (hs : 0 ≤ s ∧ s ≤ 30) : ∀ k, k ≤ rs.length → 0 ≤ hourTo rs s row k ∧ hourTo rs s row k ≤ 101 := by
  intro k
  induction k with
  | zero => intro _; simp [hourTo]
  | succ k ih =>
    intro hk
    obtain ⟨r, hr⟩ : ∃ r, rs[k]? = some r := ⟨rs[k], by simp⟩
    obtain ⟨xs, hx⟩ : ∃ xs, row[k]? = some xs := ⟨row[k]'(by have := h.1; omega), by simp⟩
    have h1 := ih (by omega)
    have h2 := comesR_bd (ho r (List.mem_of_getElem? hr)) (h.2 k r xs hr hx) hs
    rw [hourTo_succ hr hx]
    omega
theorem hourTo_le {rs : List Rt} {s : Int} {row : List (List Int)} : ∀ (n k : Nat), k < n → ∀ {r : Rt} {xs : List Int}, rs[k]? = some r → row[k]? = some xs → hourTo rs s row n ≤ comesR r s xs := by
  intro n
  induction n with
  | zero => intro k hk; omega
  | succ n ih =>
    intro k hk r xs hr hx
    rcases Nat.lt_succ_iff_lt_or_eq.1 hk with h | rfl
    · have h1 := ih k h hr hx
      have h2 : hourTo rs s row (n + 1) ≤ hourTo rs s row n := by
        simp only [hourTo]
        split
        · omega
        · exact Int.le_refl _
      omega
    · rw [hourTo_succ hr hx]; omega

/-- What becomes of a dispatch. -/
structure Ent where
  no : Int
  at_ : Int
  sk : Bool
def Ent.vs (e : Ent) : List Value := [.int .i64 e.no, .int .i64 e.at_, .bool e.sk]
def hourI (p : Ps) (t : List (List (List Int))) (i : Nat) : Int := match p.sends[i]?, t[i]? with
  | some s, some row => hourTo p.routes s row p.routes.length
  | _, _ => 101
def deadI (p : Ps) (i : Nat) : Int := match p.sends[i]? with
  | some s => s + p.pat
  | none => 0
def befI (p : Ps) (t : List (List (List Int))) : Nat → Int
  | 0 => 0
  | i + 1 => max (befI p t i) (min (hourI p t i) (deadI p i))
def entI (p : Ps) (t : List (List (List Int))) (i : Nat) : Ent := ⟨i, befI p t (i + 1), decide (deadI p i < hourI p t i)⟩
def journal (p : Ps) (t : List (List (List Int))) : List Ent := (List.range p.sends.length).map (entI p t)
theorem befI_mono (p : Ps) (t : List (List (List Int))) (i : Nat) : befI p t i ≤ befI p t (i + 1) := by simp only [befI]; omega
theorem befI_nonneg (p : Ps) (t : List (List (List Int))) : ∀ i, 0 ≤ befI p t i
  | 0 => by simp [befI]
  | i + 1 => by have := befI_nonneg p t i; have := befI_mono p t i; omega
theorem dead_bd {p : Ps} (ho : p.Ok) (i : Nat) : 0 ≤ deadI p i ∧ deadI p i ≤ 60 := by
  unfold deadI
  split
  · next s hs => have := ho.sends s (List.mem_of_getElem? hs); have := ho.pat; omega
  · omega
theorem befI_bd {p : Ps} (ho : p.Ok) (t : List (List (List Int))) : ∀ i, 0 ≤ befI p t i ∧ befI p t i ≤ 60
  | 0 => by simp [befI]
  | i + 1 => by have := befI_bd ho t i; have := dead_bd ho i; simp only [befI]; omega
end Cp
end Go.Proofs.YtingfmdbihbamaaGreat
