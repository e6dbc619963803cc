/- The plain mathematics of layer 1, more: what is asked; what is seen. -/
import Derived.Test.YtmfnkmmbihmjnaaPlain
namespace Go.Hill

def askd (n m h : Nat) (fr to k t : Int) : Int :=
  if inB fr 0 ((n : Int) - 1) && inB to 0 ((n : Int) - 1) && inB k 0 ((m : Int) - 1) && inB t 0 ((h : Int) - 1) then (if fr = to then 6 else 0) else 2
theorem askd_zero {n m h : Nat} {fr to k t : Int} (e : askd n m h fr to k t = 0) :
    ∃ i j c d : Nat, fr = i ∧ to = j ∧ k = c ∧ t = d ∧ i < n ∧ j < n ∧ c < m ∧ d < h ∧ i ≠ j := by
  unfold askd at e
  split at e
  · rename_i hh
    split at e
    · omega
    · simp [inB] at hh
      exact ⟨fr.toNat, to.toNat, k.toNat, t.toNat, by omega, by omega, by omega, by omega, by omega, by omega, by omega, by omega, by omega⟩
  · omega

def Sn.In (s : Sn) : Prop := -100 ≤ s.E ∧ s.E ≤ 100 ∧ -100 ≤ s.N ∧ s.N ≤ 100
def dot (s : Sn) (a b : Stn) : Int := s.E * (b.X - a.X) + s.N * (b.Y - a.Y)
theorem dot_mul {s : Sn} {a b : Stn} (hs : s.In) (ha : a.In) (hb : b.In) : (-10000 ≤ s.E * (b.X - a.X) ∧ s.E * (b.X - a.X) ≤ 10000) ∧ (-10000 ≤ s.N * (b.Y - a.Y) ∧ s.N * (b.Y - a.Y) ≤ 10000) := by
  unfold Sn.In at hs; unfold Stn.In at ha hb
  have := mul_bd (x := s.E) (y := b.X - a.X) (A := 100) (B := 100) (by omega) (by omega) (by omega) (by omega)
  have := mul_bd (x := s.N) (y := b.Y - a.Y) (A := 100) (B := 100) (by omega) (by omega) (by omega) (by omega)
  omega
def behind (s : Sn) (a b : Stn) : Bool := decide (dot s a b < 0)
end Go.Hill
