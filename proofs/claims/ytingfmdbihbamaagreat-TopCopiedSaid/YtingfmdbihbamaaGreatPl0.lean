import GoSem.Core.Value
section
/- The plain mathematics of layer 1: lands, what blocks, what is seen. No program. -/
namespace Go.Hill

structure Stn where
  X : Int
  Y : Int
  Z : Int
  M : Int
structure Wl where
  X1 : Int
  Y1 : Int
  X2 : Int
  Y2 : Int
  B : Int
  T : Int
structure Cd where
  wl : Wl
  fr : Int
  to : Int
structure Sn where
  E : Int
  N : Int
  U : Int
structure Land where
  st : List Stn
  rd : List Wl
  cs : List (List Cd)
  sn : List Sn

def Stn.vs (s : Stn) : List Value := [.int .i64 s.X, .int .i64 s.Y, .int .i64 s.Z, .int .i64 s.M]
def Wl.vs (w : Wl) : List Value := [.int .i64 w.X1, .int .i64 w.Y1, .int .i64 w.X2, .int .i64 w.Y2, .int .i64 w.B, .int .i64 w.T]
def Cd.vs (c : Cd) : List Value := [.int .i64 c.wl.X1, .int .i64 c.wl.Y1, .int .i64 c.wl.X2, .int .i64 c.wl.Y2, .int .i64 c.wl.B, .int .i64 c.wl.T, .int .i64 c.fr, .int .i64 c.to]
def Sn.vs (s : Sn) : List Value := [.int .i64 s.E, .int .i64 s.N, .int .i64 s.U]

def inB (n lo hi : Int) : Bool := decide (lo ≤ n ∧ n ≤ hi)
def Stn.ok (s : Stn) : Bool := inB s.X 0 100 && inB s.Y 0 100 && inB s.Z 0 1000 && inB s.M 1 2
def Wl.ok (w : Wl) : Bool := inB w.X1 0 100 && inB w.Y1 0 100 && inB w.X2 0 100 && inB w.Y2 0 100 && !(w.X1 == w.X2 && w.Y1 == w.Y2) && inB w.B 0 w.T && decide (w.T ≤ 1000)
def Wl.rg (w : Wl) : Bool := w.ok && w.B == 0
def Sn.ok (s : Sn) : Bool := inB s.E (-100) 100 && inB s.N (-100) 100 && inB s.U (-100) 100
def Cd.ok (k : Nat) (c : Cd) : Bool := c.wl.ok && inB c.fr 0 c.to && decide (c.to < k)

/-- Bounds alone. -/
def Stn.In (s : Stn) : Prop := 0 ≤ s.X ∧ s.X ≤ 100 ∧ 0 ≤ s.Y ∧ s.Y ≤ 100 ∧ 0 ≤ s.Z ∧ s.Z ≤ 1000
def Wl.In (w : Wl) : Prop := 0 ≤ w.X1 ∧ w.X1 ≤ 100 ∧ 0 ≤ w.Y1 ∧ w.Y1 ≤ 100 ∧ 0 ≤ w.X2 ∧ w.X2 ≤ 100 ∧ 0 ≤ w.Y2 ∧ w.Y2 ≤ 100 ∧ 0 ≤ w.B ∧ w.B ≤ 1000 ∧ 0 ≤ w.T ∧ w.T ≤ 1000

theorem mul_bd {x y A B : Int} (h1 : -A ≤ x) (h2 : x ≤ A) (h3 : -B ≤ y) (h4 : y ≤ B) : -(A * B) ≤ x * y ∧ x * y ≤ A * B := by
  have hA : x.natAbs ≤ A.toNat := by omega
  have hB : y.natAbs ≤ B.toNat := by omega
  have h := Nat.mul_le_mul hA hB
  rw [← Int.natAbs_mul] at h
  have e : ((A.toNat * B.toNat : Nat) : Int) = A * B := by
    rw [Int.natCast_mul, Int.toNat_of_nonneg (by omega), Int.toNat_of_nonneg (by omega)]
  have h' : ((x * y).natAbs : Int) ≤ A * B := by rw [← e]; exact_mod_cast h
  omega

def side (px py qx qy x y : Int) : Int := (qx - px) * (y - py) - (qy - py) * (x - px)
def In1 (n : Int) : Prop := 0 ≤ n ∧ n ≤ 100
theorem side_mul {px py qx qy x y : Int} (h1 : In1 px) (h2 : In1 py) (h3 : In1 qx) (h4 : In1 qy) (h5 : In1 x) (h6 : In1 y) :
    (-10000 ≤ (qx - px) * (y - py) ∧ (qx - px) * (y - py) ≤ 10000) ∧ (-10000 ≤ (qy - py) * (x - px) ∧ (qy - py) * (x - px) ≤ 10000) := by
  unfold In1 at *
  have := mul_bd (x := qx - px) (y := y - py) (A := 100) (B := 100) (by omega) (by omega) (by omega) (by omega)
  have := mul_bd (x := qy - py) (y := x - px) (A := 100) (B := 100) (by omega) (by omega) (by omega) (by omega)
  omega
theorem side_bd {px py qx qy x y : Int} (h1 : In1 px) (h2 : In1 py) (h3 : In1 qx) (h4 : In1 qy) (h5 : In1 x) (h6 : In1 y) :
    -20000 ≤ side px py qx qy x y ∧ side px py qx qy x y ≤ 20000 := by
  have := side_mul h1 h2 h3 h4 h5 h6
  unfold side; omega

def absI (n : Int) : Int := max n (-n)
/-- The height at the crossing, weighted, less the wall's height h, weighted. -/
def over (h az bz far other : Int) : Int := az * other + bz * far - h * (far + other)

theorem over_mul {h : Int} {a b : Stn} {far other : Int} (ha : a.In) (hb : b.In) (hh : 0 ≤ h ∧ h ≤ 1000) (h1 : 0 ≤ far) (h2 : far ≤ 20000) (h3 : 0 ≤ other) (h4 : other ≤ 20000) :
    (-20000000 ≤ a.Z * other ∧ a.Z * other ≤ 20000000) ∧ (-20000000 ≤ b.Z * far ∧ b.Z * far ≤ 20000000) ∧ (-40000000 ≤ h * (far + other) ∧ h * (far + other) ≤ 40000000) := by
  unfold Stn.In at *
  have := mul_bd (x := a.Z) (y := other) (A := 1000) (B := 20000) (by omega) (by omega) (by omega) (by omega)
  have := mul_bd (x := b.Z) (y := far) (A := 1000) (B := 20000) (by omega) (by omega) (by omega) (by omega)
  have := mul_bd (x := h) (y := far + other) (A := 1000) (B := 40000) (by omega) (by omega) (by omega) (by omega)
  omega

/-- The program's test. -/
def blkOf (B T az bz far other s t : Int) : Bool :=
  if far = 0 ∨ other = 0 ∨ (decide (0 < far) == decide (0 < other)) = true then false
  else if (0 < s ∧ 0 < t) ∨ (s < 0 ∧ t < 0) then false
  else decide (0 ≤ over B az bz (absI far) (absI other)) && decide (over T az bz (absI far) (absI other) ≤ 0)
def blk (w : Wl) (a b : Stn) : Bool :=
  blkOf w.B w.T a.Z b.Z (side w.X1 w.Y1 w.X2 w.Y2 a.X a.Y) (side w.X1 w.Y1 w.X2 w.Y2 b.X b.Y) (side a.X a.Y b.X b.Y w.X1 w.Y1) (side a.X a.Y b.X b.Y w.X2 w.Y2)

/-! ### Lands -/
def sameAt (l : List Stn) (j i : Nat) : Bool := match l[j]?, l[i]? with
  | some a, some b => a.X == b.X && a.Y == b.Y
  | _, _ => false
def apartTo (l : List Stn) (k : Nat) : Bool := (List.range k).all fun i => (List.range i).all fun j => !sameAt l j i
def Land.lim (L : Land) : Bool := decide (6 < L.st.length) || decide (6 < L.rd.length) || decide (4 < L.cs.length) || decide (12 < L.sn.length) || !L.cs.all fun c => decide (c.length ≤ 4)
def Land.arg (L : Land) : Bool := L.st.length == 0 || L.cs.length == 0 || L.sn.length == 0 || !L.st.all Stn.ok || !apartTo L.st L.st.length || !L.rd.all Wl.rg || !(L.cs.all fun c => c.all (·.ok L.sn.length)) || !L.sn.all Sn.ok
def Land.chk (L : Land) : Int := if L.lim then 3 else if L.arg then 1 else 0

/-! ### The reference's test -/
def sgn (n : Int) : Int := if 0 < n then 1 else if n < 0 then -1 else 0
theorem sgn_mul (a b : Int) : -1 ≤ sgn a * sgn b ∧ sgn a * sgn b ≤ 1 := by
  have h : ∀ x : Int, sgn x = 1 ∨ sgn x = -1 ∨ sgn x = 0 := fun x => by unfold sgn; split; simp; split <;> simp
  rcases h a with h1 | h1 | h1 <;> rcases h b with h2 | h2 | h2 <;> rw [h1, h2] <;> decide
def rcross (s t u v : Int) : Bool := sgn s * sgn t == -1 && sgn u * sgn v != 1

def rblkOf (B T az bz s t u v : Int) : Bool :=
  rcross s t u v && (if s < 0 then inB (az * t + bz * -s) (B * (-s + t)) (T * (-s + t)) else inB (az * -t + bz * s) (B * (s - t)) (T * (s - t)))
def rblk (w : Wl) (a b : Stn) : Bool :=
  rblkOf w.B w.T a.Z b.Z (side w.X1 w.Y1 w.X2 w.Y2 a.X a.Y) (side w.X1 w.Y1 w.X2 w.Y2 b.X b.Y) (side a.X a.Y b.X b.Y w.X1 w.Y1) (side a.X a.Y b.X b.Y w.X2 w.Y2)

theorem sgn_cases (x : Int) : (sgn x = 1 ∧ 0 < x) ∨ (sgn x = -1 ∧ x < 0) ∨ (sgn x = 0 ∧ x = 0) := by
  unfold sgn; split
  · exact .inl ⟨rfl, by omega⟩
  · split
    · exact .inr (.inl ⟨rfl, by omega⟩)
    · exact .inr (.inr ⟨rfl, by omega⟩)

theorem opp (s t : Int) : (sgn s * sgn t == -1) = !decide (s = 0 ∨ t = 0 ∨ (decide (0 < s) == decide (0 < t)) = true) := by
  rcases sgn_cases s with ⟨e1, h1⟩ | ⟨e1, h1⟩ | ⟨e1, h1⟩ <;> rcases sgn_cases t with ⟨e2, h2⟩ | ⟨e2, h2⟩ | ⟨e2, h2⟩ <;> rw [e1, e2] <;> simp <;> omega
theorem same (u v : Int) : (sgn u * sgn v != 1) = !decide ((0 < u ∧ 0 < v) ∨ (u < 0 ∧ v < 0)) := by
  rcases sgn_cases u with ⟨e1, h1⟩ | ⟨e1, h1⟩ | ⟨e1, h1⟩ <;> rcases sgn_cases v with ⟨e2, h2⟩ | ⟨e2, h2⟩ | ⟨e2, h2⟩ <;> rw [e1, e2] <;> simp <;> omega
theorem rblkOf_eq (B T az bz s t u v : Int) : rblkOf B T az bz s t u v = blkOf B T az bz s t u v := by
  unfold rblkOf blkOf rcross
  rw [opp, same]
  by_cases c1 : s = 0 ∨ t = 0 ∨ (decide (0 < s) == decide (0 < t)) = true
  · rw [if_pos c1, decide_eq_true c1]; rfl
  · rw [if_neg c1, decide_eq_false c1]
    by_cases c2 : (0 < u ∧ 0 < v) ∨ (u < 0 ∧ v < 0)
    · rw [if_pos c2, decide_eq_true c2]; rfl
    · rw [if_neg c2, decide_eq_false c2]
      simp only [Bool.not_false, Bool.true_and]
      have c3 : (0 < s ∧ t < 0) ∨ (s < 0 ∧ 0 < t) := by simp at c1; omega
      rcases c3 with ⟨h1, h2⟩ | ⟨h1, h2⟩
      · have a1 : absI s = s := by unfold absI; omega
        have a2 : absI t = -t := by unfold absI; omega
        rw [a1, a2, if_neg (by omega)]
        unfold inB over
        rw [show s + -t = s - t by omega]
        rw [Bool.eq_iff_iff]; simp; omega
      · have a1 : absI s = -s := by unfold absI; omega
        have a2 : absI t = t := by unfold absI; omega
        rw [a1, a2, if_pos h1]
        unfold inB over
        rw [Bool.eq_iff_iff]; simp; omega
theorem rblk_eq (w : Wl) (a b : Stn) : rblk w a b = blk w a b := rblkOf_eq _ _ _ _ _ _ _ _
theorem prod_bd {Z x : Int} (h1 : 0 ≤ Z) (h2 : Z ≤ 1000) (h3 : -40000 ≤ x) (h4 : x ≤ 40000) : -40000000 ≤ Z * x ∧ Z * x ≤ 40000000 := by
  have := mul_bd (x := Z) (y := x) (A := 1000) (B := 40000) (by omega) (by omega) (by omega) (by omega)
  omega

end Go.Hill
end

section
/- The plain mathematics of layer 1, more: what is asked; what is seen. -/
namespace Go.Hill

def askd (n m h : Nat) (fr to k t : Int) : Int :=
  if inB fr 0 ((n : Int) - 1) && inB to 0 ((n : Int) - 1) && inB k 0 ((m : Int) - 1) && inB t 0 ((h : Int) - 1) then (if fr = to then 6 else 0) else 2
theorem askd_zero {n m h : Nat} {fr to k t : Int} (e : askd n m h fr to k t = 0) :
    ∃ i j c d : Nat, fr = i ∧ to = j ∧ k = c ∧ t = d ∧ i < n ∧ j < n ∧ c < m ∧ d < h ∧ i ≠ j := by
  unfold askd at e
  split at e
  · rename_i hh
    split at e
    · omega
    · simp [inB] at hh
      exact ⟨fr.toNat, to.toNat, k.toNat, t.toNat, by omega, by omega, by omega, by omega, by omega, by omega, by omega, by omega, by omega⟩
  · omega

def Sn.In (s : Sn) : Prop := -100 ≤ s.E ∧ s.E ≤ 100 ∧ -100 ≤ s.N ∧ s.N ≤ 100
def dot (s : Sn) (a b : Stn) : Int := s.E * (b.X - a.X) + s.N * (b.Y - a.Y)
theorem dot_mul {s : Sn} {a b : Stn} (hs : s.In) (ha : a.In) (hb : b.In) : (-10000 ≤ s.E * (b.X - a.X) ∧ s.E * (b.X - a.X) ≤ 10000) ∧ (-10000 ≤ s.N * (b.Y - a.Y) ∧ s.N * (b.Y - a.Y) ≤ 10000) := by
  unfold Sn.In at hs; unfold Stn.In at ha hb
  have := mul_bd (x := s.E) (y := b.X - a.X) (A := 100) (B := 100) (by omega) (by omega) (by omega) (by omega)
  have := mul_bd (x := s.N) (y := b.Y - a.Y) (A := 100) (B := 100) (by omega) (by omega) (by omega) (by omega)
  omega
def behind (s : Sn) (a b : Stn) : Bool := decide (dot s a b < 0)
end Go.Hill
end

section
/- The plain mathematics of layer 1, the answers: what blocks, why, at which hours, how high. No program. -/
namespace Go.Hill

/-- The numbers below n that pass. -/
def sel (p : Nat → Bool) (n : Nat) : List Int := ((List.range n).filter p).map fun i : Nat => (i : Int)
theorem sel_zero (p : Nat → Bool) : sel p 0 = [] := rfl
theorem sel_succ (p : Nat → Bool) (n : Nat) : sel p (n + 1) = sel p n ++ if p n then [(n : Int)] else [] := by
  unfold sel
  rw [List.range_succ, List.filter_append, List.map_append]
  congr 1
  cases h : p n <;> simp [h]
theorem sel_yes {p : Nat → Bool} {n : Nat} (h : p n = true) : sel p (n + 1) = sel p n ++ [(n : Int)] := by rw [sel_succ, h]; rfl
theorem sel_no {p : Nat → Bool} {n : Nat} (h : p n = false) : sel p (n + 1) = sel p n := by rw [sel_succ, h]; simp
theorem sel_len (p : Nat → Bool) (n : Nat) : (sel p n).length ≤ n := by
  unfold sel
  rw [List.length_map]
  exact Nat.le_trans (List.length_filter_le _ _) (by simp)
theorem sel_congr {p q : Nat → Bool} {n : Nat} (h : ∀ i, i < n → p i = q i) : sel p n = sel q n := by
  unfold sel
  congr 1
  exact List.filter_congr fun i hi => h i (by simpa using hi)
theorem sel_mem {p : Nat → Bool} {n : Nat} {x : Int} : x ∈ sel p n ↔ ∃ i : Nat, i < n ∧ p i = true ∧ x = i := by
  unfold sel
  simp only [List.mem_map, List.mem_filter, List.mem_range]
  constructor
  · rintro ⟨i, ⟨h1, h2⟩, rfl⟩; exact ⟨i, h1, h2, rfl⟩
  · rintro ⟨i, h1, h2, rfl⟩; exact ⟨i, ⟨h1, h2⟩, rfl⟩
theorem sel_contains {p : Nat → Bool} {n i : Nat} : (sel p n).contains (i : Int) = (decide (i < n) && p i) := by
  rw [Bool.eq_iff_iff, List.contains_iff_mem, sel_mem]
  simp only [Bool.and_eq_true, decide_eq_true_eq]
  constructor
  · rintro ⟨j, h1, h2, h3⟩
    obtain rfl : i = j := by omega
    exact ⟨h1, h2⟩
  · rintro ⟨h1, h2⟩; exact ⟨i, h1, h2, rfl⟩
theorem sel_nil {p : Nat → Bool} {n : Nat} : sel p n = [] ↔ ∀ i, i < n → p i = false := by
  constructor
  · intro h i hi
    cases hp : p i with
    | false => rfl
    | true =>
      have : (i : Int) ∈ sel p n := sel_mem.2 ⟨i, hi, hp, rfl⟩
      rw [h] at this; cases this
  · intro h
    rw [List.eq_nil_iff_forall_not_mem]
    intro x hx
    obtain ⟨i, h1, h2, _⟩ := sel_mem.1 hx
    rw [h i h1] at h2; cases h2

/-- How many mirrors a station needs. -/
def needM (s : Sn) (a b : Stn) : Int := if behind s a b then 2 else 1

def Land.rb (L : Land) (i j r : Nat) : Bool := match L.rd[r]?, L.st[i]?, L.st[j]? with
  | some w, some a, some b => blk w a b
  | _, _, _ => false
def Land.rbs (L : Land) (i j : Nat) : List Int := sel (L.rb i j) L.rd.length
def Land.kase (L : Land) (k : Nat) : List Cd := L.cs[k]?.getD []
def Land.cb (L : Land) (i j k t c : Nat) : Bool := match (L.kase k)[c]?, L.st[i]?, L.st[j]? with
  | some w, some a, some b => inB t w.fr w.to && blk w.wl a b
  | _, _, _ => false
def Land.cbs (L : Land) (i j k t : Nat) : List Int := sel (L.cb i j k t) (L.kase k).length
def Land.up (L : Land) (t : Nat) : Bool := match L.sn[t]? with
  | some s => decide (0 < s.U)
  | none => false
def Land.need (L : Land) (i j t : Nat) : Int := match L.sn[t]?, L.st[i]?, L.st[j]? with
  | some s, some a, some b => needM s a b
  | _, _, _ => 0
def Land.mir (L : Land) (i : Nat) : Int := match L.st[i]? with
  | some a => a.M
  | none => 0
/-- The reason, and the first wall. -/
def Land.why (L : Land) (i j k t : Nat) : Int × Int :=
  if L.up t = false then (1, 0)
  else if L.mir i < L.need i j t then (2, 0)
  else match L.rbs i j with
    | r :: _ => (3, r)
    | [] => match L.cbs i j k t with
      | c :: _ => (4, c)
      | [] => (0, 0)
def Land.can (L : Land) (i j k t : Nat) : Bool := i != j && (L.why i j k t).1 == 0
def Land.hrs (L : Land) (i j k : Nat) : List Int := sel (fun t => L.can i j k t) L.sn.length
/-- The first case in which it cannot, or their number. -/
def firstNot (p : Nat → Bool) (n : Nat) : Nat := ((List.range n).find? fun k => !p k).getD n
def Land.stick (L : Land) (i j t : Nat) : Nat := firstNot (fun k => L.can i j k t) L.cs.length
def Land.alw (L : Land) (i j : Nat) : List Int := sel (fun t => L.stick i j t == L.cs.length) L.sn.length
def Land.rch (L : Land) (i k t : Nat) : List Int := sel (fun j => L.can i j k t) L.st.length

theorem why_night {L : Land} {i j k t : Nat} (h : L.up t = false) : L.why i j k t = (1, 0) := by unfold Land.why; rw [if_pos h]
theorem why_behind {L : Land} {i j k t : Nat} (h : L.up t = true) (hm : L.mir i < L.need i j t) : L.why i j k t = (2, 0) := by unfold Land.why; rw [if_neg (by simp [h]), if_pos hm]
theorem why_ridge {L : Land} {i j k t : Nat} {x : Int} (h : L.up t = true) (hm : ¬ L.mir i < L.need i j t) (hx : (L.rbs i j)[0]? = some x) : L.why i j k t = (3, x) := by
  unfold Land.why; rw [if_neg (by simp [h]), if_neg hm]
  cases hr : L.rbs i j with
  | nil => rw [hr] at hx; cases hx
  | cons y l => rw [hr] at hx; simp at hx; subst hx; rfl
theorem why_cloud {L : Land} {i j k t : Nat} {x : Int} (h : L.up t = true) (hm : ¬ L.mir i < L.need i j t) (hr : L.rbs i j = []) (hx : (L.cbs i j k t)[0]? = some x) : L.why i j k t = (4, x) := by
  unfold Land.why; rw [if_neg (by simp [h]), if_neg hm, hr]
  cases hc : L.cbs i j k t with
  | nil => rw [hc] at hx; cases hx
  | cons y l => rw [hc] at hx; simp at hx; subst hx; rfl
theorem why_free {L : Land} {i j k t : Nat} (h : L.up t = true) (hm : ¬ L.mir i < L.need i j t) (hr : L.rbs i j = []) (hc : L.cbs i j k t = []) : L.why i j k t = (0, 0) := by
  unfold Land.why; rw [if_neg (by simp [h]), if_neg hm, hr, hc]
theorem firstNot_at {p : Nat → Bool} {n k : Nat} (hk : k < n) (hp : p k = false) (h : ∀ j, j < k → p j = true) : firstNot p n = k := by
  have : (List.range n).find? (fun k => !p k) = some k := by
    rw [List.find?_range_eq_some]
    exact ⟨by simp [hp], by simpa using hk, fun j hj => by simp [h j hj]⟩
  simp [firstNot, this]
theorem firstNot_all {p : Nat → Bool} {n : Nat} (h : ∀ j, j < n → p j = true) : firstNot p n = n := by
  have : (List.range n).find? (fun k => !p k) = none := by
    rw [List.find?_range_eq_none]
    intro j hj; simp [h j hj]
  simp [firstNot, this]
theorem firstNot_cases (p : Nat → Bool) (n : Nat) : (firstNot p n < n ∧ p (firstNot p n) = false ∧ ∀ j, j < firstNot p n → p j = true) ∨ (firstNot p n = n ∧ ∀ j, j < n → p j = true) := by
  induction n with
  | zero => exact .inr ⟨rfl, fun j hj => by omega⟩
  | succ n ih =>
    rcases ih with ⟨h1, h2, h3⟩ | ⟨h1, h2⟩
    · have : firstNot p (n + 1) = firstNot p n := firstNot_at (by omega) h2 h3
      rw [this]; exact .inl ⟨by omega, h2, h3⟩
    · cases hp : p n with
      | false =>
        have : firstNot p (n + 1) = n := firstNot_at (by omega) hp h2
        rw [this]; exact .inl ⟨by omega, hp, h2⟩
      | true =>
        have h4 : ∀ j, j < n + 1 → p j = true := fun j hj => by
          rcases Nat.lt_succ_iff_lt_or_eq.1 hj with h | h
          · exact h2 j h
          · subst h; exact hp
        exact .inr ⟨firstNot_all h4, h4⟩

/-- With n more, no ridge blocks. -/
def Stn.upBy (a : Stn) (n : Int) : Stn := ⟨a.X, a.Y, a.Z + n, a.M⟩
def freeAt (rd : List Wl) (a b : Stn) (n : Int) : Bool := rd.all fun w => !blk w (a.upBy n) b
/-- The least number at which no ridge blocks; -1 if there is none. -/
def riseOf (rd : List Wl) (a b : Stn) : Int := match (List.range (1001 - a.Z).toNat).find? fun n : Nat => freeAt rd a b n with
  | some n => n
  | none => -1
def Land.rise (L : Land) (i j : Nat) : Int := match L.st[i]?, L.st[j]? with
  | some a, some b => riseOf L.rd a b
  | _, _ => -1
theorem riseOf_some {rd : List Wl} {a b : Stn} {n : Nat} (h1 : a.Z + n ≤ 1000) (h2 : freeAt rd a b n = true) (h3 : ∀ m : Nat, m < n → freeAt rd a b m = false) : riseOf rd a b = n := by
  have : (List.range (1001 - a.Z).toNat).find? (fun n : Nat => freeAt rd a b n) = some n := by
    rw [List.find?_range_eq_some]
    exact ⟨h2, by simp; omega, fun j hj => by simp [h3 j hj]⟩
  simp [riseOf, this]
theorem riseOf_none {rd : List Wl} {a b : Stn} (h : ∀ m : Nat, a.Z + m ≤ 1000 → freeAt rd a b m = false) : riseOf rd a b = -1 := by
  have : (List.range (1001 - a.Z).toNat).find? (fun n : Nat => freeAt rd a b n) = none := by
    rw [List.find?_range_eq_none]
    intro j hj
    simp [h j (by omega)]
  simp [riseOf, this]
end Go.Hill
end
