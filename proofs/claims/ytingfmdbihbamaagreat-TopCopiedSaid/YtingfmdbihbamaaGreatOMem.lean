/- Books, posts and truths in memory. -/
import Derived.Test.YtingfmdbihbamaaGreatGen0
import Derived.Test.YtingfmdbihbamaaGreatOPlain
open Go.RowKit
namespace Go.Proofs.YtingfmdbihbamaaGreat
namespace Cp
open Go.Once

/-- It returns a value that is right, and nothing that was there has turned. -/
def RetP (p : Value → World → Prop) (w : World) (e : Ending) (w' : World) : Prop := ∃ v, e = .returned v ∧ Below w.heap.size w w' ∧ p v w'

/-! ### A book -/
structure BV where
  a1 : Option Addr
  c1 : Nat
  a2 : Option Addr
  c2 : Nat
structure BookAt (W : World) (q : BV) (b : Bk) : Prop where
  keys : RowAt W q.a1 3 (b.keys.map Ky.vs)
  days : IntsAt W q.a2 b.days
  k1 : b.keys.length ≤ q.c1
  k2 : b.days.length ≤ q.c2
theorem BookAt.later {W W' : World} {q : BV} {b : Bk} (h : BookAt W q b) (hb : Below W.heap.size W W') : BookAt W' q b := ⟨h.keys.later hb, h.days.later hb, h.k1, h.k2⟩
abbrev bookV (q : BV) (b : Bk) : Value := .agg #[.int .i64 b.size, .int .i64 b.words, .slice q.a1 b.keys.length q.c1, .slice q.a2 b.days.length q.c2]
structure BookSane (b : Bk) : Prop where
  l1 : b.keys.length ≤ 9223372036854775807
  l2 : b.days.length ≤ 9223372036854775807
section
variable {W : World} {b o k : Nat}
theorem cells_ky {l : List Ky} {x : Ky} (h : Cells W b o 3 (l.map Ky.vs)) (hx : l[k]? = some x) :
    W.cell? ⟨b, o + k * 3, none⟩ = some (.int .i64 x.m) ∧ W.cell? ⟨b, o + k * 3 + 1, none⟩ = some (.int .i64 x.a) ∧ W.cell? ⟨b, o + k * 3 + 2, none⟩ = some (.int .i64 x.s) := by
  have := h k x.vs (by simp [hx])
  exact ⟨this 0 _ rfl, this 1 _ rfl, this 2 _ rfl⟩
theorem cells_rg {l : List Rg} {x : Rg} (h : Cells W b o 2 (l.map Rg.vs)) (hx : l[k]? = some x) :
    W.cell? ⟨b, o + k * 2, none⟩ = some (.int .i64 x.lo) ∧ W.cell? ⟨b, o + k * 2 + 1, none⟩ = some (.int .i64 x.hi) := by
  have := h k x.vs (by simp [hx])
  exact ⟨this 0 _ rfl, this 1 _ rfl⟩
end

/-! ### A post -/
/-- A leg, and its ranges' slice. -/
structure LgV where
  a : Option Addr
  c : Nat
  lg : Lg
def LgV.vs (x : LgV) : List Value := [.int .i64 x.lg.lo, .int .i64 x.lg.hi, .slice x.a x.lg.as.length x.c]
/-- A route, and its legs' slice. -/
structure RtV where
  a : Option Addr
  c : Nat
  legs : List LgV
  lossy : Bool
def RtV.vs (x : RtV) : List Value := [.slice x.a x.legs.length x.c, .bool x.lossy]
def RtV.rt (x : RtV) : Rt := ⟨x.legs.map (·.lg), x.lossy⟩
def LgAt (W : World) (x : LgV) : Prop := RowAt W x.a 2 (x.lg.as.map Rg.vs)
structure RtAt (W : World) (x : RtV) : Prop where
  row : RowAt W x.a 3 (x.legs.map LgV.vs)
  legs : ∀ l ∈ x.legs, LgAt W l
theorem RtAt.later {W W' : World} {x : RtV} (h : RtAt W x) (hb : Below W.heap.size W W') : RtAt W' x := ⟨h.row.later hb, fun l hl => RowAt.later (h.legs l hl) hb⟩
structure PV where
  a1 : Option Addr
  c1 : Nat
  a2 : Option Addr
  c2 : Nat
  rs : List RtV
structure PostAt (W : World) (q : PV) (p : Ps) : Prop where
  sends : IntsAt W q.a1 p.sends
  row : RowAt W q.a2 2 (q.rs.map RtV.vs)
  rts : ∀ x ∈ q.rs, RtAt W x
  eq : q.rs.map RtV.rt = p.routes
theorem PostAt.later {W W' : World} {q : PV} {p : Ps} (h : PostAt W q p) (hb : Below W.heap.size W W') : PostAt W' q p := ⟨h.sends.later hb, h.row.later hb, fun x hx => (h.rts x hx).later hb, h.eq⟩
abbrev postV (q : PV) (p : Ps) : Value := .agg #[.slice q.a1 p.sends.length q.c1, .slice q.a2 q.rs.length q.c2, .int .i64 p.pat]
section
variable {W : World} {b o k : Nat}
theorem cells_lg {l : List LgV} {x : LgV} (h : Cells W b o 3 (l.map LgV.vs)) (hx : l[k]? = some x) :
    W.cell? ⟨b, o + k * 3, none⟩ = some (.int .i64 x.lg.lo) ∧ W.cell? ⟨b, o + k * 3 + 1, none⟩ = some (.int .i64 x.lg.hi) ∧ W.cell? ⟨b, o + k * 3 + 2, none⟩ = some (.slice x.a x.lg.as.length x.c) := by
  have := h k x.vs (by simp [hx])
  exact ⟨this 0 _ rfl, this 1 _ rfl, this 2 _ rfl⟩
theorem cells_rt {l : List RtV} {x : RtV} (h : Cells W b o 2 (l.map RtV.vs)) (hx : l[k]? = some x) :
    W.cell? ⟨b, o + k * 2, none⟩ = some (.slice x.a x.legs.length x.c) ∧ W.cell? ⟨b, o + k * 2 + 1, none⟩ = some (.bool x.lossy) := by
  have := h k x.vs (by simp [hx])
  exact ⟨this 0 _ rfl, this 1 _ rfl⟩
end

/-! ### A truth: lists of lists of lists -/
structure IV where
  a : Option Addr
  c : Nat
  xs : List Int
structure TV where
  a : Option Addr
  c : Nat
  ls : List IV
def IV.vs (x : IV) : List Value := [.slice x.a x.xs.length x.c]
def TV.vs (x : TV) : List Value := [.slice x.a x.ls.length x.c]
structure TvAt (W : World) (x : TV) : Prop where
  row : RowAt W x.a 1 (x.ls.map IV.vs)
  ls : ∀ l ∈ x.ls, IntsAt W l.a l.xs
theorem TvAt.later {W W' : World} {x : TV} (h : TvAt W x) (hb : Below W.heap.size W W') : TvAt W' x := ⟨h.row.later hb, fun l hl => (h.ls l hl).later hb⟩
def TV.told (x : TV) : List (List Int) := x.ls.map (·.xs)
structure TruthAt (W : World) (a : Option Addr) (vs : List TV) (t : List (List (List Int))) : Prop where
  row : RowAt W a 1 (vs.map TV.vs)
  ls : ∀ x ∈ vs, TvAt W x
  eq : vs.map TV.told = t
theorem TruthAt.later {W W' : World} {a : Option Addr} {vs : List TV} {t : List (List (List Int))} (h : TruthAt W a vs t) (hb : Below W.heap.size W W') : TruthAt W' a vs t := ⟨h.row.later hb, fun x hx => (h.ls x hx).later hb, h.eq⟩
end Cp
end Go.Proofs.YtingfmdbihbamaaGreat
