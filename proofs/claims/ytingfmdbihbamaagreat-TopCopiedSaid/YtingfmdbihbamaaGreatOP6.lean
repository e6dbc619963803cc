/- Layer 5, the walks: a truth picked by words (the list). -/
import Derived.Test.YtingfmdbihbamaaGreatOP5
open Go.RowKit
namespace Go.Proofs.YtingfmdbihbamaaGreat
namespace Cp
open Go.Once

/-- What the legs of a route take, or nothing, if the copy is lost. -/
def OkTakes (r : Rt) (xs : List Int) : Prop := (r.lossy = true ∧ xs = []) ∨ (xs.length = r.legs.length ∧ ∀ (i : Nat) (lg : Lg) (n : Int), r.legs[i]? = some lg → xs[i]? = some n → lg.lo ≤ n ∧ n ≤ lg.hi)
def OkRow (rs : List Rt) (l : List (List Int)) : Prop := l.length = rs.length ∧ ∀ (k : Nat) (r : Rt) (xs : List Int), rs[k]? = some r → l[k]? = some xs → OkTakes r xs
def Shaped (p : Ps) (t : List (List (List Int))) : Prop := t.length = p.sends.length ∧ ∀ l ∈ t, OkRow p.routes l

/-! ### Lists of lists of the call's own -/
def IvO (W : World) (n0 : Nat) (x : IV) : Prop := Own W n0 3 1 (.slice x.a x.xs.length x.c) (ivs x.xs)
structure TvO (W : World) (n0 : Nat) (x : TV) : Prop where
  row : Own W n0 41 1 (.slice x.a x.ls.length x.c) (x.ls.map IV.vs)
  ls : ∀ l ∈ x.ls, IvO W n0 l
section
variable {W W' : World} {n0 n1 : Nat} {x : TV}
theorem TvO.keep (h : TvO W n0 x) (h1 : KeepT 41 W W') (h2 : KeepT 3 W W') : TvO W' n0 x := ⟨h.row.keep h1, fun l hl => Own.keep (h.ls l hl) h2⟩
theorem TvO.later (h : TvO W n0 x) (hb : Below W.heap.size W W') : TvO W' n0 x := h.keep (KeepT.later hb) (KeepT.later hb)
theorem TvO.mono (h : TvO W n1 x) (hn : n0 ≤ n1) : TvO W n0 x := ⟨h.row.mono hn, fun l hl => Own.mono (h.ls l hl) hn⟩
theorem TvO.at (h : TvO W n0 x) : TvAt W x := ⟨h.row.rowAt.2.2, fun l hl => (Own.rowAt (h.ls l hl)).2.2⟩
end

def betwSpec (lo hi : Int) : Fat.Spec := fun v _ _ _ => Betw lo hi v
def oneBetwSpec (lo hi : Int) (T : TypeId) : Fat.Spec := fun v l h w => v = .slice (some ⟨l, 0, none⟩) 1 1 ∧ l < h ∧ ∃ n : Int, Box w l #[.int .i64 n] T ∧ lo ≤ n ∧ n ≤ hi
theorem betwSpec_lasting (lo hi : Int) : Fat.Lasting (betwSpec lo hi) := fun _ _ _ _ _ _ _ h => h
theorem oneBetwSpec_lasting (lo hi : Int) (T : TypeId) : Fat.Lasting (oneBetwSpec lo hi T) := fun _ _ _ _ _ hb _ h => ⟨h.1, h.2.1, let ⟨n, h1, h2⟩ := h.2.2; ⟨n, h1.later hb, h2⟩⟩
theorem oneBetwSpec_new {w : World} {lo hi n : Int} (T : TypeId) (h : lo ≤ n ∧ n ≤ hi) :
    Below w.heap.size w (w.alloc (.cells #[.int .i64 n] T)) ∧ oneBetwSpec lo hi T (.slice (some ⟨w.heap.size, 0, none⟩) 1 1) w.heap.size (w.heap.size + 1) (w.alloc (.cells #[.int .i64 n] T)) :=
  ⟨al (Below.refl _ _) _, rfl, by simp, n, Box.new w _ T, h⟩
def takeSpec (l : Lg) (i : Nat) : Fat.Spec := if i = 19 then betwSpec 0 65535 else if i = 20 then betwSpec 0 65535 else if i = 21 then betwSpec l.lo l.hi else oneBetwSpec l.lo l.hi 3
theorem takeSpec_lasting (l : Lg) (i : Nat) : Fat.Lasting (takeSpec l i) := by
  unfold takeSpec
  (repeat' split) <;> first | exact betwSpec_lasting _ _ | exact oneBetwSpec_lasting _ _ _

/-- The list is one of p, up to k routes. -/
def RowTo (rs : List RtV) (k : Nat) (ls : List IV) : Prop := ls.length = k ∧ ∀ (i : Nat) (x : RtV) (y : IV), rs[i]? = some x → ls[i]? = some y → OkTakes x.rt y.xs
theorem RowTo.succ {rs : List RtV} {k : Nat} {ls : List IV} (h : RowTo rs k ls) {x : RtV} (hx : rs[k]? = some x) {y : IV} (hy : OkTakes x.rt y.xs) : RowTo rs (k + 1) (ls ++ [y]) := by
  refine ⟨by simp [h.1], fun i a b ha hb => ?_⟩
  by_cases hi : i < ls.length
  · rw [List.getElem?_append_left hi] at hb
    exact h.2 i a b ha hb
  · have h1 : i = k := by
      have := (List.getElem?_eq_some_iff.1 hb).1
      simp at this; have := h.1; omega
    subst h1
    rw [hx] at ha; cases ha
    rw [List.getElem?_append_right (by omega), h.1] at hb
    simp at hb; subst hb; exact hy
theorem RowTo.all {rs : List RtV} {ls : List IV} (h : RowTo rs rs.length ls) : OkRow (rs.map RtV.rt) (ls.map (·.xs)) := by
  refine ⟨by simp [h.1], fun k r xs hr hx => ?_⟩
  rw [List.getElem?_map] at hr hx
  obtain ⟨x, hx', rfl⟩ := Option.map_eq_some_iff.1 hr
  obtain ⟨y, hy', rfl⟩ := Option.map_eq_some_iff.1 hx
  exact h.2 k x y hx' hy'
def TakesTo (ls : List LgV) (k : Nat) (xs : List Int) : Prop := xs.length = k ∧ ∀ (i : Nat) (x : LgV) (n : Int), ls[i]? = some x → xs[i]? = some n → x.lg.lo ≤ n ∧ n ≤ x.lg.hi
theorem TakesTo.succ {ls : List LgV} {k : Nat} {xs : List Int} (h : TakesTo ls k xs) {x : LgV} (hx : ls[k]? = some x) {n : Int} (hn : x.lg.lo ≤ n ∧ n ≤ x.lg.hi) : TakesTo ls (k + 1) (xs ++ [n]) := by
  refine ⟨by simp [h.1], fun i a b ha hb => ?_⟩
  by_cases hi : i < xs.length
  · rw [List.getElem?_append_left hi] at hb
    exact h.2 i a b ha hb
  · have h1 : i = k := by
      have := (List.getElem?_eq_some_iff.1 hb).1
      simp at this; have := h.1; omega
    subst h1
    rw [hx] at ha; cases ha
    rw [List.getElem?_append_right (by omega), h.1] at hb
    simp at hb; subst hb; exact hn
theorem TakesTo.ok {x : RtV} {xs : List Int} (h : TakesTo x.legs x.legs.length xs) : OkTakes x.rt xs := by
  refine .inr ⟨by simp [RtV.rt, h.1], fun i lg n hl hn => ?_⟩
  simp only [RtV.rt, List.getElem?_map] at hl
  obtain ⟨y, hy, rfl⟩ := Option.map_eq_some_iff.1 hl
  exact h.2 i y n hy hn

/-- It returns a truth of its own, of p's form. -/
def RetPicked (p : Ps) (w : World) (e : Ending) (w' : World) : Prop := ∃ a c vs t, e = .returned (.slice a vs.length c) ∧ Below w.heap.size w w' ∧ TruthAt w' a vs t ∧ Shaped p t

end Cp
end Go.Proofs.YtingfmdbihbamaaGreat
