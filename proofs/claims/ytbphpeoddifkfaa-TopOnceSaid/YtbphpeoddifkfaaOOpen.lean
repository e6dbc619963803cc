/- The statement's arguments: a book, a post and words that came in. -/
import Derived.Test.YtbphpeoddifkfaaOpen0
import Derived.Test.YtbphpeoddifkfaaOT3
open Go.RowKit Go.ChangeShapes Go.WideShapes Go.ChangeAt Go.Deep
namespace Go.Proofs.Ytbphpeoddifkfaa
open Go.Once

instance : Inhabited Ky := ⟨⟨0, 0, 0⟩⟩
instance : Inhabited Rg := ⟨⟨0, 0⟩⟩
instance : Inhabited LgV := ⟨⟨none, 0, ⟨0, 0, []⟩⟩⟩
instance : Inhabited RtV := ⟨⟨none, 0, [], false⟩⟩

section
variable {H : Type} {enc : TypeId × Value → H} {w : World} {base : Nat} {spare : Nat → Bool} {held : Bool}
theorem ky_of {n : Nat} {cs : List Value} {x : DataW H × List MemPlace} (h : DataW.trod enc Try.prog w base spare held n 65 cs = some x) : ∃ y : Ky, cs = y.vs ∧ True := by
  obtain ⟨a, b, c, rfl⟩ := three_of Try.underlying65 (by kernel_rfl) (by kernel_rfl) (by kernel_rfl) h
  exact ⟨⟨a, b, c⟩, rfl, trivial⟩
theorem rg_of {n : Nat} {cs : List Value} {x : DataW H × List MemPlace} (h : DataW.trod enc Try.prog w base spare held n 70 cs = some x) : ∃ y : Rg, cs = y.vs ∧ True := by
  have h1 : Try.prog.cellsOf 3 = 1 := by kernel_rfl
  have hC : Try.prog.cellsOf 70 = 2 := by kernel_rfl
  obtain ⟨xs, m, _, _, hl, hxl, hg⟩ := DataW.trod_struct Try.underlying70 h
  rw [hC] at hl
  obtain ⟨c0, c1, rfl⟩ := len2 hl
  obtain ⟨y0, y1, rfl⟩ := len2 (show xs.length = 2 from hxl)
  obtain ⟨a, rfl⟩ := int_of (by simpa [h1] using hg 0 _ rfl)
  obtain ⟨b, rfl⟩ := int_of (by simpa [h1] using hg 1 _ rfl)
  exact ⟨⟨a, b⟩, rfl, trivial⟩
theorem i_of {n : Nat} {cs : List Value} {x : DataW H × List MemPlace} (h : DataW.trod enc Try.prog w base spare held n 3 cs = some x) : ∃ y : Int, cs = [.int .i64 y] ∧ True := by
  obtain ⟨z, hz, _⟩ := DataW.trod_int Try.underlying3 h
  exact ⟨z, hz, trivial⟩
theorem u_of {n : Nat} {cs : List Value} {x : DataW H × List MemPlace} (h : DataW.trod enc Try.prog w base spare held n 36 cs = some x) : ∃ y : Nat, cs = [.int .u16 (y : Int)] ∧ y < 65536 := by
  obtain ⟨z, hz, _, hw⟩ := DataW.trod_int Try.underlying36 h
  obtain ⟨y, rfl, hy⟩ := u16_nat hw
  exact ⟨y, hz, hy⟩
def LgQ (w : World) (y : LgV) : Prop := LgAt w y ∧ y.lg.as.length ≤ 9223372036854775807
theorem lg_of {n : Nat} {cs : List Value} {x : DataW H × List MemPlace} (h : DataW.trod enc Try.prog w base spare held n 73 cs = some x) : ∃ y : LgV, cs = y.vs ∧ LgQ w y := by
  have h2 : Try.prog.cellsOf 70 = 2 := by kernel_rfl
  have h1 : Try.prog.cellsOf 71 = 1 := by kernel_rfl
  have hC : Try.prog.cellsOf 73 = 3 := by kernel_rfl
  obtain ⟨xs, m, _, _, hl, hxl, hg⟩ := DataW.trod_struct Try.underlying73 h
  rw [hC] at hl
  obtain ⟨c0, c1, c2, rfl⟩ := len3 hl
  obtain ⟨y0, y1, rfl⟩ := len2 (show xs.length = 2 from hxl)
  obtain ⟨r, hr, _⟩ := rg_of (by simpa [h2] using hg 0 _ rfl)
  obtain ⟨l, a, k, e, g1, g2, g3, _⟩ := row_of (size := 2) (f := Rg.vs) (Q := fun _ => True) Try.underlying71 (by kernel_rfl) (by omega) (fun _ _ _ => rg_of) (by simpa [h1] using hg 1 _ rfl)
  simp only [Rg.vs, List.cons.injEq, and_true] at hr
  obtain ⟨rfl, rfl⟩ := hr
  cases e
  unfold maxLen at g2
  exact ⟨⟨a, k, ⟨r.lo, r.hi, l⟩⟩, rfl, g3, by simp only; omega⟩
def RtQ (w : World) (y : RtV) : Prop := RtAt w y ∧ y.legs.length ≤ 9223372036854775807 ∧ ∀ l ∈ y.legs, l.lg.as.length ≤ 9223372036854775807
theorem rt_of {n : Nat} {cs : List Value} {x : DataW H × List MemPlace} (h : DataW.trod enc Try.prog w base spare held n 68 cs = some x) : ∃ y : RtV, cs = y.vs ∧ RtQ w y := by
  have h2 : Try.prog.cellsOf 4 = 1 := by kernel_rfl
  have h1 : Try.prog.cellsOf 66 = 1 := by kernel_rfl
  have hC : Try.prog.cellsOf 68 = 2 := by kernel_rfl
  obtain ⟨xs, m, _, _, hl, hxl, hg⟩ := DataW.trod_struct Try.underlying68 h
  rw [hC] at hl
  obtain ⟨c0, c1, rfl⟩ := len2 hl
  obtain ⟨y0, y1, rfl⟩ := len2 (show xs.length = 2 from hxl)
  obtain ⟨l, a, k, e, g1, g2, g3, g4⟩ := row_of (size := 3) (f := LgV.vs) (Q := LgQ w) Try.underlying66 (by kernel_rfl) (by omega) (fun _ _ _ => lg_of) (by simpa [h1] using hg 0 _ rfl)
  obtain ⟨b, hb, _⟩ := DataW.trod_bool (x := y1) Try.underlying4 (by simpa [h2] using hg 1 _ rfl)
  cases e; cases hb
  unfold maxLen at g2
  exact ⟨⟨a, k, l, b⟩, rfl, ⟨g3, fun z hz => (g4 z hz).1⟩, by simp only; omega, fun z hz => (g4 z hz).2⟩

set_option maxRecDepth 100000 in
/-- A book that came in. -/
theorem open_book {r : Reach} {b0 : Nat} {v : Value} {d : DataW H} {p : List MemPlace} (hv : Value.okWide Try.prog w r b0 25 v) (h : DataW.Trod enc Try.prog w base spare held 25 v d p) :
    ∃ (q : BV) (b : Bk), v = bookV q b ∧ BookAt w q b ∧ BookSane b := by
  have hC : Try.prog.cellsOf 25 = 4 := by kernel_rfl
  have s1 : Try.prog.cellsOf 3 = 1 := by kernel_rfl
  have s2 : Try.prog.cellsOf 22 = 1 := by kernel_rfl
  have s3 : Try.prog.cellsOf 23 = 1 := by kernel_rfl
  obtain ⟨cs, rfl, hsz⟩ := okWide_struct Try.underlying25 hv
  rw [hC] at hsz
  clear hv hC
  obtain ⟨l⟩ := cs
  obtain ⟨c0, c1, c2, c3, rfl⟩ := len4 (l := l) (by simpa using hsz)
  obtain ⟨fuel, hf⟩ := h
  obtain ⟨xs, n, _, _, _, hlen, hg⟩ := DataW.trod_struct Try.underlying25 hf
  obtain ⟨y0, y1, y2, y3, rfl⟩ := len4 (show xs.length = 4 from hlen)
  obtain ⟨z0, rfl⟩ := int_of (by simpa [Value.cells, s1] using hg 0 _ rfl)
  obtain ⟨z1, rfl⟩ := int_of (by simpa [Value.cells, s1] using hg 1 _ rfl)
  obtain ⟨l1, a1, k1, e1, g1, m1, r1, _⟩ := row_of (size := 3) (f := Ky.vs) (Q := fun _ => True) Try.underlying22 (by kernel_rfl) (by omega) (fun _ _ _ => ky_of) (by simpa [Value.cells, s2] using hg 2 _ rfl)
  obtain ⟨l2, a2, k2, e2, g2, m2, r2, _⟩ := row_of (size := 1) (f := fun n : Int => [Value.int .i64 n]) (Q := fun _ => True) Try.underlying23 (by kernel_rfl) (by omega) (fun _ _ _ => i_of) (by simpa [Value.cells, s3] using hg 3 _ rfl)
  cases e1; cases e2
  unfold maxLen at m1 m2
  exact ⟨⟨a1, k1, a2, k2⟩, ⟨z0, z1, l1, l2⟩, rfl, ⟨r1, r2, g1, g2⟩, ⟨by simp only; omega, by simp only; omega⟩⟩

set_option maxRecDepth 100000 in
/-- A post that came in. -/
theorem open_post {r : Reach} {b0 : Nat} {v : Value} {d : DataW H} {p : List MemPlace} (hv : Value.okWide Try.prog w r b0 28 v) (h : DataW.Trod enc Try.prog w base spare held 28 v d p) :
    ∃ (q : PV) (ps : Ps), v = postV q ps ∧ PostAt w q ps ∧ PostSane q ps := by
  have hC : Try.prog.cellsOf 28 = 3 := by kernel_rfl
  have s1 : Try.prog.cellsOf 3 = 1 := by kernel_rfl
  have s2 : Try.prog.cellsOf 26 = 1 := by kernel_rfl
  have s3 : Try.prog.cellsOf 23 = 1 := by kernel_rfl
  obtain ⟨cs, rfl, hsz⟩ := okWide_struct Try.underlying28 hv
  rw [hC] at hsz
  clear hv hC
  obtain ⟨l⟩ := cs
  obtain ⟨c0, c1, c2, rfl⟩ := len3 (l := l) (by simpa using hsz)
  obtain ⟨fuel, hf⟩ := h
  obtain ⟨xs, n, _, _, _, hlen, hg⟩ := DataW.trod_struct Try.underlying28 hf
  obtain ⟨y0, y1, y2, rfl⟩ := len3 (show xs.length = 3 from hlen)
  obtain ⟨l1, a1, k1, e1, g1, m1, r1, _⟩ := row_of (size := 1) (f := fun n : Int => [Value.int .i64 n]) (Q := fun _ => True) Try.underlying23 (by kernel_rfl) (by omega) (fun _ _ _ => i_of) (by simpa [Value.cells, s3] using hg 0 _ rfl)
  obtain ⟨l2, a2, k2, e2, g2, m2, r2, q2⟩ := row_of (size := 2) (f := RtV.vs) (Q := RtQ w) Try.underlying26 (by kernel_rfl) (by omega) (fun _ _ _ => rt_of) (by simpa [Value.cells, s2] using hg 1 _ rfl)
  obtain ⟨z2, rfl⟩ := int_of (by simpa [Value.cells, s1] using hg 2 _ rfl)
  cases e1; cases e2
  unfold maxLen at m1 m2
  exact ⟨⟨a1, k1, a2, k2, l2⟩, ⟨l1, l2.map RtV.rt, z2⟩, rfl, ⟨r1, r2, fun x hx => (q2 x hx).1, rfl⟩, ⟨by simp only; omega, by simp only; omega, fun x hx => (q2 x hx).2.1, fun x hx => (q2 x hx).2.2⟩⟩

set_option maxRecDepth 100000 in
/-- Words that came in. -/
theorem open_words {v : Value} {d : DataW H} {p : List MemPlace} {r : Reach} {b0 : Nat} (hv : Value.okWide Try.prog w r b0 29 v) (h : DataW.Trod enc Try.prog w base spare held 29 v d p) :
    ∃ (l : List Nat) (a : Option Addr) (c : Nat), v = .slice a l.length c ∧ WordsAt w a l ∧ l.length ≤ 9223372036854775807 ∧ ∀ n ∈ l, n < 65536 := by
  obtain ⟨a0, n0, c0, rfl⟩ := okWide_slice Try.underlying29 hv
  clear hv
  obtain ⟨fuel, hf⟩ := h
  obtain ⟨l, a, c, e, g, m, hr, hq⟩ := row_of (size := 1) (f := fun n : Nat => [Value.int .u16 (n : Int)]) (Q := fun n => n < 65536) Try.underlying29 (by kernel_rfl) (by omega) (fun _ _ _ => u_of) hf
  unfold maxLen at m
  cases e
  exact ⟨l, a0, c0, rfl, hr, by omega, hq⟩
end
end Go.Proofs.Ytbphpeoddifkfaa
