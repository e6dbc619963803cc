/- The statement's example: one dispatch. -/
import Derived.Test.YtbphpeoddifkfaaOI5
open Go.RowKit Go.Shelf
namespace Go.Proofs.Ytbphpeoddifkfaa
open Go.Once

section
variable {w : World} {p : World → Prop} {c1 c2 c3 c4 c5 c6 : Array Value} {t1 t2 t3 t4 t5 t6 : TypeId}
theorem named6 (h : ∀ W, Below w.heap.size w W → Box W w.heap.size c1 t1 → Box W (w.heap.size + 1) c2 t2 → Box W (w.heap.size + 1 + 1) c3 t3 → Box W (w.heap.size + 1 + 1 + 1) c4 t4 → Box W (w.heap.size + 1 + 1 + 1 + 1) c5 t5 → Box W (w.heap.size + 1 + 1 + 1 + 1 + 1) c6 t6 → p W) :
    p ((((((w.alloc (.cells c1 t1)).alloc (.cells c2 t2)).alloc (.cells c3 t3)).alloc (.cells c4 t4)).alloc (.cells c5 t5)).alloc (.cells c6 t6)) :=
  h _ (al (al (al (al (al (al (Below.refl _ _) _) _) _) _) _) _) ((((((Box.new _ _ _).alloc _).alloc _).alloc _).alloc _).alloc _) (((((Box.newAt _ _ (by simp)).alloc _).alloc _).alloc _).alloc _) ((((Box.newAt _ _ (by simp)).alloc _).alloc _).alloc _) (((Box.newAt _ _ (by simp)).alloc _).alloc _) ((Box.newAt _ _ (by simp)).alloc _) (Box.newAt _ _ (by simp))
end
theorem row_one {W : World} {b : Nat} {cs : Array Value} {T : TypeId} (hB : Box W b cs T) : RowAt W (some ⟨b, 0, none⟩) cs.size [cs.toList] := by
  refine .inr ⟨b, 0, rfl, fun i x hx j v hv => ?_⟩
  have hi : i = 0 := by have := (List.getElem?_eq_some_iff.1 hx).1; simpa using this
  subst hi
  simp at hx; subst hx
  simp only [Nat.zero_mul, Nat.zero_add]
  rw [hB.cell]
  simpa using hv

def exB : Bk := ⟨13, 13, [⟨1, 2, 0⟩], [0]⟩
theorem exB_ok : exB.Ok := ⟨by decide, by decide, by decide, by decide, by decide, by decide, by decide, fun k hk => by simp [exB] at hk; subst hk; exact ⟨by decide, by decide, by decide, by decide, by decide, by decide⟩, fun d hd => by simp [exB] at hd; subst hd; decide⟩
theorem exB_code : codeAll exB 0 [5] = [0, 7, 1] := by decide
def exP : Ps := ⟨[3], [⟨[⟨1, 1, []⟩], false⟩], 2⟩
theorem exP_ok : exP.Ok := ⟨by decide, by decide, by decide, by decide, by decide, fun s hs => by simp [exP] at hs; subst hs; decide, fun i a b ha hb => by
    have := (List.getElem?_eq_some_iff.1 hb).1
    simp [exP] at this, fun r hr => by
    simp [exP] at hr; subst hr
    exact ⟨by decide, by decide, fun l hl => by simp at hl; subst hl; exact ⟨by decide, by decide, fun r hr => by cases hr⟩⟩⟩
theorem exP_shaped : Shaped exP [[[1]]] := by
  refine ⟨rfl, fun l hl => ?_⟩
  simp at hl; subst hl
  refine ⟨rfl, fun k r xs hr hx => ?_⟩
  have hk : k = 0 := by have := (List.getElem?_eq_some_iff.1 hx).1; simpa using this
  subst hk
  simp [exP] at hr hx
  subst hr; subst hx
  refine .inr ⟨rfl, fun i lg n hl hn => ?_⟩
  have hk : i = 0 := by have := (List.getElem?_eq_some_iff.1 hn).1; simpa using this
  subst hk
  simp at hl hn
  subst hl; subst hn
  decide
theorem exP_journal : journal exP [[[1]]] = [⟨0, 4, false⟩] := by
  have h1 : befI exP [[[1]]] 1 = 4 := by decide +kernel
  have h2 : decide (deadI exP 0 < hourI exP [[[1]]] 0) = false := by decide +kernel
  show [entI exP [[[1]]] 0] = _
  unfold entI
  rw [h1, h2]; rfl

set_option maxRecDepth 100000 in
set_option maxHeartbeats 4000000 in
theorem once_any (w : World) : Calls Try.prog 8 #[] w (Ret (.bool true) w) := by
  go_enter Try.func8, Try.ntmps8
  go_wp2_with fail
  refine named3 (p := fun W => Calls _ _ _ W _) ?_
  intro W hW B7 B8 B10
  have hBk : BookAt W ⟨some ⟨w.heap.size, 0, none⟩, 1, some ⟨w.heap.size + 1, 0, none⟩, 1⟩ exB := ⟨row_one B7, row_one B8, Nat.le_refl _, Nat.le_refl _⟩
  have hL : IntsAt W (some ⟨w.heap.size + 1 + 1, 0, none⟩) [5] := row_one B10
  have HC := Lib.hid (Code_any _ exB 0 [5] _ 1 W hBk exB_ok (by decide) hL (by decide) (fun x hx => by simp at hx; subst hx; decide))
  clear hBk hL B7 B8 B10
  refine HC.out.mono ?_
  rintro e w1 ⟨ca, cc, rfl, hb1, hO⟩
  rw [exB_code] at hO ⊢
  have hr := hO.rowAt.2.2
  have HCr := Lib.hid (show IntsAt w1 ca [0, 7, 1] from hr)
  replace hW := over hW hb1
  clear hr hO hb1 HC
  go_wp2_with fail
  refine named6 (p := fun W => Calls _ _ _ W _) ?_
  intro w2 hb2 B15 B18 B20 B22 B23 B24
  have hP : PostAt w2 ⟨some ⟨w1.heap.size, 0, none⟩, 1, some ⟨w1.heap.size + 1 + 1, 0, none⟩, 1, [⟨some ⟨w1.heap.size + 1, 0, none⟩, 1, [⟨none, 0, ⟨1, 1, []⟩⟩], false⟩]⟩ exP := by
    refine ⟨row_one B15, row_one B20, fun x hx => ?_, rfl⟩
    simp at hx; subst hx
    refine ⟨row_one B18, fun l hl => ?_⟩
    simp at hl; subst hl
    exact .inl rfl
  have hT : TruthAt w2 (some ⟨w1.heap.size + 1 + 1 + 1 + 1 + 1, 0, none⟩) [⟨some ⟨w1.heap.size + 1 + 1 + 1 + 1, 0, none⟩, 1, [⟨some ⟨w1.heap.size + 1 + 1 + 1, 0, none⟩, 1, [1]⟩]⟩] [[[1]]] := by
    refine ⟨row_one B24, fun x hx => ?_, rfl⟩
    simp at hx; subst hx
    refine ⟨row_one B23, fun l hl => ?_⟩
    simp at hl; subst hl
    exact row_one B22
  have HPl := Lib.hid (Play_any _ exP _ 1 _ _ w2 hP exP_ok hT exP_shaped)
  replace HCr := Lib.hid (HCr.out.later hb2)
  replace hW := over hW hb2
  clear hP hT B15 B18 B20 B22 B23 B24 hb2
  refine HPl.out.mono ?_
  rintro e w3 ⟨ja, jc, rfl, hb3, hJ⟩
  rw [exP_journal] at hJ ⊢
  replace HCr := Lib.hid (HCr.out.later hb3)
  replace hW := over hW hb3
  obtain ⟨cb, co, rfl, hC⟩ := RowAt.at (k := 0) HCr.out (by simp)
  obtain ⟨jb, jo, rfl, hD⟩ := RowAt.at (k := 0) hJ (by simp)
  have e0 := cells_one (f := fun n : Int => Value.int .i64 n) (x := 0) hC (k := 0) rfl
  have e1 := cells_one (f := fun n : Int => Value.int .i64 n) (x := 7) hC (k := 1) rfl
  have e2 := cells_one (f := fun n : Int => Value.int .i64 n) (x := 1) hC (k := 2) rfl
  have d0 : w3.cell? ⟨jb, jo, none⟩ = some (.int .i64 0) := by simpa using hD 0 _ rfl 0 _ rfl
  have d1 : w3.cell? ⟨jb, jo + 1, none⟩ = some (.int .i64 4) := by simpa using hD 0 _ rfl 1 _ rfl
  have d2 : w3.cell? ⟨jb, jo + 2, none⟩ = some (.bool false) := by simpa using hD 0 _ rfl 2 _ rfl
  rw [Nat.add_zero] at e0
  have z1 := block_lt_of_cell e0
  have z2 := block_lt_of_cell d0
  have hq : ∀ w, (binOp .eql 56 (.agg #[.int .i64 0, .int .i64 4, .bool false]) (.agg #[.int .i64 0, .int .i64 4, .bool false])).run Try.prog w = .ok (.bool true) w := fun w => by kernel_rfl
  clear hC hD hJ HPl
  go_wp2_with fail
  go_ret
  exact ⟨rfl, hW⟩
end Go.Proofs.Ytbphpeoddifkfaa
