/- The statement on copies over a land: its example. -/
import Derived.Test.YtingfmdbihbamaaGreatCL1
import Derived.Test.YtingfmdbihbamaaGreatRB
import Derived.Test.YtingfmdbihbamaaGreatWD
open Go.RowKit Go.Shelf
namespace Go.Proofs.YtingfmdbihbamaaGreat
open Go.Hill

/-- The example's land. -/
def exL : Land := ⟨[⟨0, 0, 0, 1⟩, ⟨1, 0, 0, 1⟩], [], [[]], [⟨1, 0, 1⟩]⟩
theorem ex_sure : Land.sureE exL 0 1 0 = (1, 0, 0) := by decide +kernel
theorem ex_small : Small exL := ⟨by decide, by decide, by decide, by decide, by decide⟩
theorem mk1 (w : World) : (Instr.makeSlice 36 (.int .i64 1) (.int .i64 1)).run Tryz.prog w = .ok (.slice (some ⟨w.heap.size, 0, none⟩) 1 1) (w.alloc (.cells #[.slice none 0 0] 101)) := by kernel_rfl
theorem ex_ok : (⟨[0], [⟨[⟨1, 1, []⟩], false⟩], 0⟩ : Once.Ps).Ok := by
  refine ⟨by decide, by decide, by decide, by decide, by decide, by simp, ?_, ?_⟩
  · intro i a b ha hb
    have := (List.getElem?_eq_some_iff.1 hb).1
    simp at this
  · intro r hr
    simp only [List.mem_singleton] at hr
    subst hr
    refine ⟨by decide, by decide, fun l hl => ?_⟩
    simp only [List.mem_singleton] at hl
    subst hl
    exact ⟨by decide, by decide, by simp⟩
theorem ex_one : Cp.One (⟨[0], [⟨[⟨1, 1, []⟩], false⟩], 0⟩ : Once.Ps) ⟨[⟨1, 1, []⟩], false⟩ 0 := ⟨rfl, rfl, rfl, by simp⟩
set_option maxRecDepth 100000 in
set_option maxHeartbeats 2000000 in
theorem copied_any (w : World) : Calls Tryz.prog 6 #[] w (Ret (.bool true) w) := by
  have hmk := mk1
  go_enter Tryz.func6, Tryz.ntmps6
  go_wp2_with fail
  refine named4 (p := fun W => Calls _ _ _ W _) ?_
  intro W hW B1 B2 B3 B4
  have hL : LandAt W ⟨some ⟨w.heap.size, 0, none⟩, 2, none, 0, some ⟨w.heap.size + 1, 0, none⟩, 1, some ⟨w.heap.size + 1 + 1, 0, none⟩, 1⟩ exL :=
    ⟨Cp.row_box B1 rfl (by simp [exL, Stn.vs]), .inl rfl, ⟨[⟨none, 0, []⟩], rfl, Cp.row_box B2 rfl (by simp), fun x hx => by simp at hx; subst hx; exact .inl rfl⟩, Cp.row_box B3 rfl (by simp [exL, Sn.vs]), Nat.le_refl 2, Nat.le_refl 0, Nat.le_refl 1, Nat.le_refl 1⟩
  have hS := Sure_any _ exL 0 1 0 W hL ex_small
  rw [ex_sure] at hS
  have HS := Lib.hid hS
  clear hS hL B1 B2 B3 B4 hmk
  refine HS.out.mono ?_
  rintro e w1 ⟨rfl, hb1⟩
  replace hW := over hW hb1
  clear hb1 HS
  go_wp2_with fail
  refine named3 (p := fun W => Calls _ _ _ W _) ?_
  intro W2 hW2 B21 B24 B26
  have hP : Cp.PostAt W2 ⟨some ⟨w1.heap.size, 0, none⟩, 1, some ⟨w1.heap.size + 1 + 1, 0, none⟩, 1, [⟨some ⟨w1.heap.size + 1, 0, none⟩, 1, [⟨none, 0, ⟨1, 1, []⟩⟩], false⟩]⟩ ⟨[0], [⟨[⟨1, 1, []⟩], false⟩], 0⟩ := by
    refine ⟨Cp.row_box B21 rfl (by simp), Cp.row_box B26 rfl (by simp [Cp.RtV.vs]), fun x hx => ?_, rfl⟩
    simp only [List.mem_singleton] at hx
    subst hx
    refine ⟨Cp.row_box B24 rfl (by simp [Cp.LgV.vs]), fun l hl => ?_⟩
    simp only [List.mem_singleton] at hl
    subst hl
    exact .inl rfl
  have hLe := Cp.Least1_any _ _ _ 0 W2 hP ex_ok ex_one
  rw [show Cp.hiE (⟨[⟨1, 1, []⟩], false⟩ : Once.Rt) 0 - 0 = 1 from rfl] at hLe
  have HLe := Lib.hid hLe
  replace hW := over hW hW2
  clear hLe hP B21 B24 B26 hW2
  refine HLe.out.mono ?_
  rintro e w3 ⟨rfl, hb3⟩
  replace hW := over hW hb3
  clear hb3 HLe
  go_wp2_with fail
  go_ret
  exact ⟨rfl, hW⟩
end Go.Proofs.YtingfmdbihbamaaGreat
