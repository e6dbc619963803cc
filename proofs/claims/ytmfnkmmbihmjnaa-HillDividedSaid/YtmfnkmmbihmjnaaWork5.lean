/- A land at work, the walks: the test of Always. -/
import Derived.Test.YtmfnkmmbihmjnaaWork4
open Go.RowKit
namespace Go.Proofs.Ytmfnkmmbihmjnaa
open Go.Hill

set_option maxRecDepth 100000 in
set_option maxHeartbeats 1000000 in
theorem always1_any (bw bm b8 b10 b3 : Nat) (q : LV) (L : Land) (av : Nat → Prop) (i j t : Nat) (w : World) (hw : WorkAt w bw bm q L av) (hav : ∀ b, av b → b < w.heap.size) (hc : L.chk = 0) (hi : i < L.st.length) (hj : j < L.st.length) (ht : t < L.sn.length)
    (B8 : Box w b8 #[.pointer (some ⟨bw, 0, none⟩)] 90) (B10 : Box w b10 #[.int .i64 i, .int .i64 j] 95) (B3 : Box w b3 #[.slice q.a1 L.st.length q.c1, .slice q.a2 L.rd.length q.c2, .slice q.a3 L.cs.length q.c3, .slice q.a4 L.sn.length q.c4] 39) :
    Calls Try.prog 62 #[.int .i64 t, .pointer (some ⟨b8, 0, none⟩), .pointer (some ⟨b10, 0, none⟩), .pointer (some ⟨b3, 0, none⟩)] w (RetW (.bool (L.stick i j t == L.cs.length)) bw bm q L av w) := by
  have HC : Hid (∀ W, Below w.heap.size w W → Calls Try.prog 63 #[.pointer (some ⟨bw, 0, none⟩), pairV i j, .int .i64 t] W (RetW (.int .i64 (L.stick i j t)) bw bm q L av W)) := fun W hW =>
    stick_any bw bm q L av i j t W (hw.later hW) (fun b hb => Nat.lt_of_lt_of_le (hav b hb) hW.size) hc hi hj ht
  have HW := Lib.hid hw
  have HB3 := Lib.hid B3
  have l3 := (small_of hc).l3
  have e8 : w.cell? ⟨b8, 0, none⟩ = some (.pointer (some ⟨bw, 0, none⟩)) := B8.cell 0
  have e10 : w.cell? ⟨b10, 0, none⟩ = some (.int .i64 i) := B10.cell 0
  have e11 : w.cell? ⟨b10, 1, none⟩ = some (.int .i64 j) := B10.cell 1
  have e3 : w.cell? ⟨b3, 2, none⟩ = some (.slice q.a3 L.cs.length q.c3) := B3.cell 2
  have HKeep : Hid (∀ w' : World, w.grownBy w' (some bm) → w'.cell? ⟨b8, 0, none⟩ = some (.pointer (some ⟨bw, 0, none⟩)) ∧ w'.cell? ⟨b10, 0, none⟩ = some (.int .i64 i) ∧ w'.cell? ⟨b10, 1, none⟩ = some (.int .i64 j) ∧ w'.cell? ⟨b3, 2, none⟩ = some (.slice q.a3 L.cs.length q.c3)) := fun w' hg =>
    ⟨(hw.keep B8 hg).cell 0, (hw.keep B10 hg).cell 0, (hw.keep B10 hg).cell 1, (hw.keep B3 hg).cell 2⟩
  obtain ⟨sv, hsv⟩ : ∃ sv, sv = L.stick i j t := ⟨_, rfl⟩
  rw [← hsv] at HC ⊢
  clear hw hav hc B8 B10 B3 hsv
  go_enter Try.func62, Try.ntmps62
  go_wp2_with fail
  go_region_held3 (fun w' => w'.cell? ⟨b8, 0, none⟩ = some (.pointer (some ⟨bw, 0, none⟩)) ∧ w'.cell? ⟨b10, 0, none⟩ = some (.int .i64 i) ∧ w'.cell? ⟨b10, 1, none⟩ = some (.int .i64 j) ∧ w'.cell? ⟨b3, 2, none⟩ = some (.slice q.a3 L.cs.length q.c3))
    (first | go_keep | exact HKeep.out _ HG.out | exact HKeep.out _ (grown_drew HG.out))
    ((go_at_call 63; refine (HC.out _ ?_).mono ?_; (exact (Below.refl _ _).drew); rintro e w1 ⟨rfl, hg, hw1⟩; have HG := Lib.hid (grown_trans (grown_drew (Below.grown (Below.refl w.heap.size w) (some bm))) hg); have HW1 := Lib.hid hw1; clear hg hw1))
  go_wp2_with fail
  go_ret
  exact ⟨ret_bool (by rw [Bool.eq_iff_iff]; simp; omega), HG.out, HW1.out⟩
end Go.Proofs.Ytmfnkmmbihmjnaa
