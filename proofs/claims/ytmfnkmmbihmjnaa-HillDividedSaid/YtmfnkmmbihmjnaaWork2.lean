/- A land at work, the walks: made; whether a station can flash; the first case in which it cannot. -/
import Derived.Test.YtmfnkmmbihmjnaaWhy1
import Derived.Test.YtmfnkmmbihmjnaaW10
import Derived.Carry
open Go.RowKit
namespace Go.Proofs.Ytmfnkmmbihmjnaa
open Go.Hill

theorem small_of {L : Land} (h : L.chk = 0) : Small L := by
  unfold Land.chk at h
  split at h
  · omega
  · rename_i h1
    unfold Land.lim at h1
    simp only [Bool.or_eq_true, not_or, decide_eq_true_eq, Bool.not_eq_true', Bool.not_eq_false, List.all_eq_true] at h1
    obtain ⟨⟨⟨⟨a1, a2⟩, a3⟩, a4⟩, a5⟩ := h1
    exact ⟨by omega, by omega, by omega, by omega, fun c hc => by have := a5 c hc; omega⟩
theorem some_of {α : Type} {l : List α} {i : Nat} (h : i < l.length) : ∃ x, l[i]? = some x := ⟨l[i], by simp [h]⟩

theorem why_w (bw bm : Nat) (q : LV) (L : Land) (av : Nat → Prop) (i j k t : Nat) (w : World) (hw : WorkAt w bw bm q L av) (hav : ∀ b, av b → b < w.heap.size) (hc : L.chk = 0) (hi : i < L.st.length) (hj : j < L.st.length) (hk : k < L.cs.length) (ht : t < L.sn.length) (r : Int × Int) (hr : L.why i j k t = r) :
    Calls Try.prog 61 #[.pointer (some ⟨bw, 0, none⟩), pairV i j, .int .i64 k, .int .i64 t] w (RetW (.tuple #[.int .u8 r.1, .int .i64 r.2]) bw bm q L av w) := by
  obtain ⟨a, ha⟩ := some_of hi
  obtain ⟨b, hb⟩ := some_of hj
  obtain ⟨cs, hcs⟩ := some_of hk
  obtain ⟨s, hs⟩ := some_of ht
  have hm := small_of hc
  exact why_any bw bm q L av i j k t a b s cs w hw hav (fits hc) hm.l1 hm.l2 hm.l3 hm.l4 (hm.l5 cs (List.mem_of_getElem? hcs)) ha hb hcs hs r hr

theorem why_bd (L : Land) (i j k t : Nat) : 0 ≤ (L.why i j k t).1 ∧ (L.why i j k t).1 ≤ 4 := by
  unfold Land.why
  split
  · exact ⟨by decide, by decide⟩
  · split
    · exact ⟨by decide, by decide⟩
    · split
      · simp
      · split <;> simp

theorem can_any (bw bm : Nat) (q : LV) (L : Land) (av : Nat → Prop) (i j k t : Nat) (w : World) (hw : WorkAt w bw bm q L av) (hav : ∀ b, av b → b < w.heap.size) (hc : L.chk = 0) (hi : i < L.st.length) (hj : j < L.st.length) (hk : k < L.cs.length) (ht : t < L.sn.length) :
    Calls Try.prog 47 #[.pointer (some ⟨bw, 0, none⟩), pairV i j, .int .i64 k, .int .i64 t] w (RetW (.bool (L.can i j k t)) bw bm q L av w) := by
  have HW := Lib.hid hw
  have HAv := Lib.hid hav
  have HC := Lib.hid hc
  obtain ⟨r, hr⟩ : ∃ r, L.why i j k t = r := ⟨_, rfl⟩
  have hbd := why_bd L i j k t
  rw [hr] at hbd
  have HR := Lib.hid hr
  obtain ⟨v, hv⟩ : ∃ v, v = L.can i j k t := ⟨_, rfl⟩
  rw [← hv]
  have HV : Hid (v = (i != j && r.1 == 0)) := by rw [hv, Land.can, hr]; rfl
  clear hw hav hc hr hv
  obtain ⟨r1, r2⟩ := r
  simp only at hbd
  go_enter Try.func47, Try.ntmps47
  go_wp2_with fail
  refine named1 (p := fun W => Calls _ _ _ W _) ?_
  intro W hW B5
  refine (why_w bw bm q L av i j k t W (HW.out.later hW) (fun b hb => Nat.lt_of_lt_of_le (HAv.out b hb) hW.size) HC.out hi hj hk ht (r1, r2) HR.out).mono ?_
  rintro e w1 ⟨rfl, hg, hw1⟩
  have C5 := (HW.out.later hW).keep B5 hg
  have HG := Lib.hid (grown_trans (Below.grown hW (some bm)) hg)
  have HW1 := Lib.hid hw1
  clear hg hw1 B5 hW
  have c5 := C5.cell
  have t5 := C5.lt
  by_cases hij : i = j
  · have hb : ((i : Int) != (j : Int)) = false := by simp [hij]
    go_wp2_with fail
    go_ret
    exact ⟨ret_bool (by rw [HV.out, hij]; simp), HG.out, HW1.out⟩
  · have hb : ((i : Int) != (j : Int)) = true := by simp; omega
    by_cases h0 : r1 = 0
    · subst h0
      go_wp2_with fail
      go_ret
      exact ⟨ret_bool (by rw [HV.out]; simp; omega), HG.out, HW1.out⟩
    · have hb0 : (r1 == 0) = false := by simpa using h0
      go_wp2_with fail
      go_ret
      exact ⟨ret_bool (by rw [HV.out]; simp [h0]), HG.out, HW1.out⟩

/-- It returns a land at work. -/
def RetWork (q : LV) (L : Land) (av : Nat → Prop) (w : World) (e : Ending) (w' : World) : Prop :=
  ∃ bw bm, e = .returned (.tuple #[.pointer (some ⟨bw, 0, none⟩), .int .i64 0]) ∧ Below w.heap.size w w' ∧ WorkAt w' bw bm q L av ∧ w.heap.size ≤ bw ∧ w.heap.size ≤ bm
abbrev landV (q : LV) (L : Land) : Value := .agg #[.slice q.a1 L.st.length q.c1, .slice q.a2 L.rd.length q.c2, .slice q.a3 L.cs.length q.c3, .slice q.a4 L.sn.length q.c4]

theorem work_no (q : LV) (L : Land) (w : World) (hL : LandAt w q L) (hs : Small L) (hc : L.chk ≠ 0) : Calls Try.prog 45 #[landV q L] w (Ret (.tuple #[.pointer none, .int .i64 L.chk]) w) := by
  obtain ⟨c, hcv⟩ : ∃ c, c = L.chk := ⟨_, rfl⟩
  have HCall : Hid (∀ W, Below w.heap.size w W → Calls Try.prog 38 #[landV q L] W (Ret (.int .i64 c) W)) := fun W hW => by rw [hcv]; exact check_any q L W (hL.later hW) hs.l1 hs.l2 hs.l3 hs.l4 hs.l5
  rw [← hcv] at hc ⊢
  have hcb : (c != 0) = true := by simpa using hc
  clear hcv hL
  go_enter Try.func45, Try.ntmps45
  go_wp2_with fail
  refine named1 (p := fun W => Calls _ _ _ W _) ?_
  intro W hW B1
  refine (HCall.out W hW).mono ?_
  rintro e w1 ⟨rfl, hb1⟩
  have hb := over hW hb1
  clear hW hb1 B1
  go_wp2_with fail
  go_ret2
  exact ⟨rfl, hb⟩

theorem work_yes (q : LV) (L : Land) (av : Nat → Prop) (w : World) (hL : LandAt w q L) (hs : Small L) (hc : L.chk = 0) : Calls Try.prog 45 #[landV q L] w (RetWork q L av w) := by
  have HCall : Hid (∀ W, Below w.heap.size w W → Calls Try.prog 38 #[landV q L] W (Ret (.int .i64 0) W)) := fun W hW => by rw [← hc]; exact check_any q L W (hL.later hW) hs.l1 hs.l2 hs.l3 hs.l4 hs.l5
  have HL := Lib.hid hL
  clear hc hL
  go_enter Try.func45, Try.ntmps45
  go_wp2_with fail
  refine named1 (p := fun W => Calls _ _ _ W _) ?_
  intro W hW B1
  refine (HCall.out W hW).mono ?_
  rintro e w1 ⟨rfl, hb1⟩
  have hb := over hW hb1
  (try clear c1 t1); replace B1 := B1.later hb1; have c1 := B1.cell; have t1 := B1.lt
  clear hW hb1
  have hmm := @run_makeMap Try.prog
  go_wp2_with fail
  go_ret2
  have h1 : Below w1.heap.size w1 ((w1.alloc (.map #[] 0)).alloc (.cells #[.slice q.a1 L.st.length q.c1, .slice q.a2 L.rd.length q.c2, .slice q.a3 L.cs.length q.c3, .slice q.a4 L.sn.length q.c4, .map (some w1.heap.size)] 127)) := al (al (Below.refl _ _) _) _
  refine ⟨w1.heap.size + 1, w1.heap.size, rfl, over hb h1, ⟨Box.newAt _ _ (by simp), (HL.out.later hb).later h1, (Memo.new w1 L av).later (al (Below.refl _ _) _)⟩, by have := hb.size; omega, hb.size⟩
end Go.Proofs.Ytmfnkmmbihmjnaa
