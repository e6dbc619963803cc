/- What the statements share: lands that are ready, answers at stations that are there, numbers of few bits. -/
import Derived.Test.YtmfnkmmbihmjnaaAwake2
import Derived.Test.YtmfnkmmbihmjnaaW12
import Derived.Test.YtmfnkmmbihmjnaaW15
open Go.RowKit
namespace Go.Proofs.Ytmfnkmmbihmjnaa
open Go.Hill

theorem askd_ok {n m h i j : Nat} {k t : Int} (hi : i < n) (hj : j < n) (hk : 0 ≤ k ∧ k < m) (ht : 0 ≤ t ∧ t < h) (hne : i ≠ j) : askd n m h (i : Int) (j : Int) k t = 0 := by
  unfold askd
  rw [if_pos (by simp [inB]; omega), if_neg (by omega)]

/-- A land that a statement can use. -/
structure Ready (L : Land) : Prop where
  chk : L.chk = 0
  st1 : 1 < L.st.length
  st6 : L.st.length ≤ 6
  rd6 : L.rd.length ≤ 6
  cs1 : 0 < L.cs.length
  cs4 : L.cs.length ≤ 4
  sn1 : 0 < L.sn.length
  sn12 : L.sn.length ≤ 12
  cd4 : ∀ c ∈ L.cs, c.length ≤ 4
theorem chk_lens {L : Land} (h : L.chk = 0) : L.st.length ≤ 6 ∧ L.rd.length ≤ 6 ∧ 0 < L.cs.length ∧ L.cs.length ≤ 4 ∧ 0 < L.sn.length ∧ L.sn.length ≤ 12 ∧ ∀ c ∈ L.cs, c.length ≤ 4 := by
  unfold Land.chk at h
  split at h
  · omega
  · rename_i h1
    split at h
    · omega
    · rename_i h2
      unfold Land.lim at h1
      unfold Land.arg at h2
      simp only [Bool.or_eq_true, not_or, decide_eq_true_eq, Bool.not_eq_true', Bool.not_eq_false, List.all_eq_true, beq_iff_eq] at h1 h2
      obtain ⟨⟨⟨⟨a1, a2⟩, a3⟩, a4⟩, a5⟩ := h1
      obtain ⟨⟨⟨⟨⟨⟨⟨b1, b2⟩, b3⟩, _⟩, _⟩, _⟩, _⟩, _⟩ := h2
      exact ⟨by omega, by omega, by omega, by omega, by omega, by omega, fun c hc => by simpa using a5 c hc⟩
theorem ready_of {L : Land} (h : readyB L = true) : Ready L := by
  unfold readyB at h
  simp only [Bool.and_eq_true, beq_iff_eq, decide_eq_true_eq] at h
  obtain ⟨⟨_, hc⟩, h1⟩ := h
  obtain ⟨a1, a2, a3, a4, a5, a6, a7⟩ := chk_lens hc
  exact ⟨hc, h1, a1, a2, a3, a4, a5, a6, a7⟩

section
variable {L : Land} {i j k t : Nat}
theorem alwE_ok (R : Ready L) (hi : i < L.st.length) (hj : j < L.st.length) (hne : i ≠ j) : Land.alwE L i j = (L.alw i j, 0) := by
  unfold Land.alwE Land.ask2
  rw [if_pos R.chk, if_pos (askd_ok hi hj (by have := R.cs1; omega) (by have := R.sn1; omega) hne)]
  simp only [Int.toNat_natCast]
theorem hrsE_ok (R : Ready L) (hi : i < L.st.length) (hj : j < L.st.length) (hk : k < L.cs.length) (hne : i ≠ j) : Land.hrsE L i j k = (L.hrs i j k, 0) := by
  unfold Land.hrsE Land.ask2
  rw [if_pos R.chk, if_pos (askd_ok hi hj (by omega) (by have := R.sn1; omega) hne)]
  simp only [Int.toNat_natCast]
theorem stickE_ok (R : Ready L) (hi : i < L.st.length) (hj : j < L.st.length) (ht : t < L.sn.length) (hne : i ≠ j) : Land.stickE L i j t = if L.stick i j t = L.cs.length then (0, 7) else (((L.stick i j t : Nat) : Int), 0) := by
  unfold Land.stickE Land.ask2
  rw [if_pos R.chk, if_pos (askd_ok hi hj (by have := R.cs1; omega) (by omega) hne)]
  simp only [Int.toNat_natCast]
theorem whyE_ok (R : Ready L) (hi : i < L.st.length) (hj : j < L.st.length) (hk : k < L.cs.length) (ht : t < L.sn.length) (hne : i ≠ j) : Land.whyE L i j k t = ((L.why i j k t).1, (L.why i j k t).2, 0) := by
  unfold Land.whyE Land.ask2
  rw [if_pos R.chk, if_pos (askd_ok hi hj (by omega) (by omega) hne)]
  simp only [Int.toNat_natCast]
theorem mirE_ok (R : Ready L) (hi : i < L.st.length) (hj : j < L.st.length) (ht : t < L.sn.length) (hne : i ≠ j) : Land.mirE L i j t = if L.up t = false then (0, 7) else (L.need i j t, 0) := by
  unfold Land.mirE Land.ask2
  rw [if_pos R.chk, if_pos (askd_ok hi hj (by have := R.cs1; omega) (by omega) hne)]
  simp only [Int.toNat_natCast]
theorem riseE_ok (R : Ready L) (hi : i < L.st.length) (hj : j < L.st.length) (hne : i ≠ j) : Land.riseE L i j = if L.rise i j < 0 then (0, 9) else (L.rise i j, 0) := by
  unfold Land.riseE Land.ask2
  rw [if_pos R.chk, if_pos (askd_ok hi hj (by have := R.cs1; omega) (by have := R.sn1; omega) hne)]
  simp only [Int.toNat_natCast]
theorem rchE_ok (R : Ready L) (hi : i < L.st.length) (hk : k < L.cs.length) (ht : t < L.sn.length) : Land.rchE L i k t = (L.rch i k t, 0) := by
  unfold Land.rchE Land.ask2 askd
  rw [if_pos R.chk, if_neg]
  · simp only [Int.toNat_natCast]
  · rw [if_pos (by simp [inB]; omega)]; simp
end

theorem withinB_one (x : Int) (m : List Int) : withinB [x] m = m.contains x := by simp [withinB]
theorem ints_one {W : World} {b : Nat} {x : Int} (hB : Box W b #[.int .i64 x] 3) : IntsAt W (some ⟨b, 0, none⟩) [x] := row_box hB rfl (by simp)
/-- A station can in each case just where it never sticks. -/
theorem stick_all {L : Land} {i j t : Nat} : L.stick i j t = L.cs.length ↔ ∀ c, c < L.cs.length → L.can i j c t = true := by
  unfold Land.stick
  rcases firstNot_cases (fun c => L.can i j c t) L.cs.length with ⟨h1, h2, _⟩ | ⟨h1, h2⟩
  · constructor
    · intro h; omega
    · intro h; have := h _ h1; rw [show L.can i j _ t = true from this] at h2; cases h2
  · exact ⟨fun _ => h2, fun _ => h1⟩
theorem stick_cases (L : Land) (i j t : Nat) : (L.stick i j t < L.cs.length ∧ L.can i j (L.stick i j t) t = false ∧ ∀ c, c < L.stick i j t → L.can i j c t = true) ∨ (L.stick i j t = L.cs.length ∧ ∀ c, c < L.cs.length → L.can i j c t = true) :=
  firstNot_cases (fun c => L.can i j c t) L.cs.length

theorem u8_nat {y : Int} (h : (Lit.int .u8 y).wf = true) : ∃ x : Nat, y = x ∧ x < 256 := by
  have : 0 ≤ y ∧ y < 256 := by
    unfold Lit.wf at h
    simp only [Bool.and_eq_true, decide_eq_true_eq] at h
    rw [show IntKind.u8.min = 0 from rfl, show IntKind.u8.max = 255 from rfl] at h
    omega
  exact ⟨y.toNat, by omega, by omega⟩
theorem u16_nat {y : Int} (h : (Lit.int .u16 y).wf = true) : ∃ x : Nat, y = x ∧ x < 65536 := by
  have : 0 ≤ y ∧ y < 65536 := by
    unfold Lit.wf at h
    simp only [Bool.and_eq_true, decide_eq_true_eq] at h
    rw [show IntKind.u16.min = 0 from rfl, show IntKind.u16.max = 65535 from rfl] at h
    omega
  exact ⟨y.toNat, by omega, by omega⟩
end Go.Proofs.Ytmfnkmmbihmjnaa
