/- The statement on copies over a land: a number of hours as three numbers; the post that is made of them. -/
import Derived.Test.YtingfmdbihbamaaGreatCI7
open Go.RowKit Go.Shelf
namespace Go.Proofs.YtingfmdbihbamaaGreat
namespace Cp
open Go.Once

theorem row_box {W : World} {b size : Nat} {cs : Array Value} {T : TypeId} {xs : List (List Value)} (hB : Box W b cs T) (he : cs.toList = xs.flatten) (hl : ∀ x ∈ xs, x.length = size) : RowAt W (some ⟨b, 0, none⟩) size xs :=
  .inr ⟨b, 0, rfl, fun i x hx j v hv => by
    have h := flat_at xs i x hl hx j v hv
    rw [← he] at h
    rw [hB.cell, Nat.zero_add]
    simpa using h⟩
def divI (n : Int) : List Int := [min 6 n, min 6 (n - min 6 n), n - min 6 n - min 6 (n - min 6 n)]
def RetInts (l : List Int) (w : World) (e : Ending) (w' : World) : Prop := ∃ a, e = .returned (.slice a l.length l.length) ∧ Below w.heap.size w w' ∧ IntsAt w' a l
theorem divided_any (n : Int) (w : World) (h0 : 0 ≤ n) (h1 : n ≤ 100) : Calls Tryz.prog 10 #[.int .i64 n] w (RetInts (divI n) w) := by
  have h2 : (if n < 6 then n else 6) = min 6 n := by split <;> omega
  have h3 : (if n - min 6 n < 6 then n - min 6 n else 6) = min 6 (n - min 6 n) := by split <;> omega
  go_enter Tryz.func10, Tryz.ntmps10
  go_wp2_with fail
  go_ret
  refine named1 (p := RetInts (divI n) w _) ?_
  intro W hW B
  exact ⟨_, rfl, hW, row_box B rfl (by simp [divI])⟩

/-! ### The post -/
def cpRt (m n : Int) : Rt := ⟨[⟨min 6 m, min 6 n, []⟩, ⟨min 6 (m - min 6 m), min 6 (n - min 6 n), []⟩, ⟨m - min 6 m - min 6 (m - min 6 m), n - min 6 n - min 6 (n - min 6 n), []⟩], false⟩
def cpPs (s pat m n : Int) : Ps := ⟨[s], [cpRt m n], pat⟩
section
variable {s pat m n : Int}
theorem cp_rt (h0 : 0 ≤ m) (h1 : m ≤ n) (h2 : n ≤ 12) : (cpRt m n).Ok := by
  refine ⟨by simp [cpRt], by simp [cpRt], fun l hl => ?_⟩
  simp only [cpRt, List.mem_cons, List.not_mem_nil, or_false] at hl
  rcases hl with rfl | rfl | rfl <;> exact ⟨by simp only; omega, by simp, by simp⟩
theorem cp_ok (h0 : 0 ≤ m) (h1 : m ≤ n) (h2 : n ≤ 12) (hs : 0 ≤ s ∧ s ≤ 30) (hp : 0 ≤ pat ∧ pat ≤ 30) : (cpPs s pat m n).Ok := by
  refine ⟨by simp [cpPs], by simp [cpPs], by simp [cpPs], by simp [cpPs], hp, ?_, ?_, ?_⟩
  · intro x hx; simp [cpPs] at hx; subst hx; exact hs
  · intro i a b ha hb
    have := (List.getElem?_eq_some_iff.1 hb).1
    simp [cpPs] at this
  · intro r hr
    simp only [cpPs, List.mem_singleton] at hr
    subst hr; exact cp_rt h0 h1 h2
theorem cp_one : One (cpPs s pat m n) (cpRt m n) s := ⟨rfl, rfl, rfl, fun l hl => by
  simp only [cpRt, List.mem_cons, List.not_mem_nil, or_false] at hl
  rcases hl with rfl | rfl | rfl <;> rfl⟩
theorem cp_lo : loE (cpRt m n) s = s + m := by
  show s + (0 + min 6 m + min 6 (m - min 6 m) + (m - min 6 m - min 6 (m - min 6 m))) = s + m
  omega
theorem cp_hi : hiE (cpRt m n) s = s + n := by
  show s + (0 + min 6 n + min 6 (n - min 6 n) + (n - min 6 n - min 6 (n - min 6 n))) = s + n
  omega
theorem cp_takes {h : Int} (h0 : 0 ≤ m) (h1 : m ≤ h) (h2 : h ≤ n) : OkTakes (cpRt m n) (divI h) := by
  refine .inr ⟨rfl, fun i lg x hl hx => ?_⟩
  rcases i with _ | _ | _ | i
  · simp [cpRt] at hl; simp [divI] at hx; subst hl hx; simp only; omega
  · simp [cpRt] at hl; simp [divI] at hx; subst hl hx; simp only; omega
  · simp [cpRt] at hl; simp [divI] at hx; subst hl hx; simp only; omega
  · simp [cpRt] at hl
theorem cp_shaped {h : Int} (h0 : 0 ≤ m) (h1 : m ≤ h) (h2 : h ≤ n) : Shaped (cpPs s pat m n) [[divI h]] := by
  refine ⟨rfl, fun l hl => ?_⟩
  simp only [List.mem_singleton] at hl
  subst hl
  refine ⟨rfl, fun k r xs hr hx => ?_⟩
  rcases k with _ | k
  · simp [cpPs] at hr; simp at hx; subst hr hx; exact cp_takes h0 h1 h2
  · simp [cpPs] at hr
theorem cp_comes (h : Int) : comesR (cpRt m n) s (divI h) = s + h := by
  unfold comesR
  rw [if_neg (by simp [divI])]
  show hourAt (cpRt m n).legs s (divI h) 3 = _
  rw [hourAt_succ (l := ⟨m - min 6 m - min 6 (m - min 6 m), n - min 6 n - min 6 (n - min 6 n), []⟩) (n := h - min 6 h - min 6 (h - min 6 h)) rfl rfl, hourAt_succ (l := ⟨min 6 (m - min 6 m), min 6 (n - min 6 n), []⟩) (n := min 6 (h - min 6 h)) rfl rfl, hourAt_succ (l := ⟨min 6 m, min 6 n, []⟩) (n := min 6 h) rfl rfl]
  simp only [awk_none, hourAt]
  omega
theorem cp_journal {h : Int} (h0 : s + h ≤ 101) (h1 : 0 ≤ s) (h2 : 0 ≤ h) (h3 : 0 ≤ pat) : journal (cpPs s pat m n) [[divI h]] = [⟨0, min (s + h) (s + pat), decide (s + pat < s + h)⟩] := by
  have hh : hourI (cpPs s pat m n) [[divI h]] 0 = s + h := by
    show min 101 (comesR (cpRt m n) s (divI h)) = _
    rw [cp_comes]; omega
  have hd : deadI (cpPs s pat m n) 0 = s + pat := rfl
  show [entI (cpPs s pat m n) [[divI h]] 0] = _
  unfold entI
  rw [hh, hd]
  show [(⟨((0 : Nat) : Int), max 0 (min (hourI (cpPs s pat m n) [[divI h]] 0) (deadI (cpPs s pat m n) 0)), _⟩ : Ent)] = _
  rw [hh, hd, show max 0 (min (s + h) (s + pat)) = min (s + h) (s + pat) by omega]
  rfl
end
end Cp
end Go.Proofs.YtingfmdbihbamaaGreat
