/- Layer 5, the walks: sets of hours, yielded one by one. -/
import Derived.Test.YtingfmdbihbamaaGreatOP12
import Derived.Test.YtingfmdbihbamaaGreatFatIn
import Derived.RangeFuncNested
import Derived.RangeFuncBound
import Derived.RangeFuncCalls
import Derived.RangeFuncLeaves
import Derived.Shelf.Abstract
import Derived.Shelf.RegionOpen
import Derived.OwnWalkIn
import Derived.TacticsInMore
import Derived.LoopNIn
import Derived.LoopIn
open Go.RowKit Go.Shelf
namespace Go.Proofs.YtingfmdbihbamaaGreat
namespace Cp
open Go.Once
attribute [local go_sem] Oper.semAt_some

/-- The numbers below n that pass. -/
def selN (p : Nat → Bool) (n : Nat) : List Nat := (List.range n).filter p
theorem selN_yes {p : Nat → Bool} {n : Nat} (h : p n = true) : selN p (n + 1) = selN p n ++ [n] := by simp [selN, List.range_succ, List.filter_append, h]
theorem selN_no {p : Nat → Bool} {n : Nat} (h : p n = false) : selN p (n + 1) = selN p n := by simp [selN, List.range_succ, List.filter_append, h]
theorem selN_len (p : Nat → Bool) (n : Nat) : (selN p n).length ≤ n := Nat.le_trans (List.length_filter_le _ _) (by simp)
theorem selN_mem {p : Nat → Bool} {n k : Nat} : k ∈ selN p n ↔ k < n ∧ p k = true := by simp [selN]

/-- The cells of a set. -/
def bitsOf (s : Nat → Bool) : Array Value := Array.ofFn (n := 101) fun i => .bool (s i)
theorem bits_at (s : Nat → Bool) {n : Nat} (h : n < 101) : (bitsOf s)[n]? = some (.bool (s n)) := by
  unfold bitsOf
  rw [Array.getElem?_eq_getElem (by simpa using h)]
  simp
def SetAt (W : World) (b : Nat) (s : Nat → Bool) : Prop := Box W b (bitsOf s) 144
theorem SetAt.cell {W : World} {b : Nat} {s : Nat → Bool} (h : SetAt W b s) {n : Nat} (hn : n < 101) : W.cell? ⟨b, n, none⟩ = some (.bool (s n)) := (Box.cell h n).trans (bits_at s hn)
/-- With one more member. -/
def addTo (s : Nat → Bool) (n : Nat) : Nat → Bool := fun k => k == n || s k
theorem SetAt.add {W : World} {b : Nat} {s : Nat → Bool} (h : SetAt W b s) (n : Nat) : SetAt (W.setCell ⟨b, n, none⟩ (.bool true)) b (addTo s n) := by
  have h1 := setCell_box h n (.bool true)
  have h2 : (bitsOf s).setIfInBounds n (.bool true) = bitsOf (addTo s n) := by
    apply Array.ext_getElem?
    intro i
    by_cases hin : n = i
    · subst hin
      by_cases hl : n < 101
      · rw [bits_at _ hl]; simp [addTo, bitsOf, hl]
      · simp [bitsOf, hl]
    · rw [Array.getElem?_setIfInBounds_ne hin]
      by_cases hl : i < 101
      · rw [bits_at _ hl, bits_at _ hl]
        have : (i == n) = false := beq_eq_false_iff_ne.2 (Ne.symm hin)
        simp [addTo, this]
      · simp [bitsOf, hl]
  rw [h2] at h1
  exact h1
/-- What a round must keep: the set, and where it is said to lie. -/
def Keep2 (b1 bs : Nat) (A B : World) : Prop := B.heap[b1]? = A.heap[b1]? ∧ B.heap[bs]? = A.heap[bs]?
theorem keep2_t {b1 bs : Nat} {A B C : World} (h : Keep2 b1 bs A B) (k : Keep2 b1 bs B C) : Keep2 b1 bs A C := ⟨k.1.trans h.1, k.2.trans h.2⟩
theorem keep2_b {b1 bs : Nat} {w : World} (h1 : b1 < w.heap.size) (h2 : bs < w.heap.size) (W : World) (l : Nat) (o o' : Obj) (hl : w.heap.size ≤ l) (_h : W.heap[l]? = some o) (_ : o.isCells = false) (_ : o.isWalk = false) : Keep2 b1 bs W (W.putObj l o') :=
  ⟨World.putObj_heap_other (by omega), World.putObj_heap_other (by omega)⟩

def RetEach (bs : Nat) (w : World) (e : Ending) (w' : World) : Prop := ∃ b1, e = .returned (.func (.func 80) #[] #[.pointer (some ⟨b1, 0, none⟩)]) ∧ Below w.heap.size w w' ∧ w.heap.size ≤ b1 ∧ Box w' b1 #[.pointer (some ⟨bs, 0, none⟩)] 142
theorem each_mk (bs : Nat) (w : World) : Calls Tryz.prog 49 #[.pointer (some ⟨bs, 0, none⟩)] w (RetEach bs w) := by
  go_enter Tryz.func49, Tryz.ntmps49
  go_wp2_with fail
  go_ret
  refine named1 (p := RetEach bs w _) ?_
  intro W hW B1
  exact ⟨_, rfl, hW, Nat.le_refl _, B1⟩
theorem enters_each : ∀ args w, (callFunc 80 args).run Tryz.prog w = .ok (.enter 80 args) w := fun _ _ => by kernel_rfl

set_option maxRecDepth 100000 in
set_option maxHeartbeats 4000000 in
theorem each_stops (m bd : Nat) (b1 bs : Nat) (s : Nat → Bool) (w : World) (B1 : Box w b1 #[.pointer (some ⟨bs, 0, none⟩)] 142) (BS : SetAt w bs s) (hs : ∀ n, n < 101 → s n = true → n ≤ bd) :
    SeqStopsK Fence.wide (m + 1) Tryz.prog 80 #[.pointer (some ⟨b1, 0, none⟩)]
      (fun x : {n : Nat // n ≤ bd} => #[.int .i64 x.1]) (Keep2 b1 bs) (fun ys => ys.map (·.1) = selN s 101) (fun _ => True) 101 w := by
  intro l J Jx W hW hJ hJx hY h0
  have HY := Lib.hid hY
  have HJ := Lib.hid hJ
  clear hY hJ hJx
  have D1 := B1.later hW
  have DS : SetAt W bs s := Box.later BS hW
  clear B1 BS
  have HS := Lib.hid hs
  clear hs
  refine callsIn_of_wp Tryz.func80 rfl trivial ?_ rfl
  simp only [Tryz.ntmps80, List.size_toArray, List.length_cons, List.length_nil, Nat.reduceAdd, Nat.reduceSub, Array.replicate_succ, Array.replicate_zero, List.push_toArray, List.append_toArray, List.nil_append, List.cons_append]
  gi_wp2
  gi_loopw [4] (fun i' wr => ∃ (n : Nat) (ys : List {n : Nat // n ≤ bd}), n ≤ 101 ∧ i' = .int .i64 n ∧ Box wr b1 #[.pointer (some ⟨bs, 0, none⟩)] 142 ∧ SetAt wr bs s ∧ ys.map (·.1) = selN s n ∧ J ys wr) (fun i' _ => 101 - (intOf i').toNat)
  case atStart => exact ⟨0, [], Nat.zero_le _, rfl, D1, DS, rfl, h0⟩
  case round =>
    obtain ⟨n, ys, hn, rfl, E1, ES, hys, hj⟩ := hrel
    clear D1 DS h0
    have c1 := E1.cell
    have t1 := E1.lt
    have ts := Box.lt ES
    have HYs := Lib.hid hys
    clear hys
    by_cases hlt : n < 101
    · have e0 := ES.cell hlt
      have hlen : ys.length ≤ n := by
        have := congrArg List.length HYs.out
        rw [List.length_map] at this
        rw [this]; exact selN_len _ _
      have r1 : (0 : Int) ≤ (n : Int) := by omega
      have r2 : (n : Int) < 101 := by omega
      have HE := Lib.hid ES
      cases hsn : s n with
      | false =>
        rw [hsn] at e0
        have HSn := Lib.hid hsn
        clear hsn
        gi_wp2
        all_goals
          refine ⟨fun _ h => (by cases h), ?_⟩
          gi_wp2
          go_roundw
          case rel => exact ⟨n + 1, ys, by omega, by go_num, E1, HE.out, by rw [selN_no HSn.out]; exact HYs.out, hj⟩
          case measure => simp [intOf]; omega
      | true =>
        rw [hsn] at e0
        have HSn := Lib.hid hsn
        clear hsn
        obtain ⟨fn, tmps, assign, body, hy, hR⟩ := HY.out ys ⟨n, HS.out n hlt HSn.out⟩ wr hj (by omega)
        gi_wp2
        refine hR.mono ?_
        rintro e w6 (⟨rfl, hj6, hk1, hk2⟩ | ⟨rfl, hjx⟩)
        · clear hy hR e0 c1 t1 ts
          gi_wp2
          go_roundw
          case rel => exact ⟨n + 1, ys ++ [⟨n, HS.out n hlt HSn.out⟩], by omega, by go_num, hk1.trans E1, hk2.trans HE.out, by rw [selN_yes HSn.out, List.map_append, HYs.out]; rfl, hj6⟩
          case measure => simp [intOf]; omega
        · clear hy hR e0 c1 t1 ts
          gi_wp2
          refine bodyPost_ret (results_none rfl _ _ _) rfl ?_
          exact ⟨⟨_, rfl⟩, .inr ⟨_, trivial, hjx⟩⟩
    · obtain rfl : n = 101 := by omega
      gi_wp2
      go_end0
      exact ⟨⟨_, rfl⟩, .inl ⟨_, HYs.out, hj⟩⟩
end Cp
end Go.Proofs.YtingfmdbihbamaaGreat
