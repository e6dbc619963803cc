/- A map of pairs of numbers. -/
import Derived.Test.YtingfmdbihbamaaGreatOI2
import Derived.MapKept
open Go.RowKit
namespace Go.Proofs.YtingfmdbihbamaaGreat
namespace Cp
open Go.Once

abbrev pairV (i j : Int) : Value := .agg #[.int .i64 i, .int .i64 j]

theorem pair_equal (w : World) (d : Nat) (a b c f : Int) : (Op.equalIn (d + 2) 146 (pairV a b) (pairV c f)).run Tryz.prog w = .ok (a == c && b == f) w := by
  have h1 := fun (x y : Int) => run_equalIn_int (P := Tryz.prog) w d 3 .i64 .i64 x y (by kernel_rfl)
  have h2 : Tryz.prog.stoodInHeld 146 = false := by kernel_rfl
  unfold Op.equalIn
  simp only [Sem.run_bind, run_underlying Tryz.underlying146, Result.andThen_ok]
  simp [part, h1, h2]
  by_cases h4 : a = c <;> by_cases h5 : b = f <;> simp [h4, h5]
theorem run_findAsk (i j : Int) : ∀ (es : List MapEntry) (k : Nat), (∀ e ∈ es, ∃ a b, e.key = pairV a b) →
    ((∀ w, (Instr.findAsking 146 (pairV i j) es k).run Tryz.prog w = .ok none w) ∧ ∀ e ∈ es, e.key ≠ pairV i j) ∨
    ∃ m e, (∀ w, (Instr.findAsking 146 (pairV i j) es k).run Tryz.prog w = .ok (some (m, e.val)) w) ∧ e ∈ es ∧ e.key = pairV i j := by
  intro es
  induction es with
  | nil => intro k _; exact .inl ⟨fun w => by simp [Instr.findAsking], by simp⟩
  | cons e es ih =>
    intro k h
    obtain ⟨a, b, he⟩ := h e (by simp)
    have hq : ∀ w, (Op.equal 146 (pairV i j) e.key).run Tryz.prog w = .ok (i == a && j == b) w := fun w => by rw [he]; exact pair_equal w 9998 i j a b
    by_cases hk : i = a ∧ j = b
    · obtain ⟨rfl, rfl⟩ := hk
      exact .inr ⟨k, e, fun w => by simp [Instr.findAsking, hq], by simp, he⟩
    · have hkf : (i == a && j == b) = false := by rw [Bool.eq_false_iff]; simpa using hk
      rcases ih (k + 1) (fun e he => h e (by simp [he])) with ⟨h1, h2⟩ | ⟨m, e', h1, h2, h3⟩
      · refine .inl ⟨fun w => by simp only [Instr.findAsking, Sem.run_bind, hq, hkf, Result.andThen_ok]; simpa using h1 w, ?_⟩
        intro e' he'
        rcases List.mem_cons.1 he' with rfl | he'
        · rw [he]; intro hh; simp only [pairV, Value.agg.injEq, Array.mk.injEq, List.cons.injEq, Value.int.injEq] at hh; exact hk ⟨hh.1.2.symm, hh.2.1.2.symm⟩
        · exact h2 e' he'
      · exact .inr ⟨m, e', fun w => by simp only [Instr.findAsking, Sem.run_bind, hq, hkf, Result.andThen_ok]; simpa using h1 w, by simp [h2], h3⟩
theorem run_check (w : World) (i j : Int) (em : Bool) : (Instr.checkKey em 10000 146 (pairV i j)).run Tryz.prog w = .ok () w := by
  have h4 : ∀ n x, (Instr.checkKey em (n + 1) 3 (.int .i64 x)).run Tryz.prog w = .ok () w := fun n x => by
    unfold Instr.checkKey
    simp [run_underlying Tryz.underlying3]
  rw [show (10000 : Nat) = 9998 + 1 + 1 from rfl]
  unfold Instr.checkKey
  simp only [Sem.run_bind, run_underlying Tryz.underlying146, Result.andThen_ok]
  simp [part, h4]
theorem run_find (i j : Int) (es : List MapEntry) (h : ∀ e ∈ es, ∃ a b, e.key = pairV a b) :
    ((∀ w, (Instr.findKey 146 (pairV i j) es).run Tryz.prog w = .ok none w) ∧ ∀ e ∈ es, e.key ≠ pairV i j) ∨
    ∃ m e, (∀ w, (Instr.findKey 146 (pairV i j) es).run Tryz.prog w = .ok (some (m, e.val)) w) ∧ e ∈ es ∧ e.key = pairV i j := by
  have hu := Tryz.underlying146
  cases es with
  | nil => exact .inl ⟨fun w => by unfold Instr.findKey; simp only [Sem.run_bind, run_underlying hu, Result.andThen_ok]; simp [Instr.findNow], by simp⟩
  | cons e es =>
    obtain ⟨a, b, he⟩ := h e (by simp)
    have : ∀ w, (Instr.findKey 146 (pairV i j) (e :: es)).run Tryz.prog w = (Instr.findAsking 146 (pairV i j) (e :: es) 0).run Tryz.prog w := fun w => by
      unfold Instr.findKey; simp only [Sem.run_bind, run_underlying hu, Result.andThen_ok]; simp [Instr.findNow, Instr.sameNow]
    simp only [this]
    exact run_findAsk i j (e :: es) 0 h

/-- Block bm is a map with these entries. -/
def MapIs (W : World) (bm : Nat) (es : Array MapEntry) (clock : Nat) : Prop := W.heap[bm]? = some (.map es clock)
def Pairs (es : Array MapEntry) : Prop := ∀ e ∈ es.toList, ∃ a b, e.key = pairV a b

/-- What a look-up gives, in each world that has the map: an entry that is there is found. -/
theorem look_map {es : Array MapEntry} (hp : Pairs es) (i j : Int) (hin : ∃ e ∈ es.toList, e.key = pairV i j) :
    ∃ e ∈ es.toList, e.key = pairV i j ∧ ∀ W bm clock, MapIs W bm es clock → (Instr.lookup 116 (.map (some bm)) (pairV i j) false).run Tryz.prog W = .ok e.val W := by
  have hu := Tryz.underlying116
  rcases run_find i j es.toList hp with ⟨_, h2⟩ | ⟨m, e, h1, h2, h3⟩
  · obtain ⟨e, he, hk⟩ := hin
    exact absurd hk (h2 e he)
  · refine ⟨e, h2, h3, fun W bm clock hm => ?_⟩
    unfold Instr.lookup
    simp only [Sem.run_bind, run_underlying hu, Result.andThen_ok, MapKept.run_getObj_map (show W.heap[bm]? = _ from hm), Sem.run_pure, run_check, h1]
    rfl
/-- A new entry goes in. -/
theorem put_map {es : Array MapEntry} (hp : Pairs es) {i j : Int} (hn : ∀ e ∈ es.toList, e.key ≠ pairV i j) (v : Value) {W : World} {bm clock : Nat} (hm : MapIs W bm es clock) :
    ∃ W', (Instr.mapUpdate 116 (.map (some bm)) (pairV i j) v).run Tryz.prog W = .ok () W' ∧ MapIs W' bm (es.push ⟨pairV i j, v, clock⟩) (clock + 1) ∧ W.grownBy W' (some bm) := by
  have hu := Tryz.underlying116
  have hlt : bm < W.heap.size := (Array.getElem?_eq_some_iff.1 hm).1
  refine ⟨{ W with heap := W.heap.setIfInBounds bm (.map (es.push ⟨pairV i j, v, clock⟩) (clock + 1)) }, ?_, ?_, rfl, rfl, rfl, by simp, fun k _ hk => ?_⟩
  · unfold Instr.mapUpdate
    have h1 : ∀ w, (Instr.findKey 146 (pairV i j) es.toList).run Tryz.prog w = .ok none w := by
      rcases run_find i j es.toList hp with ⟨h1, _⟩ | ⟨m, e, _, h2, h3⟩
      · exact h1
      · exact absurd h3 (hn e h2)
    simp only [Sem.run_bind, run_underlying hu, Result.andThen_ok, MapKept.run_getObj_map (show W.heap[bm]? = _ from hm), run_check, h1, MapKept.run_setObj_map _ (show W.heap[bm]? = _ from hm)]
  · simp [MapIs, hlt]
  · simp only [ne_eq, Option.some.injEq] at hk
    simp [Array.getElem?_setIfInBounds_ne (Ne.symm hk)]

theorem Pairs.push {es : Array MapEntry} (hp : Pairs es) (i j : Int) (v : Value) (c : Nat) : Pairs (es.push ⟨pairV i j, v, c⟩) := by
  intro e he
  simp only [Array.toList_push, List.mem_append, List.mem_singleton] at he
  rcases he with he | rfl
  · exact hp e he
  · exact ⟨i, j, rfl⟩

end Cp
end Go.Proofs.YtingfmdbihbamaaGreat
