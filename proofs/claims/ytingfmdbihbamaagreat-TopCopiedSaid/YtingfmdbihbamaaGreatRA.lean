import Derived.Test.YtingfmdbihbamaaGreatGen0
import Derived.RangeFuncBound
import Derived.RangeFuncCalls
import Derived.RangeFuncLeaves
import Derived.RangeFuncNested
import Derived.Shelf.Abstract
import Derived.Shelf.RegionOpen
import Derived.OwnWalkIn
import Derived.TacticsInMore
import Derived.LoopNIn
import Derived.LoopIn
import Derived.Test.YtingfmdbihbamaaGreatMA
import Derived.Test.YtingfmdbihbamaaGreatRPl
import Derived.Deep.DeepCutAuto
import Derived.Deep.CutBlock
import Derived.Deep.RegionHeld3
import Derived.Deep.AppendLies
import Derived.Test.YtingfmdbihbamaaGreatMB
import Derived.Test.YtingfmdbihbamaaGreatFatRd
section
/- Marks of loops over functions: what they leave among the deferred calls. -/
open Go.RowKit Go.Shelf
namespace Go.Proofs.YtingfmdbihbamaaGreat
/-! ### Marks: what loops over functions leave among the deferred calls -/
def markOf (D : Nat) : Deferred := { target := .collected D, args := #[] }
def Marks (n0 : Nat) (ds : List Deferred) (W : World) : Prop := ∃ Ds : List Nat, ds = Ds.map markOf ∧ Ds.Nodup ∧ ∀ D ∈ Ds, n0 ≤ D ∧ W.heap[D]? = some (.deferred (some []))
theorem Marks.nil (n0 : Nat) (W : World) : Marks n0 [] W := ⟨[], rfl, List.nodup_nil, by simp⟩
theorem Marks.keep {n0 : Nat} {ds : List Deferred} {W W' : World} (h : Marks n0 ds W) (hk : ∀ D : Nat, W.heap[D]? = some (Obj.deferred (some [])) → W'.heap[D]? = W.heap[D]?) : Marks n0 ds W' := by
  obtain ⟨Ds, h1, h2, h3⟩ := h
  exact ⟨Ds, h1, h2, fun D hD => ⟨(h3 D hD).1, (hk D (h3 D hD).2).trans (h3 D hD).2⟩⟩
theorem Marks.later {n0 : Nat} {ds : List Deferred} {W W' : World} (h : Marks n0 ds W) (hb : Below W.heap.size W W') : Marks n0 ds W' :=
  h.keep fun D hD => hb.block D (Array.getElem?_eq_some_iff.1 hD).1
theorem Marks.but {n0 g : Nat} {ds : List Deferred} {W W' : World} {cur : Array Value} {T : TypeId} (h : Marks n0 ds W) (hB : Box W g cur T) (hb : But g W W') : Marks n0 ds W' :=
  h.keep fun D hD => hb.block D fun e => by rw [e, show W.heap[g]? = _ from hB] at hD; cases hD
theorem Marks.cons {n0 D : Nat} {ds : List Deferred} {W : World} (h : Marks n0 ds W) (h0 : n0 ≤ D) (hD : W.heap[D]? = some (.deferred (some []))) (hn : ∀ d ∈ ds, d ≠ markOf D) : Marks n0 (markOf D :: ds) W := by
  obtain ⟨Ds, rfl, h2, h3⟩ := h
  refine ⟨D :: Ds, rfl, List.nodup_cons.2 ⟨fun hm => hn _ (List.mem_map_of_mem hm) rfl, h2⟩, fun E hE => ?_⟩
  rcases List.mem_cons.1 hE with rfl | hE
  · exact ⟨h0, hD⟩
  · exact h3 E hE
theorem markOf_inj {D E : Nat} (h : markOf D = markOf E) : D = E := by
  unfold markOf at h; injection h with h1; injection h1
/-- The function leaves, whatever marks there are. -/
theorem marks_leave {F : Fence} {n : Nat} {P : Program} {fn : Func} {tmps : Array Value} {R : Ending → World → Prop} {n0 : Nat} {ds : List Deferred} {W : World} (h : Marks n0 ds W)
    (hR : ∀ W', Below n0 W W' → (∀ k : Nat, W.heap[k]? ≠ some (Obj.deferred (some [])) → W'.heap[k]? = W.heap[k]?) → LeavesInM F n P fn tmps R [] .returning W') (h0 : n0 ≤ W.heap.size) : LeavesInM F n P fn tmps R ds .returning W := by
  obtain ⟨Ds, rfl, h2, h3⟩ := h
  induction Ds generalizing W with
  | nil => exact hR W (Below.refl _ _) (fun _ _ => rfl)
  | cons D Ds ih =>
    have hD := h3 D (by simp)
    obtain ⟨h4, h5⟩ := List.nodup_cons.1 h2
    refine ⟨by simp, .inl ⟨D, _, rfl, run_takeDeferred hD.2, ?_⟩⟩
    have hot : ∀ k, k ≠ D → (W.putObj D (.deferred none)).heap[k]? = W.heap[k]? := fun k hk => World.putObj_heap_other hk
    have hb : Below n0 W (W.putObj D (.deferred none)) := (Below.refl n0 W).grown (grownBy_putObj' W D (.deferred none)) h0 (fun k e => by cases e; exact hD.1)
    refine ih (fun W' hb' hk' => hR W' (hb.trans hb') fun k hk => ?_) (Nat.le_trans h0 hb.size) h5 (fun E hE => ?_)
    · by_cases hkD : k = D
      · exact absurd (hkD ▸ hD.2) hk
      · exact (hk' k (by rw [hot k hkD]; exact hk)).trans (hot k hkD)
    · have hne : E ≠ D := fun e => h4 (e ▸ hE)
      exact ⟨(h3 E (by simp [hE])).1, (hot E hne).trans (h3 E (by simp [hE])).2⟩
end Go.Proofs.YtingfmdbihbamaaGreat
end

section
/- Worlds in which some maps turn, and one block; maps whose keys are two numbers. -/
open Go.RowKit Go.Shelf
namespace Go.Proofs.YtingfmdbihbamaaGreat
open Go.Hill

/-- Nothing has turned but maps that 'ex' names, and block g. -/
structure Turn (ex : Nat → Prop) (g : Option Nat) (W W' : World) : Prop where
  os : W'.os = W.os
  tape : W'.tape = W.tape
  output : W'.output = W.output
  size : W.heap.size ≤ W'.heap.size
  block : ∀ k, k < W.heap.size → some k ≠ g → (ex k → ∀ es c, W.heap[k]? ≠ some (.map es c)) → W'.heap[k]? = W.heap[k]?
section
variable {ex ex' : Nat → Prop} {g : Option Nat} {A B C W W' : World}
theorem Turn.refl (ex : Nat → Prop) (g : Option Nat) (W : World) : Turn ex g W W := ⟨rfl, rfl, rfl, Nat.le_refl _, fun _ _ _ _ => rfl⟩
theorem Turn.trans (h : Turn ex g A B) (k : Turn ex g B C) : Turn ex g A C :=
  ⟨k.os.trans h.os, k.tape.trans h.tape, k.output.trans h.output, Nat.le_trans h.size k.size, fun i hi hg hm => by
    have h1 := h.block i hi hg hm
    exact (k.block i (Nat.lt_of_lt_of_le hi h.size) hg fun he es c => by rw [h1]; exact hm he es c).trans h1⟩
theorem Turn.mono (h : Turn ex g A B) (he : ∀ k, ex k → ex' k) : Turn ex' g A B := ⟨h.os, h.tape, h.output, h.size, fun k h1 h2 h3 => h.block k h1 h2 fun e => h3 (he k e)⟩
theorem Turn.any (h : Turn ex none A B) : Turn ex g A B := ⟨h.os, h.tape, h.output, h.size, fun k h1 _ h3 => h.block k h1 (by simp) h3⟩
theorem Below.turn (h : Below A.heap.size A B) : Turn ex g A B := ⟨h.os, h.tape, h.output, h.size, fun k hk _ _ => h.block k hk⟩
theorem Turn.next (h : Turn ex g A B) (hb : Below B.heap.size B C) : Turn ex g A C := h.trans (Below.turn hb)
/-- A block turns that is new, or g itself. -/
theorem Turn.but {b : Nat} (h : Turn ex g A B) (hb : But b B C) (hn : A.heap.size ≤ b ∨ some b = g) : Turn ex g A C :=
  ⟨hb.os.trans h.os, hb.tape.trans h.tape, hb.output.trans h.output, by rw [hb.size]; exact h.size, fun k hk hg hm => (hb.block k (by
    rintro rfl
    rcases hn with h1 | h1
    · omega
    · exact hg h1)).trans (h.block k hk hg hm)⟩
/-- A map turns. -/
theorem Turn.put {b : Nat} {es : Array MapEntry} {c : Nat} (h : Turn ex g A B) (hm : MapIs B b es c) (hb : B.grownBy C (some b)) (he : ex b) : Turn ex g A C :=
  h.trans ⟨hb.os, hb.tape, hb.output, hb.size, fun k hk _ h3 => hb.block k hk fun e => by cases e; exact h3 he _ _ hm⟩
/-- A walk's own book-keeping. -/
theorem Turn.grown {row : Option Nat} (h : Turn ex g A B) (hb : B.grownBy C row) (hr : ∀ r, row = some r → A.heap.size ≤ r) : Turn ex g A C :=
  ⟨hb.os.trans h.os, hb.tape.trans h.tape, hb.output.trans h.output, Nat.le_trans h.size hb.size, fun k hk hg hm => (hb.block k (Nat.lt_of_lt_of_le hk h.size) fun e => by
    have := hr k e.symm; omega).trans (h.block k hk hg hm)⟩
theorem Turn.own {β : Type} {w6 : World} : OwnFrom w6.heap.size (fun (_ : β) W => Turn ex g w6 W) := fun _ _ _ _ h hg hr => h.grown hg fun r e => (hr r e).1
theorem Turn.below {n0 : Nat} {w0 : World} (h0 : Below n0 w0 A) (hn : n0 ≤ w0.heap.size) (h : Turn ex g A B) (he : ∀ k, ex k → n0 ≤ k) (hg : ∀ k, g = some k → n0 ≤ k) : Below n0 w0 B := by
  refine h0.trans ⟨h.os, h.tape, h.output, h.size, fun k hk => h.block k (Nat.lt_of_lt_of_le hk (Nat.le_trans hn h0.size)) (fun e => ?_) (fun e => ?_)⟩
  · have := hg k e.symm; omega
  · have := he k e; omega
/-- What is done beyond the first world's blocks. -/
theorem Turn.out (h : Turn ex g A B) (hb : Below A.heap.size B C) : Turn ex g A C :=
  ⟨hb.os.trans h.os, hb.tape.trans h.tape, hb.output.trans h.output, Nat.le_trans h.size hb.size, fun k hk hg hm => (hb.block k hk).trans (h.block k hk hg hm)⟩
/-- What lies in cells stays, but for g. -/
theorem Turn.obj (h : Turn ex g A B) {k : Nat} {o : Obj} (ho : A.heap[k]? = some o) (hm : ∀ es c, o ≠ .map es c) (hg : some k ≠ g) : B.heap[k]? = some o :=
  (h.block k (Array.getElem?_eq_some_iff.1 ho).1 hg fun _ es c e => by rw [ho] at e; cases e; exact hm _ _ rfl).trans ho
theorem Turn.box {b : Nat} {cs : Array Value} {T : TypeId} (h : Turn ex g A B) (hB : Box A b cs T) (hg : some b ≠ g) : Box B b cs T := h.obj hB (fun _ _ e => by cases e) hg
theorem Turn.box0 {b : Nat} {cs : Array Value} {T : TypeId} (h : Turn ex none A B) (hB : Box A b cs T) : Box B b cs T := h.box hB (by simp)
theorem Turn.cell {p : Addr} {v : Value} (h : Turn ex none A B) (hc : A.cell? p = some v) : B.cell? p = some v := by
  rw [World.cell?] at hc ⊢
  cases ho : A.heap[p.block]? with
  | none => rw [ho] at hc; cases hc
  | some o =>
    rw [ho] at hc
    rw [h.obj ho (fun es c e => by rw [e] at hc; cases hc) (by simp)]; exact hc
theorem Turn.cells {b o size : Nat} {xs : List (List Value)} (h : Turn ex none A B) (hc : Cells A b o size xs) : Cells B b o size xs :=
  fun i x hx j v hv => h.cell (hc i x hx j v hv)
theorem Turn.row {a : Option Addr} {size : Nat} {xs : List (List Value)} (h : Turn ex none A B) (hc : RowAt A a size xs) : RowAt B a size xs := by
  rcases hc with hc | ⟨b, o, h1, h2⟩
  · exact .inl hc
  · exact .inr ⟨b, o, h1, h.cells h2⟩
theorem Turn.cases {a : Option Addr} {css : List (List Cd)} (h : Turn ex none A B) (hc : CasesAt A a css) : CasesAt B a css := by
  obtain ⟨l, h1, h2, h3⟩ := hc
  exact ⟨l, h1, h.row h2, fun x hx => h.row (h3 x hx)⟩
theorem Turn.land {q : LV} {L : Land} (h : Turn ex none A B) (hc : LandAt A q L) : LandAt B q L :=
  ⟨h.row hc.st, h.row hc.rd, h.cases hc.cs, h.row hc.sn, hc.k1, hc.k2, hc.k3, hc.k4⟩
theorem Turn.marks {n0 : Nat} {ds : List Deferred} (h : Turn ex g A B) (hm : Marks n0 ds A) (hg : ∀ k, g = some k → ∃ cs T, Box A k cs T) : Marks n0 ds B :=
  hm.keep fun D hD => (h.obj hD (fun _ _ e => by cases e) fun e => by
    obtain ⟨cs, T, hB⟩ := hg D e.symm
    rw [show A.heap[D]? = _ from hB] at hD; cases hD).trans hD.symm
theorem Turn.from' {B0 : Nat} (h : Turn ex g A B) (he : ∀ k, ex k → k < B0) (hg : ∀ k, g = some k → k < B0) : KeepsFrom B0 A B :=
  ⟨h.size, fun k o hk ho _ => (h.block k (Array.getElem?_eq_some_iff.1 ho).1 (fun e => by have := hg k e.symm; omega) fun e => by have := he k e; omega).trans ho⟩
theorem marks_turn (hs : ∀ k : Nat, W.heap[k]? ≠ some (Obj.deferred (some [])) → W'.heap[k]? = W.heap[k]?) {b : Nat} {cs : Array Value} {T : TypeId} (hB : Box W b cs T) : Box W' b cs T :=
  (hs b (by rw [show W.heap[b]? = _ from hB]; exact fun e => by injection e with e; cases e)).trans hB
end

/-! ### Maps with spots as keys -/
theorem spot_equal (w : World) (d : Nat) (a b c f : Int) : (Op.equalIn (d + 2) 136 (pairV a b) (pairV c f)).run Tryz.prog w = .ok (a == c && b == f) w := by
  have h1 := fun (x y : Int) => run_equalIn_int (P := Tryz.prog) w d 3 .i64 .i64 x y (by kernel_rfl)
  have h2 : Tryz.prog.stoodInHeld 136 = false := by kernel_rfl
  unfold Op.equalIn
  simp only [Sem.run_bind, run_underlying Tryz.underlying136, Result.andThen_ok]
  simp [part, h1, h2]
  by_cases h4 : a = c <;> by_cases h5 : b = f <;> simp [h4, h5]
theorem spot_findAsk (i j : Int) : ∀ (es : List MapEntry) (k : Nat), (∀ e ∈ es, ∃ a b, e.key = pairV a b) →
    ((∀ w, (Instr.findAsking 136 (pairV i j) es k).run Tryz.prog w = .ok none w) ∧ ∀ e ∈ es, e.key ≠ pairV i j) ∨
    ∃ m e, (∀ w, (Instr.findAsking 136 (pairV i j) es k).run Tryz.prog w = .ok (some (m, e.val)) w) ∧ e ∈ es ∧ e.key = pairV i j := by
  intro es
  induction es with
  | nil => intro k _; exact .inl ⟨fun w => by simp [Instr.findAsking], by simp⟩
  | cons e es ih =>
    intro k h
    obtain ⟨a, b, he⟩ := h e (by simp)
    have hq : ∀ w, (Op.equal 136 (pairV i j) e.key).run Tryz.prog w = .ok (i == a && j == b) w := fun w => by rw [he]; exact spot_equal w 9998 i j a b
    by_cases hk : i = a ∧ j = b
    · obtain ⟨rfl, rfl⟩ := hk
      exact .inr ⟨k, e, fun w => by simp [Instr.findAsking, hq], by simp, he⟩
    · have hkf : (i == a && j == b) = false := by rw [Bool.eq_false_iff]; simpa using hk
      rcases ih (k + 1) (fun e he => h e (by simp [he])) with ⟨h1, h2⟩ | ⟨m, e', h1, h2, h3⟩
      · refine .inl ⟨fun w => by simp only [Instr.findAsking, Sem.run_bind, hq, hkf, Result.andThen_ok]; simpa using h1 w, ?_⟩
        intro e' he'
        rcases List.mem_cons.1 he' with rfl | he'
        · rw [he]; intro hh; simp only [pairV, Value.agg.injEq, Array.mk.injEq, List.cons.injEq, Value.int.injEq] at hh; exact hk ⟨hh.1.2.symm, hh.2.1.2.symm⟩
        · exact h2 e' he'
      · exact .inr ⟨m, e', fun w => by simp only [Instr.findAsking, Sem.run_bind, hq, hkf, Result.andThen_ok]; simpa using h1 w, by simp [h2], h3⟩
theorem spot_check (w : World) (i j : Int) (em : Bool) : (Instr.checkKey em 10000 136 (pairV i j)).run Tryz.prog w = .ok () w := by
  have h4 : ∀ n x, (Instr.checkKey em (n + 1) 3 (.int .i64 x)).run Tryz.prog w = .ok () w := fun n x => by
    unfold Instr.checkKey
    simp [run_underlying Tryz.underlying3]
  rw [show (10000 : Nat) = 9998 + 1 + 1 from rfl]
  unfold Instr.checkKey
  simp only [Sem.run_bind, run_underlying Tryz.underlying136, Result.andThen_ok]
  simp [part, h4]
theorem spot_find (i j : Int) (es : List MapEntry) (h : ∀ e ∈ es, ∃ a b, e.key = pairV a b) :
    ((∀ w, (Instr.findKey 136 (pairV i j) es).run Tryz.prog w = .ok none w) ∧ ∀ e ∈ es, e.key ≠ pairV i j) ∨
    ∃ m e, (∀ w, (Instr.findKey 136 (pairV i j) es).run Tryz.prog w = .ok (some (m, e.val)) w) ∧ e ∈ es ∧ e.key = pairV i j := by
  have hu := Tryz.underlying136
  cases es with
  | nil => exact .inl ⟨fun w => by unfold Instr.findKey; simp only [Sem.run_bind, run_underlying hu, Result.andThen_ok]; simp [Instr.findNow], by simp⟩
  | cons e es =>
    obtain ⟨a, b, he⟩ := h e (by simp)
    have : ∀ w, (Instr.findKey 136 (pairV i j) (e :: es)).run Tryz.prog w = (Instr.findAsking 136 (pairV i j) (e :: es) 0).run Tryz.prog w := fun w => by
      unfold Instr.findKey; simp only [Sem.run_bind, run_underlying hu, Result.andThen_ok]; simp [Instr.findNow, Instr.sameNow]
    simp only [this]
    exact spot_findAsk i j (e :: es) 0 h
/-- What a look-up gives, in each world that has the map. -/
theorem look_spot {M V : TypeId} (hu : Tryz.prog.underlying M = some (.map 136 V)) {z : Value} (hz : ∀ W, (zeroValue V).run Tryz.prog W = .ok z W) {es : Array MapEntry} (hp : Pairs es) (i j : Int) :
    ((∀ W bm clock, MapIs W bm es clock → (Instr.lookup M (.map (some bm)) (pairV i j) true).run Tryz.prog W = .ok (.tuple #[z, .bool false]) W) ∧ ∀ e ∈ es.toList, e.key ≠ pairV i j) ∨
    ∃ e ∈ es.toList, e.key = pairV i j ∧ ∀ W bm clock, MapIs W bm es clock → (Instr.lookup M (.map (some bm)) (pairV i j) true).run Tryz.prog W = .ok (.tuple #[e.val, .bool true]) W := by
  rcases spot_find i j es.toList hp with ⟨h1, h2⟩ | ⟨m, e, h1, h2, h3⟩
  · refine .inl ⟨fun W bm clock hm => ?_, h2⟩
    unfold Instr.lookup
    simp only [Sem.run_bind, run_underlying hu, Result.andThen_ok, MapKept.run_getObj_map (show W.heap[bm]? = _ from hm), Sem.run_pure, spot_check, h1, hz]
    rfl
  · refine .inr ⟨e, h2, h3, fun W bm clock hm => ?_⟩
    unfold Instr.lookup
    simp only [Sem.run_bind, run_underlying hu, Result.andThen_ok, MapKept.run_getObj_map (show W.heap[bm]? = _ from hm), Sem.run_pure, spot_check, h1]
    rfl
/-- A new entry goes in. -/
theorem put_spot {M V : TypeId} (hu : Tryz.prog.underlying M = some (.map 136 V)) {es : Array MapEntry} (hp : Pairs es) {i j : Int} (hn : ∀ e ∈ es.toList, e.key ≠ pairV i j) (v : Value) {W : World} {bm clock : Nat} (hm : MapIs W bm es clock) :
    ∃ W', (Instr.mapUpdate M (.map (some bm)) (pairV i j) v).run Tryz.prog W = .ok () W' ∧ MapIs W' bm (es.push ⟨pairV i j, v, clock⟩) (clock + 1) ∧ W.grownBy W' (some bm) := by
  have hlt : bm < W.heap.size := (Array.getElem?_eq_some_iff.1 hm).1
  refine ⟨{ W with heap := W.heap.setIfInBounds bm (.map (es.push ⟨pairV i j, v, clock⟩) (clock + 1)) }, ?_, ?_, rfl, rfl, rfl, by simp, fun k _ hk => ?_⟩
  · unfold Instr.mapUpdate
    have h1 : ∀ w, (Instr.findKey 136 (pairV i j) es.toList).run Tryz.prog w = .ok none w := by
      rcases spot_find i j es.toList hp with ⟨h1, _⟩ | ⟨m, e, _, h2, h3⟩
      · exact h1
      · exact absurd h3 (hn e h2)
    simp only [Sem.run_bind, run_underlying hu, Result.andThen_ok, MapKept.run_getObj_map (show W.heap[bm]? = _ from hm), spot_check, h1, MapKept.run_setObj_map _ (show W.heap[bm]? = _ from hm)]
  · simp [MapIs, hlt]
  · simp only [ne_eq, Option.some.injEq] at hk
    simp [Array.getElem?_setIfInBounds_ne (Ne.symm hk)]
theorem pairN {a b c d : Nat} (h : pairV (a : Int) (b : Int) = pairV (c : Int) (d : Int)) : a = c ∧ b = d := by
  simp only [pairV, Value.agg.injEq, Array.mk.injEq, List.cons.injEq, Value.int.injEq, true_and, and_true] at h
  omega
end Go.Proofs.YtingfmdbihbamaaGreat
end

section
/- Layer 3, the walks: a land at work, with what is known in each case; what is in bounds. -/
open Go.RowKit Go.Shelf
namespace Go.Proofs.YtingfmdbihbamaaGreat
open Go.Hill

/-! ### Bits -/
theorem u64_wrap {n : Nat} (h : n < 2 ^ 64) : IntKind.u64.wrap (n : Int) = n := by
  simp [IntKind.wrap, IntKind.bits, IntKind.signed]
  omega
theorem u64_or (a b : Nat) (ha : a < 2 ^ 64) (hb : b < 2 ^ 64) : bits .or .u64 (a : Int) (b : Int) = ((a ||| b : Nat) : Int) := by
  have h1 : (BitVec.ofInt 64 (a : Int)) = BitVec.ofNat 64 a := BitVec.ofInt_natCast 64 a
  have h2 : (BitVec.ofInt 64 (b : Int)) = BitVec.ofNat 64 b := BitVec.ofInt_natCast 64 b
  have h3 : a ||| b < 2 ^ 64 := Nat.or_lt_two_pow ha hb
  have h5 : (BitVec.ofNat 64 a ||| BitVec.ofNat 64 b).toNat = a ||| b := by rw [BitVec.toNat_or, BitVec.toNat_ofNat, BitVec.toNat_ofNat, Nat.mod_eq_of_lt ha, Nat.mod_eq_of_lt hb]
  show IntKind.u64.wrap ((BitVec.ofInt 64 (a : Int) ||| BitVec.ofInt 64 (b : Int)).toNat : Nat) = _
  rw [h1, h2, h5, u64_wrap h3]
theorem u64_and (a b : Nat) (ha : a < 2 ^ 64) (hb : b < 2 ^ 64) : bits .and .u64 (a : Int) (b : Int) = ((a &&& b : Nat) : Int) := by
  have h1 : (BitVec.ofInt 64 (a : Int)) = BitVec.ofNat 64 a := BitVec.ofInt_natCast 64 a
  have h2 : (BitVec.ofInt 64 (b : Int)) = BitVec.ofNat 64 b := BitVec.ofInt_natCast 64 b
  have h3 : a &&& b < 2 ^ 64 := Nat.lt_of_le_of_lt Nat.and_le_left ha
  have h5 : (BitVec.ofNat 64 a &&& BitVec.ofNat 64 b).toNat = a &&& b := by rw [BitVec.toNat_and, BitVec.toNat_ofNat, BitVec.toNat_ofNat, Nat.mod_eq_of_lt ha, Nat.mod_eq_of_lt hb]
  show IntKind.u64.wrap ((BitVec.ofInt 64 (a : Int) &&& BitVec.ofInt 64 (b : Int)).toNat : Nat) = _
  rw [h1, h2, h5, u64_wrap h3]

/-! ### A land at work -/
structure RV where
  bw : Nat
  n0 : Nat
  ka : Option Addr
  kc : Nat
  kn : List Nat
abbrev RV.ex (r : RV) : Nat → Prop := fun k => k ∈ r.kn
/-- What a set of stations is. -/
abbrev setV (L : Land) (i k t : Nat) : Value := .int .u64 ((bitN (fun j => L.can i j k t) L.st.length : Nat) : Int)
structure KnAt (W : World) (r : RV) (L : Land) : Prop where
  len : r.kn.length = L.cs.length
  nd : r.kn.Nodup
  has : ∀ (k bk : Nat), r.kn[k]? = some bk → r.n0 ≤ bk ∧ ∃ es clock, MapIs W bk es clock ∧ Pairs es ∧ ∀ e ∈ es.toList, ∀ i t : Nat, e.key = pairV i t → e.val = setV L i k t
abbrev rel5 (q : LV) (L : Land) (v : Value) : Array Value := #[.slice q.a1 L.st.length q.c1, .slice q.a2 L.rd.length q.c2, .slice q.a3 L.cs.length q.c3, .slice q.a4 L.sn.length q.c4, v]
abbrev relc (r : RV) (q : LV) (L : Land) : Array Value := rel5 q L (.slice r.ka L.cs.length r.kc)
structure RelAt (W : World) (r : RV) (q : LV) (L : Land) : Prop where
  box : Box W r.bw (relc r q L) 124
  land : LandAt W q L
  row : RowAt W r.ka 1 (r.kn.map fun b => [.map (some b)])
  kn : KnAt W r L
section
variable {W W' : World} {r : RV} {q : LV} {L : Land}
theorem KnAt.same (h : KnAt W r L) (hs : ∀ k es c, k ∈ r.kn → W.heap[k]? = some (.map es c) → W'.heap[k]? = some (.map es c)) : KnAt W' r L :=
  ⟨h.len, h.nd, fun k bk hk => by
    obtain ⟨h1, es, c, h2, h3⟩ := h.has k bk hk
    exact ⟨h1, es, c, hs bk es c (List.mem_of_getElem? hk) h2, h3⟩⟩
theorem KnAt.later (h : KnAt W r L) (hb : Below W.heap.size W W') : KnAt W' r L := h.same fun k _ _ _ hk => (hb.block k (Array.getElem?_eq_some_iff.1 hk).1).trans hk
theorem KnAt.but {g : Nat} {cs : Array Value} {T : TypeId} (h : KnAt W r L) (hB : Box W g cs T) (hb : But g W W') : KnAt W' r L := h.same fun k _ _ _ hk => (hb.block k (by
  rintro rfl
  rw [show W.heap[k]? = _ from hB] at hk; cases hk)).trans hk
theorem KnAt.map (h : KnAt W r L) {k : Nat} (hk : k ∈ r.kn) : ∃ es c, W.heap[k]? = some (.map es c) := by
  obtain ⟨i, hi, rfl⟩ := List.getElem_of_mem hk
  obtain ⟨_, es, c, h2, _⟩ := h.has i _ (List.getElem?_eq_getElem hi)
  exact ⟨es, c, h2⟩
theorem KnAt.lt (h : KnAt W r L) {k : Nat} (hk : k ∈ r.kn) : k < W.heap.size := by
  obtain ⟨es, c, h2⟩ := h.map hk
  exact (Array.getElem?_eq_some_iff.1 h2).1
theorem KnAt.low (h : KnAt W r L) {k : Nat} (hk : k ∈ r.kn) : r.n0 ≤ k := by
  obtain ⟨i, hi, rfl⟩ := List.getElem_of_mem hk
  exact (h.has i _ (List.getElem?_eq_getElem hi)).1
/-- Another map turns. -/
theorem KnAt.other {b : Nat} (h : KnAt W r L) (hg : W.grownBy W' (some b)) (hb : b ∉ r.kn) : KnAt W' r L := h.same fun k _ _ hm hk => (hg.block k (Array.getElem?_eq_some_iff.1 hk).1 fun e => by cases e; exact hb hm).trans hk
/-- A set of stations goes in. -/
theorem KnAt.put {k bk : Nat} {i t : Nat} {es : Array MapEntry} {c : Nat} (h : KnAt W r L) (hk : r.kn[k]? = some bk) (hm : MapIs W bk es c) (hm' : MapIs W' bk (es.push ⟨pairV i t, setV L i k t, c⟩) (c + 1)) (hg : W.grownBy W' (some bk)) : KnAt W' r L :=
  ⟨h.len, h.nd, fun k' bk' hk' => by
    by_cases hkk : k' = k
    · subst hkk
      rw [hk] at hk'; cases hk'
      obtain ⟨h1, es', c', h2, h3, h4⟩ := h.has k' bk hk
      have h5 : W.heap[bk]? = some (.map es c) := hm
      rw [show W.heap[bk]? = _ from h2] at h5; cases h5
      refine ⟨h1, _, _, hm', h3.push _ _ _ _, fun e he i' t' hkey => ?_⟩
      simp only [Array.toList_push, List.mem_append, List.mem_singleton] at he
      rcases he with he | rfl
      · exact h4 e he i' t' hkey
      · obtain ⟨rfl, rfl⟩ := pairN hkey; rfl
    · obtain ⟨h1, es', c', h2, h3⟩ := h.has k' bk' hk'
      refine ⟨h1, es', c', (hg.block bk' (Array.getElem?_eq_some_iff.1 h2).1 fun e => ?_).trans h2, h3⟩
      cases e
      obtain ⟨q1, q2⟩ := List.getElem?_eq_some_iff.1 hk
      obtain ⟨q3, q4⟩ := List.getElem?_eq_some_iff.1 hk'
      have hp := List.pairwise_iff_getElem.1 h.nd
      rcases Nat.lt_or_gt_of_ne hkk with hl | hl
      · exact hp k' k q3 q1 hl (q4.trans q2.symm)
      · exact hp k k' q1 q3 hl (q2.trans q4.symm)⟩
theorem RelAt.later (h : RelAt W r q L) (hb : Below W.heap.size W W') : RelAt W' r q L := ⟨h.box.later hb, h.land.later hb, h.row.later hb, h.kn.later hb⟩
theorem RelAt.turn {ex : Nat → Prop} (h : RelAt W r q L) (ht : Turn ex none W W') (hk : KnAt W' r L) : RelAt W' r q L := ⟨ht.box0 h.box, ht.land h.land, ht.row h.row, hk⟩
end
/-- It returns v; nothing has turned but what is known, which is as good as before. -/
def RetR (v : Value) (r : RV) (q : LV) (L : Land) (w : World) (e : Ending) (w' : World) : Prop := e = .returned v ∧ Turn r.ex none w w' ∧ RelAt w' r q L

/-! ### What is in bounds -/
theorem rwithin_any (n a b : Int) (w : World) : Calls Tryz.prog 38 #[.int .i64 n, .int .i64 a, .int .i64 b] w (Ret (.bool (inB n a b)) w) := by
  by_cases h : a ≤ n
  · have hd : decide (a ≤ n) = true := by simpa using h
    go_enter Tryz.func38, Tryz.ntmps38
    go_wp2
    go_ret
    exact ⟨ret_bool (by simp [inB]; omega), Below.refl _ _⟩
  · have hd : decide (a ≤ n) = false := by simpa using h
    go_enter Tryz.func38, Tryz.ntmps38
    go_wp2
    go_ret
    exact ⟨ret_bool (by simp [inB]; omega), Below.refl _ _⟩
theorem end_any {bw : Nat} {q : LV} {L : Land} {v : Value} (w : World) (B1 : Box w bw (rel5 q L v) 124) : Calls Tryz.prog 20 #[.pointer (some ⟨bw, 0, none⟩)] w (Ret (.int .i64 L.sn.length) w) := by
  have c1 := B1.cell; have t1 := B1.lt
  go_enter Tryz.func20, Tryz.ntmps20
  go_wp2_with fail
  go_ret
  exact ⟨rfl, Below.refl _ _⟩
theorem station_any {bw : Nat} {q : LV} {L : Land} {v : Value} (n : Int) (w : World) (B1 : Box w bw (rel5 q L v) 124) (hl : L.st.length ≤ 1000) : Calls Tryz.prog 36 #[.pointer (some ⟨bw, 0, none⟩), .int .i64 n] w (Ret (.bool (inB n 0 ((L.st.length : Int) - 1))) w) := by
  obtain ⟨b, hb⟩ : ∃ b, b = inB n 0 ((L.st.length : Int) - 1) := ⟨_, rfl⟩
  rw [← hb]
  have HC : Hid (∀ w, Calls Tryz.prog 38 #[.int .i64 n, .int .i64 0, .int .i64 ((L.st.length : Int) - 1)] w (Ret (.bool b) w)) := fun w => by rw [hb]; exact rwithin_any _ _ _ _
  clear hb
  have c1 := B1.cell; have t1 := B1.lt
  go_enter Tryz.func36, Tryz.ntmps36
  go_wp2_with fail
  refine (HC.out _).mono ?_
  rintro e w1 ⟨rfl, hb⟩
  clear c1 t1
  go_wp2_with fail
  go_ret
  exact ⟨rfl, hb⟩
theorem time_any {bw : Nat} {q : LV} {L : Land} {v : Value} (n : Int) (b1 : Nat) (w : World) (B1 : Box w b1 #[.pointer (some ⟨bw, 0, none⟩)] 93) (B2 : Box w bw (rel5 q L v) 124) :
    Calls Tryz.prog 37 #[.int .i64 n, .pointer (some ⟨b1, 0, none⟩)] w (Ret (.bool (inB n 0 L.sn.length)) w) := by
  obtain ⟨b, hb⟩ : ∃ b, b = inB n 0 L.sn.length := ⟨_, rfl⟩
  rw [← hb]
  have HC : Hid (∀ w, Calls Tryz.prog 38 #[.int .i64 n, .int .i64 0, .int .i64 L.sn.length] w (Ret (.bool b) w)) := fun w => by rw [hb]; exact rwithin_any _ _ _ _
  clear hb
  have c1 := B1.cell; have t1 := B1.lt
  go_enter Tryz.func37, Tryz.ntmps37
  go_wp2_with fail
  refine (end_any w B2).mono ?_
  rintro e w1 ⟨rfl, hb⟩
  clear c1 t1
  go_wp2_with fail
  refine (HC.out _).mono ?_
  rintro e w2 ⟨rfl, hb2⟩
  replace hb := over hb hb2
  go_wp2_with fail
  go_ret
  exact ⟨rfl, hb⟩

theorem rpass_int (x : Int) (b : Nat) (w : World) (f : Nat) (first cap : Array Value) (p : Bool) (B1 : Box w b #[.func (.func f) first cap] 125)
    (hf : ∀ args w, (callFunc f args).run Tryz.prog w = .ok (.enter f args) w)
    (hp : ∀ w', Below w.heap.size w w' → Calls Tryz.prog f (first.push (.int .i64 x) ++ cap) w' (Ret (.bool p) w')) :
    Calls Tryz.prog 69 #[.int .i64 x, .pointer (some ⟨b, 0, none⟩)] w (Ret (.bool (!p)) w) := by
  have HP := Lib.hid hp
  clear hp
  have c1 := B1.cell; have t1 := B1.lt
  go_enter Tryz.func69, Tryz.ntmps69
  go_wp2_with fail
  have hb0 := Below.refl w.heap.size w
  refine (HP.out _ hb0).mono ?_
  rintro e w' ⟨rfl, hb⟩
  replace hb := over hb0 hb
  go_wp2_with fail
  go_ret
  exact ⟨rfl, hb⟩
theorem rall_int (l : List Int) (a : Option Addr) (c : Nat) (W : World) (hR : RowAt W a 1 (l.map fun n => [.int .i64 n])) (f : Nat) (first cap : Array Value) (p : Int → Bool)
    (hf : ∀ args w, (callFunc f args).run Tryz.prog w = .ok (.enter f args) w) (hlen : l.length ≤ 1000)
    (hp : ∀ x ∈ l, ∀ w', Below W.heap.size W w' → Calls Tryz.prog f (first.push (.int .i64 x) ++ cap) w' (Ret (.bool (p x)) w')) :
    Calls Tryz.prog 39 #[.slice a l.length c, .func (.func f) first cap] W (Ret (.bool (l.all p)) W) := by
  have HP := Lib.hid hp
  have HR := Lib.hid hR
  have HF := Lib.hid hf
  clear hp hR hf
  go_enter Tryz.func39, Tryz.ntmps39
  go_wp2_with fail
  refine named1 (p := fun W => Calls _ _ _ W _) ?_
  intro w1 hb1 B1
  refine (contains_int l a c w1 (HR.out.later hb1) 69 #[] #[.pointer (some ⟨W.heap.size, 0, none⟩)] (fun x => !p x) (fun _ _ => by kernel_rfl) hlen ?_).mono ?_
  · intro x hx w' hb'
    exact rpass_int x _ w' f first cap (p x) (B1.later hb') HF.out (fun w'' hb'' => HP.out x hx w'' (over (over hb1 hb') hb''))
  rintro e w2 ⟨rfl, hb2⟩
  replace hb2 := over hb1 hb2
  clear hb1
  go_wp2_with fail
  go_ret
  exact ⟨ret_bool (not_any_not p l), hb2⟩
end Go.Proofs.YtingfmdbihbamaaGreat
end

section
/- Layer 3, the walks: a land is opened. -/
open Go.RowKit Go.Shelf
namespace Go.Proofs.YtingfmdbihbamaaGreat
open Go.Hill

def okr (L : Land) (ss ts : List Int) (k : Int) : Bool := (ss.all fun n => inB n 0 ((L.st.length : Int) - 1)) && ((ts.all fun n => inB n 0 L.sn.length) && inB k 0 ((L.cs.length : Int) - 1))
/-- It returns a land at work, or an error. -/
def RetOpen (q : LV) (L : Land) (ss ts : List Int) (k : Int) (w : World) (e : Ending) (w' : World) : Prop :=
  (okr L ss ts k = false ∧ Ret (.tuple #[.pointer none, .int .i64 2]) w e w') ∨
  (okr L ss ts k = true ∧ ∃ r : RV, e = .returned (.tuple #[.pointer (some ⟨r.bw, 0, none⟩), .int .i64 0]) ∧ Below w.heap.size w w' ∧ RelAt w' r q L ∧ r.n0 = w.heap.size)

theorem open_bad (q : LV) (L : Land) (v1 v2 : Value) (k : Int) (w : World) (hL : LandAt w q L) (hs : Small L) (hc : L.chk ≠ 0) : Calls Tryz.prog 18 #[landV q L, v1, v2, .int .i64 k] w (Ret (.tuple #[.pointer none, .int .i64 L.chk]) w) := by
  obtain ⟨c, hcv⟩ : ∃ c, c = L.chk := ⟨_, rfl⟩
  have HCall : Hid (∀ W, Below w.heap.size w W → Calls Tryz.prog 35 #[landV q L] W (Ret (.int .i64 c) W)) := fun W hW => by rw [hcv]; exact check_any q L W (hL.later hW) hs.l1 hs.l2 hs.l3 hs.l4 hs.l5
  rw [← hcv] at hc ⊢
  have hcb : (c != 0) = true := by simpa using hc
  clear hcv hL
  go_enter Tryz.func18, Tryz.ntmps18
  go_wp2_with fail
  refine named1 (p := fun W => Calls _ _ _ W _) ?_
  intro W hW B4
  refine (HCall.out W hW).mono ?_
  rintro e w1 ⟨rfl, hb1⟩
  have hb := over hW hb1
  clear hW hb1 B4
  go_wp2_with fail
  go_ret2
  exact ⟨rfl, hb⟩

theorem MapIs.later {W W' : World} {b c : Nat} {es : Array MapEntry} (h : MapIs W b es c) (hb : Below W.heap.size W W') : MapIs W' b es c := (hb.block b (Array.getElem?_eq_some_iff.1 h).1).trans h
theorem MapIs.own {W W' : World} {b c base size : Nat} {E : TypeId} {v : Value} {xs : List (List Value)} {es : Array MapEntry} (h : MapIs W b es c) (ho : Own W base E size v xs) (hg : W.grownBy W' v.ownBlock) : MapIs W' b es c :=
  (hg.block b (Array.getElem?_eq_some_iff.1 h).1 fun e => by
    obtain ⟨cur, hc⟩ := own_cells2 ho e.symm
    rw [show W.heap[b]? = _ from h] at hc; cases hc).trans h
theorem MapIs.but {W W' : World} {b g c : Nat} {T : TypeId} {cs : Array Value} {es : Array MapEntry} (h : MapIs W b es c) (hB : Box W g cs T) (hb : But g W W') : MapIs W' b es c :=
  (hb.block b fun e => by
    subst e
    have h1 : W.heap[b]? = some (.map es c) := h
    rw [show W.heap[b]? = _ from hB] at h1; cases h1).trans h
theorem heap_two (W : World) (o o' : Obj) : ((W.drew.alloc o).alloc o').heap[W.heap.size + 1]? = some o' := by
  have h := heap_alloc_new (W.drew.alloc o) o'
  rwa [World.size_alloc] at h
theorem elem_map : Elem Tryz.prog 122 127 1 8 := ⟨by kernel_rfl, by kernel_rfl⟩

set_option maxRecDepth 100000 in
set_option maxHeartbeats 4000000 in
theorem open_any (q : LV) (L : Land) (ss ts : List Int) (a1 a2 : Option Addr) (c1 c2 : Nat) (k : Int) (w : World) (hL : LandAt w q L) (hc : L.chk = 0) (h1 : IntsAt w a1 ss) (h2 : IntsAt w a2 ts) (l1 : ss.length ≤ 2) (l2 : ts.length ≤ 2) :
    Calls Tryz.prog 18 #[landV q L, .slice a1 ss.length c1, .slice a2 ts.length c2, .int .i64 k] w (RetOpen q L ss ts k w) := by
  have hs := small_of hc
  obtain ⟨b1, hb1⟩ : ∃ b, b = ss.all fun n => inB n 0 ((L.st.length : Int) - 1) := ⟨_, rfl⟩
  obtain ⟨b2, hb2⟩ : ∃ b, b = ts.all fun n => inB n 0 L.sn.length := ⟨_, rfl⟩
  obtain ⟨b3, hb3⟩ : ∃ b, b = inB k 0 ((L.cs.length : Int) - 1) := ⟨_, rfl⟩
  have HOk : Hid (okr L ss ts k = (b1 && (b2 && b3))) := by rw [hb1, hb2, hb3]; rfl
  have HC3 : Hid (∀ W, Calls Tryz.prog 38 #[.int .i64 k, .int .i64 0, .int .i64 ((L.cs.length : Int) - 1)] W (Ret (.bool b3) W)) := fun W => by rw [hb3]; exact rwithin_any _ _ _ _
  have HCall : Hid (∀ W, Below w.heap.size w W → Calls Tryz.prog 35 #[landV q L] W (Ret (.int .i64 0) W)) := fun W hW => by rw [← hc]; exact check_any q L W (hL.later hW) hs.l1 hs.l2 hs.l3 hs.l4 hs.l5
  have HL := Lib.hid hL
  have H1 := Lib.hid h1
  have H2 := Lib.hid h2
  have HS := Lib.hid hs
  have hl3 := hs.l3
  have HB1 := Lib.hid hb1
  have HB2 := Lib.hid hb2
  clear hL h1 h2 hc hs hb1 hb2 hb3
  go_enter Tryz.func18, Tryz.ntmps18
  go_wp2_with fail
  refine named1 (p := fun W => Calls _ _ _ W _) ?_
  intro W hW B4
  refine (HCall.out W hW).mono ?_
  rintro e w1 ⟨rfl, hb⟩
  replace hW := over hW hb
  (try clear c4 t4); replace B4 := B4.later hb; have c4 := B4.cell; have t4 := B4.lt
  clear hb HCall
  go_wp2_with fail
  refine named2 (p := fun W => Calls _ _ _ W _) ?_
  intro w2 hb B21 B11
  have HW1 : Hid (w.heap.size < w1.heap.size) := t4
  replace hW := over hW hb
  (try clear c4 t4); replace B4 := B4.later hb; have c4 := B4.cell; have t4 := B4.lt
  clear hb
  have HC1 : Hid (∀ W', Below w2.heap.size w2 W' → Calls Tryz.prog 39 #[.slice a1 ss.length c1, .func (.func 36) #[.pointer (some ⟨w1.heap.size, 0, none⟩)] #[]] W' (Ret (.bool b1) W')) := fun W' hb => by
    rw [HB1.out]
    exact rall_int ss a1 c1 W' ((H1.out.later hW).later hb) 36 #[.pointer (some ⟨w1.heap.size, 0, none⟩)] #[] _ (fun _ _ => by kernel_rfl) (by omega) fun x _ w' hb' => station_any x w' ((B21.later hb).later hb') HS.out.l1
  have HC2 : Hid (∀ W', Below w2.heap.size w2 W' → Calls Tryz.prog 39 #[.slice a2 ts.length c2, .func (.func 37) #[] #[.pointer (some ⟨w1.heap.size + 1, 0, none⟩)]] W' (Ret (.bool b2) W')) := fun W' hb => by
    rw [HB2.out]
    exact rall_int ts a2 c2 W' ((H2.out.later hW).later hb) 37 #[] #[.pointer (some ⟨w1.heap.size + 1, 0, none⟩)] _ (fun _ _ => by kernel_rfl) (by omega) fun x _ w' hb' => time_any x _ w' ((B11.later hb).later hb') ((B21.later hb).later hb')
  clear HB1 HB2 H1 H2
  have hw2 := Below.refl w2.heap.size w2
  refine (HC1.out _ hw2).mono ?_
  rintro e w3 ⟨rfl, hb⟩
  replace hW := over hW hb
  replace hw2 := over hw2 hb
  (try clear c4 t4 c21 t21 c11 t11); replace B4 := B4.later hb; replace B21 := B21.later hb; replace B11 := B11.later hb; have c4 := B4.cell; have t4 := B4.lt; have c21 := B21.cell; have t21 := B21.lt; have c11 := B11.cell; have t11 := B11.lt
  clear hb
  cases b1 with
  | false =>
      go_wp2_with fail
      go_ret2
      exact .inl ⟨by rw [HOk.out]; rfl, rfl, hW⟩
  | true =>
  go_wp2_with fail
  refine (HC2.out _ hw2).mono ?_
  rintro e w4 ⟨rfl, hb⟩
  replace hW := over hW hb
  replace hw2 := over hw2 hb
  (try clear c4 t4 c21 t21 c11 t11); replace B4 := B4.later hb; replace B21 := B21.later hb; replace B11 := B11.later hb; have c4 := B4.cell; have t4 := B4.lt; have c21 := B21.cell; have t21 := B21.lt; have c11 := B11.cell; have t11 := B11.lt
  clear hb
  cases b2 with
  | false =>
      go_wp2_with fail
      go_ret2
      exact .inl ⟨by rw [HOk.out]; rfl, rfl, hW⟩
  | true =>
  go_wp2_with fail
  refine (HC3.out _).mono ?_
  rintro e w5 ⟨rfl, hb⟩
  replace hW := over hW hb
  replace hw2 := over hw2 hb
  (try clear c4 t4 c21 t21 c11 t11); replace B4 := B4.later hb; replace B21 := B21.later hb; replace B11 := B11.later hb; have c4 := B4.cell; have t4 := B4.lt; have c21 := B21.cell; have t21 := B21.lt; have c11 := B11.cell; have t11 := B11.lt
  clear hb
  cases b3 with
  | false =>
      go_wp2_with fail
      go_ret2
      exact .inl ⟨by rw [HOk.out]; rfl, rfl, hW⟩
  | true =>
  have HOk2 : Hid (okr L ss ts k = true) := HOk.out
  clear HOk HC1 HC2 HC3
  go_wp2_with fail
  have hsz0 := hw2.size
  go_loopw [47] (fun i' wr => ∃ (n : Nat) (v : Value) (kn : List Nat), n ≤ L.cs.length ∧ i' = .int .i64 n ∧ kn.length = n ∧ Below w.heap.size w wr ∧ Box wr (w1.heap.size + 1) #[.pointer (some ⟨w1.heap.size, 0, none⟩)] 93 ∧ Box wr w1.heap.size (rel5 q L v) 124 ∧ Own wr w.heap.size 127 1 v (kn.map fun b => [.map (some b)]) ∧ kn.Nodup ∧ ∀ b ∈ kn, w.heap.size ≤ b ∧ MapIs wr b #[] 0) (fun i' _ => L.cs.length - (intOf i').toNat)
  case atStart => exact ⟨0, _, [], Nat.zero_le _, rfl, rfl, hW, B11, B21, Own.nil _ _ _ _, List.nodup_nil, by simp⟩
  case round =>
    obtain ⟨n, v, kn, hn, rfl, hkn, hWr, D11, D21, hO, hnd, hm⟩ := hrel
    clear B4 c4 t4 B11 c11 t11 B21 c21 t21
    have HO := Lib.hid hO
    have HM := Lib.hid hm
    have HNd := Lib.hid hnd
    have HKn := Lib.hid hkn
    clear hO hm hnd hkn
    have c11 := D11.cell
    have t11 := D11.lt
    have c21 := D21.cell
    have t21 := D21.lt
    have f21 := D21.frozen
    by_cases hlt : n < L.cs.length
    · have r1 : (0 : Int) ≤ (n : Int) := by omega
      have r2 : (n : Int) < (L.cs.length : Int) := by omega
      have hmm := @run_makeMap Tryz.prog
      obtain ⟨i0, z0, hi0, hz0, hz1, hz2, hz3⟩ := elem_map.get
      have hu := elem_map.ht
      have hxy : n + 1 ≤ maxLen := by unfold maxLen; omega
      have hxz : (n + 1) * 8 ≤ 140737488355328 := by omega
      have hszr := hWr.size
      have HS0 : Hid (∀ A B : World, Below wr.heap.size wr A → A.grownBy B v.ownBlock → B.cell? ⟨w1.heap.size + 1, 0, none⟩ = some (.pointer (some ⟨w1.heap.size, 0, none⟩))) := fun A B hA hg => ((D11.later hA).keep (KeepT.grown (HO.out.later hA) (by decide) hg)).cell 0
      have HS1 : Hid (∀ A B : World, Below wr.heap.size wr A → A.grownBy B v.ownBlock → Box B w1.heap.size (rel5 q L v) 124) := fun A B hA hg => (D21.later hA).keep (KeepT.grown (HO.out.later hA) (by decide) hg)
      go_upto_region 11 with fail
      refine wp_region_noPanic ?_
      refine wp_region_held_drew (S := (fun w' => w'.cell? ⟨w1.heap.size + 1, 0, none⟩ = some (.pointer (some ⟨w1.heap.size, 0, none⟩)))) (by kernel_rfl) (by (try dsimp only); go_keep) (fun hHeld => ?_)
      refine wpAnyH_take (i := 0) (oi := _) (v := ?_) rfl (by kernel_rfl) (by kernel_rfl) (by kernel_rfl) (fun _ _ _ h => h) (Or.inl ⟨by rfl, ?_⟩) (by assumption) ?_
      rotate_left
      · (intro w hSw; (try dsimp only at hSw); go_simp; try with_reducible rfl)
      (try dsimp only); (try simp only [Act.put]); (try simp only [List.setIfInBounds_toArray]); (try simp only [List.set_cons_succ]); (try simp only [List.set_cons_zero])
      refine wpAnyH_take (i := 1) (oi := _) (v := ?_) rfl (by kernel_rfl) (by kernel_rfl) (by kernel_rfl) (fun _ _ _ h => h) (Or.inl ⟨by rfl, ?_⟩) (by assumption) ?_
      rotate_left
      · (intro w hSw; (try dsimp only at hSw); go_simp; try with_reducible rfl)
      (try dsimp only); (try simp only [Act.put]); (try simp only [List.setIfInBounds_toArray]); (try simp only [List.set_cons_succ]); (try simp only [List.set_cons_zero])
      refine wpAnyH_take (i := 2) (oi := _) (v := ?_) rfl (by kernel_rfl) (by kernel_rfl) (by kernel_rfl) (fun _ _ _ h => h) (Or.inl ⟨by rfl, ?_⟩) (by assumption) ?_
      rotate_left
      · (intro w hSw; (try dsimp only at hSw); go_simp; try with_reducible rfl)
      (try dsimp only); (try simp only [Act.put]); (try simp only [List.setIfInBounds_toArray]); (try simp only [List.set_cons_succ]); (try simp only [List.set_cons_zero])
      refine wpAnyH_take (i := 3) (oi := _) (v := ?_) rfl (by kernel_rfl) (by kernel_rfl) (by kernel_rfl) (fun _ _ _ h => h) (Or.inl ⟨by rfl, ?_⟩) (by assumption) ?_
      rotate_left
      · (intro w hSw; (try dsimp only at hSw); go_simp; try with_reducible rfl)
      (try dsimp only); (try simp only [Act.put]); (try simp only [List.setIfInBounds_toArray]); (try simp only [List.set_cons_succ]); (try simp only [List.set_cons_zero])
      refine wpAnyH_ready (rs := [4, 5]) (by kernel_rfl) (by simp) ?_
      refine AllReadyH.cons (o := _) rfl (fun K hK => ?_) (AllReadyH.cons (o := _) rfl (fun K hK => ?_) AllReadyH.nil)
      · go_simp
        refine hK.out _ _ (by (try dsimp only); assumption) (fun hHeld => ?_)
        clear hK K
        (try dsimp only); (try simp only [Act.put]); (try simp only [List.setIfInBounds_toArray]); (try simp only [List.set_cons_succ]); (try simp only [List.set_cons_zero])
        refine wpAnyH_ready (rs := [5]) (by kernel_rfl) (by simp) ?_
        refine AllReadyH.cons (o := _) rfl (fun K hK => ?_) AllReadyH.nil
        go_simp
        refine hK.out _ _ (by (try dsimp only); go_keep) (fun hHeld => ?_)
        clear hK K
        (try dsimp only); (try simp only [Act.put]); (try simp only [List.setIfInBounds_toArray]); (try simp only [List.set_cons_succ]); (try simp only [List.set_cons_zero])
        refine wpAnyH_ready (rs := [6]) (by kernel_rfl) (by simp) ?_
        refine AllReadyH.cons (o := _) rfl (fun K hK => ?_) AllReadyH.nil
        go_simp
        refine hK.out _ _ (by (try dsimp only); go_keep) (fun hHeld => ?_)
        clear hK K
        (try dsimp only); (try simp only [Act.put]); (try simp only [List.setIfInBounds_toArray]); (try simp only [List.set_cons_succ]); (try simp only [List.set_cons_zero])
        refine wpAnyH_ready (rs := [7]) (by kernel_rfl) (by simp) ?_
        refine AllReadyH.cons (o := _) rfl (fun K hK => ?_) AllReadyH.nil
        refine step_append_lies _ (by rfl) _ _ _ (by rfl) w.heap.size 127 i0 z0 1 8 hu hi0 hz0 hz1 hz2 hz3 (by omega) v n (kn.map fun b => [Value.map (some b)]).flatten (by rfl) (by exact own_rows (HO.out.later (show Below wr.heap.size wr _ from (by repeat (first | exact Below.refl _ _ | refine al ?_ _ | refine Below.drew ?_ | refine sc ?_ (by simp) _)))) (by simp [HKn.out])) ⟨wr.heap.size + 1, 0, none⟩ 1 1 [.map (some wr.heap.size)] (by rfl) (by rfl) (World.news_of_block (cs := #[.map (some wr.heap.size)]) (t := 127) (fr := (0, 0)) (heap_two wr _ _)) (by simp [Value.oneCell']) (by omega) hxy hxz (by simp; omega) (wr.heap.size + 2) (by simp) ?_
        intro g3 cap3 w6 hown6 hgrow hat hlt6
        have D6 := HS1.out _ _ (by repeat (first | exact Below.refl _ _ | refine al ?_ _ | refine Below.drew ?_ | refine sc ?_ (by simp) _)) hgrow
        have c6 := D6.cell
        have t6 := D6.lt
        have f6 := D6.frozen
        refine hK.out _ _ (by (try dsimp only); exact HS0.out _ _ (by repeat (first | exact Below.refl _ _ | refine al ?_ _ | refine Below.drew ?_ | refine sc ?_ (by simp) _)) hgrow) (fun hHeld => ?_)
        clear hK K
        (try dsimp only); (try simp only [Act.put]); (try simp only [List.setIfInBounds_toArray]); (try simp only [List.set_cons_succ]); (try simp only [List.set_cons_zero])
        refine wpAnyH_ready (rs := [8]) (by kernel_rfl) (by simp) ?_
        refine AllReadyH.cons (o := _) rfl (fun K hK => ?_) AllReadyH.nil
        go_simp
        refine hK.out _ _ (by (try dsimp only); assumption) (fun hHeld => ?_)
        clear hK K
        (try dsimp only); (try simp only [Act.put]); (try simp only [List.setIfInBounds_toArray]); (try simp only [List.set_cons_succ]); (try simp only [List.set_cons_zero])
        refine wpAnyH_ready (rs := [9]) (by kernel_rfl) (by simp) ?_
        refine AllReadyH.cons (o := _) rfl (fun K hK => ?_) AllReadyH.nil
        go_simp
        refine hK.out _ _ (by (try dsimp only); assumption) (fun hHeld => ?_)
        clear hK K
        (try dsimp only); (try simp only [Act.put]); (try simp only [List.setIfInBounds_toArray]); (try simp only [List.set_cons_succ]); (try simp only [List.set_cons_zero])
        refine wpAnyH_ready (rs := [10]) (by kernel_rfl) (by simp) ?_
        refine AllReadyH.cons (o := _) rfl (fun K hK => ?_) AllReadyH.nil
        go_simp
        refine hK.out _ _ (by (try dsimp only); go_keep) (fun hHeld => ?_)
        clear hK K
        (try dsimp only); (try simp only [Act.put]); (try simp only [List.setIfInBounds_toArray]); (try simp only [List.set_cons_succ]); (try simp only [List.set_cons_zero])
        refine wpAnyH_done (by kernel_rfl) ?_ _
        refine NoPanic.normal ?_
        repeat (clear hHeld)
        have hBA : Below wr.heap.size wr ((wr.alloc (.map #[] 0)).alloc (.cells #[.map (some wr.heap.size)] 127)).drew := (by repeat (first | exact Below.refl _ _ | refine al ?_ _ | refine Below.drew ?_ | refine sc ?_ (by simp) _))
        have hOA := HO.out.later hBA
        have hB6 := below_grown hgrow (Nat.le_trans hszr hBA.size) fun kk hk => (hOA.1.lt kk hk).1
        have hbut := setCell_but w6 w1.heap.size 4 (.slice (some ⟨g3, 0, none⟩) (n + 1) cap3)
        have hle1 : w.heap.size ≤ w1.heap.size := Nat.le_of_lt HW1.out
        have hW3 := Lib.hid (hbut.below ((over hWr hBA).trans hB6) hle1)
        have hK6 := KeepT.grown (E := 93) hOA (by decide) hgrow
        have hD11 := Lib.hid (hbut.box ((D11.later hBA).keep hK6) (by omega))
        have hD21 := Lib.hid (setCell_box D6 4 (.slice (some ⟨g3, 0, none⟩) (n + 1) cap3))
        have hOwn := Lib.hid ((own_snoc hOA (m := n) (by simp [HKn.out]) hown6 rfl).keep (KeepT.but D6 (by decide) hbut))
        have hMp : Hid (∀ b ∈ kn ++ [wr.heap.size], w.heap.size ≤ b ∧ MapIs (w6.setCell ⟨w1.heap.size, 4, none⟩ (.slice (some ⟨g3, 0, none⟩) (n + 1) cap3)) b #[] 0) := fun b hb => by
          rcases List.mem_append.1 hb with hb | hb
          · obtain ⟨h1, h2⟩ := HM.out b hb
            exact ⟨h1, ((h2.later hBA).own hOA hgrow).but D6 hbut⟩
          · simp at hb; subst hb
            have h2 : MapIs ((wr.alloc (.map #[] 0)).alloc (.cells #[.map (some wr.heap.size)] 127)).drew wr.heap.size #[] 0 := by
              have h3 : MapIs (wr.alloc (.map #[] 0)) wr.heap.size #[] 0 := World.alloc_heap_new wr _
              exact h3.later (by repeat (first | exact Below.refl _ _ | refine al ?_ _ | refine Below.drew ?_ | refine sc ?_ (by simp) _))
            exact ⟨hszr, (h2.own hOA hgrow).but D6 hbut⟩
        have hNd : Hid (kn ++ [wr.heap.size]).Nodup := by
          refine List.nodup_append.2 ⟨HNd.out, by simp, fun a ha b hb e => ?_⟩
          simp at hb; subst hb; subst e
          have := (Array.getElem?_eq_some_iff.1 (HM.out _ ha).2).1
          omega
        clear hBA hOA hB6 hbut hK6 D6 c6 t6 f6 D11 D21 c11 t11 c21 t21 f21 HS0 HS1 hown6 hgrow hat hlt6 hmm hi0 hz0 hz1 hz2 hz3 hu hxy hxz
        go_wp2_with fail
        go_roundw
        case rel => exact ⟨n + 1, _, kn ++ [wr.heap.size], by omega, by go_num, by simp [HKn.out], hW3.out, hD11.out, hD21.out, by rw [List.map_append]; exact hOwn.out, hNd.out, hMp.out⟩
        case measure => simp [intOf]; omega
      · go_simp
        refine hK.out _ _ (by (try dsimp only); go_keep) (fun hHeld => ?_)
        clear hK K
        (try dsimp only); (try simp only [Act.put]); (try simp only [List.setIfInBounds_toArray]); (try simp only [List.set_cons_succ]); (try simp only [List.set_cons_zero])
        refine wpAnyH_ready (rs := [4, 6]) (by kernel_rfl) (by simp) ?_
        refine AllReadyH.cons (o := _) rfl (fun K hK => ?_) (AllReadyH.cons (o := _) rfl (fun K hK => ?_) AllReadyH.nil)
        · go_simp
          refine hK.out _ _ (by (try dsimp only); assumption) (fun hHeld => ?_)
          clear hK K
          (try dsimp only); (try simp only [Act.put]); (try simp only [List.setIfInBounds_toArray]); (try simp only [List.set_cons_succ]); (try simp only [List.set_cons_zero])
          refine wpAnyH_ready (rs := [6]) (by kernel_rfl) (by simp) ?_
          refine AllReadyH.cons (o := _) rfl (fun K hK => ?_) AllReadyH.nil
          go_simp
          refine hK.out _ _ (by (try dsimp only); go_keep) (fun hHeld => ?_)
          clear hK K
          (try dsimp only); (try simp only [Act.put]); (try simp only [List.setIfInBounds_toArray]); (try simp only [List.set_cons_succ]); (try simp only [List.set_cons_zero])
          refine wpAnyH_ready (rs := [7]) (by kernel_rfl) (by simp) ?_
          refine AllReadyH.cons (o := _) rfl (fun K hK => ?_) AllReadyH.nil
          refine step_append_lies _ (by rfl) _ _ _ (by rfl) w.heap.size 127 i0 z0 1 8 hu hi0 hz0 hz1 hz2 hz3 (by omega) v n (kn.map fun b => [Value.map (some b)]).flatten (by rfl) (by exact own_rows (HO.out.later (show Below wr.heap.size wr _ from (by repeat (first | exact Below.refl _ _ | refine al ?_ _ | refine Below.drew ?_ | refine sc ?_ (by simp) _)))) (by simp [HKn.out])) ⟨wr.heap.size + 1, 0, none⟩ 1 1 [.map (some wr.heap.size)] (by rfl) (by rfl) (World.news_of_block (cs := #[.map (some wr.heap.size)]) (t := 127) (fr := (0, 0)) (heap_two wr _ _)) (by simp [Value.oneCell']) (by omega) hxy hxz (by simp; omega) (wr.heap.size + 2) (by simp) ?_
          intro g3 cap3 w6 hown6 hgrow hat hlt6
          have D6 := HS1.out _ _ (by repeat (first | exact Below.refl _ _ | refine al ?_ _ | refine Below.drew ?_ | refine sc ?_ (by simp) _)) hgrow
          have c6 := D6.cell
          have t6 := D6.lt
          have f6 := D6.frozen
          refine hK.out _ _ (by (try dsimp only); exact HS0.out _ _ (by repeat (first | exact Below.refl _ _ | refine al ?_ _ | refine Below.drew ?_ | refine sc ?_ (by simp) _)) hgrow) (fun hHeld => ?_)
          clear hK K
          (try dsimp only); (try simp only [Act.put]); (try simp only [List.setIfInBounds_toArray]); (try simp only [List.set_cons_succ]); (try simp only [List.set_cons_zero])
          refine wpAnyH_ready (rs := [8]) (by kernel_rfl) (by simp) ?_
          refine AllReadyH.cons (o := _) rfl (fun K hK => ?_) AllReadyH.nil
          go_simp
          refine hK.out _ _ (by (try dsimp only); assumption) (fun hHeld => ?_)
          clear hK K
          (try dsimp only); (try simp only [Act.put]); (try simp only [List.setIfInBounds_toArray]); (try simp only [List.set_cons_succ]); (try simp only [List.set_cons_zero])
          refine wpAnyH_ready (rs := [9]) (by kernel_rfl) (by simp) ?_
          refine AllReadyH.cons (o := _) rfl (fun K hK => ?_) AllReadyH.nil
          go_simp
          refine hK.out _ _ (by (try dsimp only); assumption) (fun hHeld => ?_)
          clear hK K
          (try dsimp only); (try simp only [Act.put]); (try simp only [List.setIfInBounds_toArray]); (try simp only [List.set_cons_succ]); (try simp only [List.set_cons_zero])
          refine wpAnyH_ready (rs := [10]) (by kernel_rfl) (by simp) ?_
          refine AllReadyH.cons (o := _) rfl (fun K hK => ?_) AllReadyH.nil
          go_simp
          refine hK.out _ _ (by (try dsimp only); go_keep) (fun hHeld => ?_)
          clear hK K
          (try dsimp only); (try simp only [Act.put]); (try simp only [List.setIfInBounds_toArray]); (try simp only [List.set_cons_succ]); (try simp only [List.set_cons_zero])
          refine wpAnyH_done (by kernel_rfl) ?_ _
          refine NoPanic.normal ?_
          repeat (clear hHeld)
          have hBA : Below wr.heap.size wr ((wr.alloc (.map #[] 0)).alloc (.cells #[.map (some wr.heap.size)] 127)).drew := (by repeat (first | exact Below.refl _ _ | refine al ?_ _ | refine Below.drew ?_ | refine sc ?_ (by simp) _))
          have hOA := HO.out.later hBA
          have hB6 := below_grown hgrow (Nat.le_trans hszr hBA.size) fun kk hk => (hOA.1.lt kk hk).1
          have hbut := setCell_but w6 w1.heap.size 4 (.slice (some ⟨g3, 0, none⟩) (n + 1) cap3)
          have hle1 : w.heap.size ≤ w1.heap.size := Nat.le_of_lt HW1.out
          have hW3 := Lib.hid (hbut.below ((over hWr hBA).trans hB6) hle1)
          have hK6 := KeepT.grown (E := 93) hOA (by decide) hgrow
          have hD11 := Lib.hid (hbut.box ((D11.later hBA).keep hK6) (by omega))
          have hD21 := Lib.hid (setCell_box D6 4 (.slice (some ⟨g3, 0, none⟩) (n + 1) cap3))
          have hOwn := Lib.hid ((own_snoc hOA (m := n) (by simp [HKn.out]) hown6 rfl).keep (KeepT.but D6 (by decide) hbut))
          have hMp : Hid (∀ b ∈ kn ++ [wr.heap.size], w.heap.size ≤ b ∧ MapIs (w6.setCell ⟨w1.heap.size, 4, none⟩ (.slice (some ⟨g3, 0, none⟩) (n + 1) cap3)) b #[] 0) := fun b hb => by
            rcases List.mem_append.1 hb with hb | hb
            · obtain ⟨h1, h2⟩ := HM.out b hb
              exact ⟨h1, ((h2.later hBA).own hOA hgrow).but D6 hbut⟩
            · simp at hb; subst hb
              have h2 : MapIs ((wr.alloc (.map #[] 0)).alloc (.cells #[.map (some wr.heap.size)] 127)).drew wr.heap.size #[] 0 := by
                have h3 : MapIs (wr.alloc (.map #[] 0)) wr.heap.size #[] 0 := World.alloc_heap_new wr _
                exact h3.later (by repeat (first | exact Below.refl _ _ | refine al ?_ _ | refine Below.drew ?_ | refine sc ?_ (by simp) _))
              exact ⟨hszr, (h2.own hOA hgrow).but D6 hbut⟩
          have hNd : Hid (kn ++ [wr.heap.size]).Nodup := by
            refine List.nodup_append.2 ⟨HNd.out, by simp, fun a ha b hb e => ?_⟩
            simp at hb; subst hb; subst e
            have := (Array.getElem?_eq_some_iff.1 (HM.out _ ha).2).1
            omega
          clear hBA hOA hB6 hbut hK6 D6 c6 t6 f6 D11 D21 c11 t11 c21 t21 f21 HS0 HS1 hown6 hgrow hat hlt6 hmm hi0 hz0 hz1 hz2 hz3 hu hxy hxz
          go_wp2_with fail
          go_roundw
          case rel => exact ⟨n + 1, _, kn ++ [wr.heap.size], by omega, by go_num, by simp [HKn.out], hW3.out, hD11.out, hD21.out, by rw [List.map_append]; exact hOwn.out, hNd.out, hMp.out⟩
          case measure => simp [intOf]; omega
        · go_simp
          refine hK.out _ _ (by (try dsimp only); go_keep) (fun hHeld => ?_)
          clear hK K
          (try dsimp only); (try simp only [Act.put]); (try simp only [List.setIfInBounds_toArray]); (try simp only [List.set_cons_succ]); (try simp only [List.set_cons_zero])
          refine wpAnyH_ready (rs := [4]) (by kernel_rfl) (by simp) ?_
          refine AllReadyH.cons (o := _) rfl (fun K hK => ?_) AllReadyH.nil
          go_simp
          refine hK.out _ _ (by (try dsimp only); assumption) (fun hHeld => ?_)
          clear hK K
          (try dsimp only); (try simp only [Act.put]); (try simp only [List.setIfInBounds_toArray]); (try simp only [List.set_cons_succ]); (try simp only [List.set_cons_zero])
          refine wpAnyH_ready (rs := [7]) (by kernel_rfl) (by simp) ?_
          refine AllReadyH.cons (o := _) rfl (fun K hK => ?_) AllReadyH.nil
          refine step_append_lies _ (by rfl) _ _ _ (by rfl) w.heap.size 127 i0 z0 1 8 hu hi0 hz0 hz1 hz2 hz3 (by omega) v n (kn.map fun b => [Value.map (some b)]).flatten (by rfl) (by exact own_rows (HO.out.later (show Below wr.heap.size wr _ from (by repeat (first | exact Below.refl _ _ | refine al ?_ _ | refine Below.drew ?_ | refine sc ?_ (by simp) _)))) (by simp [HKn.out])) ⟨wr.heap.size + 1, 0, none⟩ 1 1 [.map (some wr.heap.size)] (by rfl) (by rfl) (World.news_of_block (cs := #[.map (some wr.heap.size)]) (t := 127) (fr := (0, 0)) (heap_two wr _ _)) (by simp [Value.oneCell']) (by omega) hxy hxz (by simp; omega) (wr.heap.size + 2) (by simp) ?_
          intro g3 cap3 w6 hown6 hgrow hat hlt6
          have D6 := HS1.out _ _ (by repeat (first | exact Below.refl _ _ | refine al ?_ _ | refine Below.drew ?_ | refine sc ?_ (by simp) _)) hgrow
          have c6 := D6.cell
          have t6 := D6.lt
          have f6 := D6.frozen
          refine hK.out _ _ (by (try dsimp only); exact HS0.out _ _ (by repeat (first | exact Below.refl _ _ | refine al ?_ _ | refine Below.drew ?_ | refine sc ?_ (by simp) _)) hgrow) (fun hHeld => ?_)
          clear hK K
          (try dsimp only); (try simp only [Act.put]); (try simp only [List.setIfInBounds_toArray]); (try simp only [List.set_cons_succ]); (try simp only [List.set_cons_zero])
          refine wpAnyH_ready (rs := [8]) (by kernel_rfl) (by simp) ?_
          refine AllReadyH.cons (o := _) rfl (fun K hK => ?_) AllReadyH.nil
          go_simp
          refine hK.out _ _ (by (try dsimp only); assumption) (fun hHeld => ?_)
          clear hK K
          (try dsimp only); (try simp only [Act.put]); (try simp only [List.setIfInBounds_toArray]); (try simp only [List.set_cons_succ]); (try simp only [List.set_cons_zero])
          refine wpAnyH_ready (rs := [9]) (by kernel_rfl) (by simp) ?_
          refine AllReadyH.cons (o := _) rfl (fun K hK => ?_) AllReadyH.nil
          go_simp
          refine hK.out _ _ (by (try dsimp only); assumption) (fun hHeld => ?_)
          clear hK K
          (try dsimp only); (try simp only [Act.put]); (try simp only [List.setIfInBounds_toArray]); (try simp only [List.set_cons_succ]); (try simp only [List.set_cons_zero])
          refine wpAnyH_ready (rs := [10]) (by kernel_rfl) (by simp) ?_
          refine AllReadyH.cons (o := _) rfl (fun K hK => ?_) AllReadyH.nil
          go_simp
          refine hK.out _ _ (by (try dsimp only); go_keep) (fun hHeld => ?_)
          clear hK K
          (try dsimp only); (try simp only [Act.put]); (try simp only [List.setIfInBounds_toArray]); (try simp only [List.set_cons_succ]); (try simp only [List.set_cons_zero])
          refine wpAnyH_done (by kernel_rfl) ?_ _
          refine NoPanic.normal ?_
          repeat (clear hHeld)
          have hBA : Below wr.heap.size wr ((wr.alloc (.map #[] 0)).alloc (.cells #[.map (some wr.heap.size)] 127)).drew := (by repeat (first | exact Below.refl _ _ | refine al ?_ _ | refine Below.drew ?_ | refine sc ?_ (by simp) _))
          have hOA := HO.out.later hBA
          have hB6 := below_grown hgrow (Nat.le_trans hszr hBA.size) fun kk hk => (hOA.1.lt kk hk).1
          have hbut := setCell_but w6 w1.heap.size 4 (.slice (some ⟨g3, 0, none⟩) (n + 1) cap3)
          have hle1 : w.heap.size ≤ w1.heap.size := Nat.le_of_lt HW1.out
          have hW3 := Lib.hid (hbut.below ((over hWr hBA).trans hB6) hle1)
          have hK6 := KeepT.grown (E := 93) hOA (by decide) hgrow
          have hD11 := Lib.hid (hbut.box ((D11.later hBA).keep hK6) (by omega))
          have hD21 := Lib.hid (setCell_box D6 4 (.slice (some ⟨g3, 0, none⟩) (n + 1) cap3))
          have hOwn := Lib.hid ((own_snoc hOA (m := n) (by simp [HKn.out]) hown6 rfl).keep (KeepT.but D6 (by decide) hbut))
          have hMp : Hid (∀ b ∈ kn ++ [wr.heap.size], w.heap.size ≤ b ∧ MapIs (w6.setCell ⟨w1.heap.size, 4, none⟩ (.slice (some ⟨g3, 0, none⟩) (n + 1) cap3)) b #[] 0) := fun b hb => by
            rcases List.mem_append.1 hb with hb | hb
            · obtain ⟨h1, h2⟩ := HM.out b hb
              exact ⟨h1, ((h2.later hBA).own hOA hgrow).but D6 hbut⟩
            · simp at hb; subst hb
              have h2 : MapIs ((wr.alloc (.map #[] 0)).alloc (.cells #[.map (some wr.heap.size)] 127)).drew wr.heap.size #[] 0 := by
                have h3 : MapIs (wr.alloc (.map #[] 0)) wr.heap.size #[] 0 := World.alloc_heap_new wr _
                exact h3.later (by repeat (first | exact Below.refl _ _ | refine al ?_ _ | refine Below.drew ?_ | refine sc ?_ (by simp) _))
              exact ⟨hszr, (h2.own hOA hgrow).but D6 hbut⟩
          have hNd : Hid (kn ++ [wr.heap.size]).Nodup := by
            refine List.nodup_append.2 ⟨HNd.out, by simp, fun a ha b hb e => ?_⟩
            simp at hb; subst hb; subst e
            have := (Array.getElem?_eq_some_iff.1 (HM.out _ ha).2).1
            omega
          clear hBA hOA hB6 hbut hK6 D6 c6 t6 f6 D11 D21 c11 t11 c21 t21 f21 HS0 HS1 hown6 hgrow hat hlt6 hmm hi0 hz0 hz1 hz2 hz3 hu hxy hxz
          go_wp2_with fail
          go_roundw
          case rel => exact ⟨n + 1, _, kn ++ [wr.heap.size], by omega, by go_num, by simp [HKn.out], hW3.out, hD11.out, hD21.out, by rw [List.map_append]; exact hOwn.out, hNd.out, hMp.out⟩
          case measure => simp [intOf]; omega
    · obtain rfl : n = L.cs.length := by omega
      have hL := HL.out.later hWr
      obtain ⟨ra, rc, rfl, _, hr⟩ := HO.out.row
      have hv : (kn.map fun b => [Value.map (some b)]).length = L.cs.length := by simp [HKn.out]
      rw [hv] at D21
      have HR := Lib.hid (show RelAt wr ⟨w1.heap.size, w.heap.size, ra, rc, kn⟩ q L from ⟨D21, hL, hr, HKn.out, HNd.out, fun j bk hj => by
        obtain ⟨h1, h2⟩ := HM.out bk (List.mem_of_getElem? hj)
        exact ⟨h1, #[], 0, h2, fun e he => by simp at he, fun e he => by simp at he⟩⟩)
      clear hL hr hv HO HM HNd HKn c21 t21 f21 D21 hn hlt
      go_wp2_with fail
      go_ret2
      exact .inr ⟨HOk2.out, _, rfl, hWr, HR.out, rfl⟩
end Go.Proofs.YtingfmdbihbamaaGreat
end

section
/- Layer 3, the walks: to whom a station can flash, as it is known or found. -/
open Go.RowKit Go.Shelf
namespace Go.Proofs.YtingfmdbihbamaaGreat
open Go.Hill

def partN (l : List Int) (n k : Nat) : Nat := bitN (fun j => (l.take k).contains (j : Int)) n
theorem bitN_none {p : Nat → Bool} {n : Nat} (h : ∀ i, i < n → p i = false) : bitN p n = 0 := by
  refine Nat.eq_of_testBit_eq fun i => ?_
  rw [bitN_test, Nat.zero_testBit]
  by_cases hi : i < n
  · rw [h i hi]; simp
  · simp [hi]
theorem partN_zero (l : List Int) (n : Nat) : partN l n 0 = 0 := bitN_none fun i _ => by simp
theorem partN_succ {l : List Int} {n k x : Nat} (hx : l[k]? = some (x : Int)) (hn : x < n) : partN l n k ||| 2 ^ x = partN l n (k + 1) := by
  unfold partN
  rw [bitN_or hn]
  refine bitN_congr fun i _ => ?_
  rw [List.take_add_one, hx]
  rw [Bool.eq_iff_iff]
  simp only [Bool.or_eq_true, List.contains_iff_mem, List.mem_append, Option.toList_some, List.mem_singleton, beq_iff_eq]
  exact or_congr Iff.rfl ⟨fun h => by omega, fun h => by omega⟩
theorem partN_all (p : Nat → Bool) (n : Nat) : partN (sel p n) n (sel p n).length = bitN p n := by
  unfold partN
  refine bitN_congr fun i hi => ?_
  rw [List.take_length, sel_contains]
  simp [hi]
theorem partN_lt (l : List Int) {n : Nat} (hn : n ≤ 6) (k : Nat) : partN l n k < 64 := Nat.lt_of_lt_of_le (bitN_lt _ _) (Nat.pow_le_pow_right (n := 2) (by omega) hn)

def rchSp (l : List Int) (f : Value → Value) : Fat.Spec := fun v _ _ w => ∃ a c, v = f (.slice a l.length c) ∧ IntsAt w a l
theorem rchSp_lasting (l : List Int) (f : Value → Value) : Fat.Lasting (rchSp l f) := fun _ _ _ _ _ hb _ ⟨a, c, h1, h2⟩ => ⟨a, c, h1, RowAt.later h2 hb⟩
theorem st_six {L : Land} (h : L.chk = 0) : L.st.length ≤ 6 ∧ 0 < L.st.length ∧ L.sn.length ≤ 12 ∧ 0 < L.sn.length ∧ L.cs.length ≤ 4 ∧ 0 < L.cs.length := by
  unfold Land.chk at h
  split at h
  · omega
  · rename_i h1
    unfold Land.lim at h1
    split at h
    · omega
    · rename_i h2
      unfold Land.arg at h2
      simp only [Bool.or_eq_true, not_or, decide_eq_true_eq, beq_iff_eq] at h1 h2
      omega
theorem rch_ok {L : Land} {i k t : Nat} (hc : L.chk = 0) (hi : i < L.st.length) (hk : k < L.cs.length) (ht : t < L.sn.length) : Land.rchE L i k t = (L.rch i k t, 0) := by
  unfold Land.rchE
  rw [if_pos hc]
  have h : Land.ask2 L i i k t = 6 := by
    unfold Land.ask2 askd
    rw [if_pos (by simp [inB]; omega), if_pos rfl]
  rw [h, if_neg (by decide)]
  simp
theorem rch_bd {L : Land} {i k t : Nat} {x : Int} (h : x ∈ L.rch i k t) : ∃ n : Nat, x = n ∧ n < L.st.length := by
  obtain ⟨n, h1, _, h2⟩ := sel_mem.1 h
  exact ⟨n, h2, h1⟩
set_option maxRecDepth 100000 in
set_option maxHeartbeats 4000000 in
theorem from_any (r : RV) (q : LV) (L : Land) (k i t : Nat) (w : World) (hr : RelAt w r q L) (hc : L.chk = 0) (hi : i < L.st.length) (hk : k < L.cs.length) (ht : t < L.sn.length) :
    Calls Tryz.prog 40 #[.pointer (some ⟨r.bw, 0, none⟩), .int .i64 k, pairV i t] w (RetR (setV L i k t) r q L w) := by
  obtain ⟨bk, hbk⟩ : ∃ bk, r.kn[k]? = some bk := ⟨r.kn[k]'(by rw [hr.kn.len]; exact hk), by simp⟩
  obtain ⟨hn0, es, clock, hm, hp, hes⟩ := hr.kn.has k bk hbk
  obtain ⟨kb, ko, hka, hKC⟩ := hr.row.at (k := k) (by rw [hr.kn.len]; exact hk)
  have e0 : w.cell? ⟨kb, ko + k, none⟩ = some (.map (some bk)) := cells_one (f := fun b => Value.map (some b)) hKC hbk
  have y0 := block_lt_of_cell e0
  have HR := Lib.hid hr
  have HM := Lib.hid hm
  have HP := Lib.hid hp
  have HE := Lib.hid hes
  have HBk := Lib.hid hbk
  have B1 := hr.box
  simp only [relc, rel5] at B1
  rw [hka] at B1
  have hl := look_spot Tryz.underlying127 (z := .int .u64 0) (fun W => by kernel_rfl) hp i t
  have r1 : (0 : Int) ≤ (k : Int) := by omega
  have r2 : (k : Int) < (L.cs.length : Int) := by omega
  clear hm hp hes hKC hbk
  rcases hl with ⟨hlook, hfresh⟩ | ⟨e, he, hkey, hlook⟩
  case inr =>
    rw [HE.out e he i t hkey] at hlook
    have HL := Lib.hid hlook
    clear hlook he hkey HE hr
    go_enter Tryz.func40, Tryz.ntmps40
    go_wp2_with fail
    refine named1 (p := Code.wp _ _ _ _) ?_
    intro W hW B5
    (try clear c1 t1); replace B1 := B1.later hW; have c1 := B1.cell; have t1 := B1.lt
    have c5 := B5.cell; have t5 := B5.lt
    replace e0 := (hW.cell (p := ⟨kb, ko + k, none⟩) y0).trans e0
    replace y0 := block_lt_of_cell e0
    have hlook : ∀ (d : Nat) (os : Array Obj), (Instr.lookup 127 (.map (some bk)) (pairV i t) true).run Tryz.prog (Sort.grow (redrawn W d) os) = .ok (.tuple #[setV L i k t, .bool true]) (Sort.grow (redrawn W d) os) :=
      fun d os => HL.out _ bk clock (((below_regrown W d os).block bk (by have := (Array.getElem?_eq_some_iff.1 HM.out).1; exact Nat.lt_of_lt_of_le this hW.size)).trans ((hW.block bk (Array.getElem?_eq_some_iff.1 HM.out).1).trans HM.out))
    refine Fat.wp_region_tail 14 (by kernel_rfl) (by kernel_rfl) ?_
    simp only [List.take_succ_cons, List.drop_succ_cons, List.take_nil, List.drop_nil]
    repeat (go_big_quiet_step (fail))
    refine wpQuiet_nil ?_
    intro w1 hb1
    replace hW := over hW hb1
    clear hlook c1 t1 c5 t5 e0 y0 B1 B5 hb1
    go_wp2_with fail
    go_ret
    exact ⟨rfl, Below.turn hW, HR.out.later hW⟩
  have HL := Lib.hid hlook
  have HFr := Lib.hid hfresh
  have hs := small_of hc
  have hst := st_six hc
  have HRch : Hid (∀ W, Below w.heap.size w W → Calls Tryz.prog 70 #[landV q L, .int .i64 i, .int .i64 k, .int .i64 t] W (RetL (L.rch i k t, 0) W)) := fun W hW => by
    rw [← rch_ok hc hi hk ht]; exact Reach_any q L i k t W (hr.land.later hW) hs
  have HBd : Hid (∀ (j : Nat) (x : Int), (L.rch i k t)[j]? = some x → ∃ n : Nat, x = n ∧ n < L.st.length) := fun j x hx => rch_bd (List.mem_of_getElem? hx)
  have HEnd : Hid (partN (L.rch i k t) L.st.length (L.rch i k t).length = bitN (fun j => L.can i j k t) L.st.length) := partN_all _ _
  have HLen : Hid ((L.rch i k t).length ≤ L.st.length) := sel_len _ _
  obtain ⟨l, hl⟩ : ∃ l, l = L.rch i k t := ⟨_, rfl⟩
  rw [← hl] at HRch HBd HEnd HLen
  have hll := HLen.out
  clear hlook hfresh hr hs hl HLen
  go_enter Tryz.func40, Tryz.ntmps40
  go_wp2_with fail
  refine named1 (p := Code.wp _ _ _ _) ?_
  intro W hW B5
  (try clear c1 t1); replace B1 := B1.later hW; have c1 := B1.cell; have t1 := B1.lt
  have c5 := B5.cell; have t5 := B5.lt
  replace e0 := (hW.cell (p := ⟨kb, ko + k, none⟩) y0).trans e0
  replace y0 := block_lt_of_cell e0
  have hlook : ∀ (d : Nat) (os : Array Obj), (Instr.lookup 127 (.map (some bk)) (pairV i t) true).run Tryz.prog (Sort.grow (redrawn W d) os) = .ok (.tuple #[.int .u64 0, .bool false]) (Sort.grow (redrawn W d) os) :=
    fun d os => HL.out _ bk clock (((below_regrown W d os).block bk (by have := (Array.getElem?_eq_some_iff.1 HM.out).1; exact Nat.lt_of_lt_of_le this hW.size)).trans ((hW.block bk (Array.getElem?_eq_some_iff.1 HM.out).1).trans HM.out))
  refine Fat.wp_region_tail 14 (by kernel_rfl) (by kernel_rfl) ?_
  simp only [List.take_succ_cons, List.drop_succ_cons, List.take_nil, List.drop_nil]
  repeat (go_big_quiet_step (fail))
  refine wpQuiet_nil ?_
  intro w1 hb1
  replace e0 := (hb1.cell (p := ⟨kb, ko + k, none⟩) y0).trans e0
  replace y0 := block_lt_of_cell e0
  replace hW := over hW hb1; (try clear c1 t1 c5 t5); replace B1 := B1.later hb1; replace B5 := B5.later hb1; have c1 := B1.cell; have t1 := B1.lt; have c5 := B5.cell; have t5 := B5.lt; clear hb1 hlook
  go_wp2_with fail
  have HB1 := Lib.hid B1
  have HB5 := Lib.hid B5
  have hWr := hW
  refine Fat.wp_region0 15 [9, 10, 11, 12, 13, 14] (fun j => if j = 9 then rchSp l (fun v => .tuple #[v, .int .i64 0]) else if j = 10 then rchSp l (fun v => .tuple #[v, .int .i64 0]) else if j = 12 then isSpec (.int .i64 0) else if j = 14 then isSpec (.int .i64 0) else rchSp l (fun v => v))
    (fun j => by (repeat' split) <;> first | exact rchSp_lasting _ _ | exact isSpec_lasting _) (by kernel_rfl) (by kernel_rfl) ?_
  simp only [List.take_succ_cons, List.take_nil, Fat.pick, List.contains_cons, List.contains_nil, Nat.reduceAdd, Nat.reduceBEq]
  repeat (first | simp only [Bool.or_false] | simp only [Bool.or_true] | simp only [Bool.true_or] | simp only [Bool.false_eq_true] | simp only [if_true] | simp only [if_false])
  repeat (go_big_quiet_step (fail))
  refine wpQuiet_nil ?_
  refine ⟨?_, ?_, ?_⟩
  · intro i o hi hown ho vals lo hi' W hW hdep
    simp only [List.contains_cons, List.contains_nil, Bool.or_false] at hi
    (try simp only [Bool.or_eq_true] at hi)
    simp only [beq_iff_eq] at hi
    rcases hi with rfl | rfl | rfl | rfl | rfl | rfl
    all_goals first
      | exact absurd hown (by decide)
      | (simp only [List.getElem?_cons_succ, List.getElem?_cons_zero, Option.some.injEq] at ho; subst ho; refine .inl ⟨rfl, ?_⟩; simp only [Fat.putN, Fat.dstOf, Act.put, List.getElem?_toArray, List.getElem?_cons_succ, List.getElem?_cons_zero, Option.bind_some, List.setIfInBounds_toArray, List.set_cons_succ, List.set_cons_zero])
    · go_simp
      exact (HRch.out W (over hWr hW)).mono fun e w'' ⟨a, c, he, h1, h2⟩ => ⟨_, he, h1, a, c, rfl, h2⟩
    · obtain ⟨_, _, _, a, c, (hv : vals 9 = _), h2⟩ := hdep 9 rfl (by kernel_rfl)
      rw [hv]
      go_simp
      exact ⟨Below.refl _ _, a, c, rfl, h2⟩
    · obtain ⟨_, _, _, a, c, (hv : vals 10 = _), h2⟩ := hdep 10 rfl (by kernel_rfl)
      rw [hv]
      go_simp
      exact ⟨Below.refl _ _, a, c, rfl, h2⟩
    · obtain ⟨_, _, _, a, c, (hv : vals 10 = _), h2⟩ := hdep 10 rfl (by kernel_rfl)
      rw [hv]
      go_simp
      exact ⟨Below.refl _ _, rfl⟩
    · obtain ⟨_, _, _, a, c, (hv : vals 11 = _), h2⟩ := hdep 11 rfl (by kernel_rfl)
      rw [hv]
      go_simp
      exact ⟨Below.refl _ _, a, c, rfl, h2⟩
    · obtain ⟨_, _, _, (hv : vals 12 = _)⟩ := hdep 12 rfl (by kernel_rfl)
      rw [hv]
      go_simp
      exact ⟨Below.refl _ _, rfl⟩
  · intro i o hi hown ho vals lo hi' W hW hdep
    simp only [List.contains_cons, List.contains_nil, Bool.or_false] at hi
    (try simp only [Bool.or_eq_true] at hi)
    simp only [beq_iff_eq] at hi
    rcases hi with rfl | rfl | rfl | rfl | rfl | rfl
    all_goals first
      | exact absurd (by decide) hown
      | (simp only [List.getElem?_cons_succ, List.getElem?_cons_zero, Option.some.injEq] at ho; subst ho; refine ⟨rfl, ?_⟩; simp only [Fat.putN, Fat.dstOf, Act.put, List.getElem?_toArray, List.getElem?_cons_succ, List.getElem?_cons_zero, Option.bind_some, List.setIfInBounds_toArray, List.set_cons_succ, List.set_cons_zero]; (try simp only [Option.bind_none]))
  · intro vals lo hi' w2 hb2 hphi hdis htied
    obtain ⟨_, _, _, ra, rc, (q13 : vals 13 = _), hra⟩ := hphi 13 rfl
    obtain ⟨_, _, _, (q14 : vals 14 = _)⟩ := hphi 14 rfl
    simp only [Fat.putN, Fat.dstOf, Act.put, List.getElem?_toArray, List.getElem?_cons_succ, List.getElem?_cons_zero, Option.bind_some, List.setIfInBounds_toArray, List.set_cons_succ, List.set_cons_zero, List.drop_succ_cons, List.drop_nil]
    (try simp only [Option.bind_none])
    rw [q13, q14]
    clear q13 q14 hphi hdis htied
    replace e0 := (hb2.cell (p := ⟨kb, ko + k, none⟩) y0).trans e0
    replace y0 := block_lt_of_cell e0
    replace hW := over hW hb2; (try clear c1 t1 c5 t5); replace B1 := B1.later hb2; replace B5 := B5.later hb2; have c1 := B1.cell; have t1 := B1.lt; have c5 := B5.cell; have t5 := B5.lt; clear hb2 HB1 HB5 hWr
    have HRa := Lib.hid hra
    clear hra
    generalize vals 9 = x9
    generalize vals 10 = x10
    generalize vals 11 = x11
    generalize vals 12 = x12
    go_wp2_with fail
    go_loopw [7, 42] (fun v i' wr => ∃ n : Nat, n ≤ l.length ∧ i' = .int .i64 n ∧ v = .int .u64 ((partN l L.st.length n : Nat) : Int) ∧ wr = w2) (fun _ i' _ => l.length - (intOf i').toNat)
    case atStart => exact ⟨0, Nat.zero_le _, rfl, by rw [partN_zero]; rfl, rfl⟩
    case round =>
      obtain ⟨n, hn, rfl, rfl, rfl⟩ := hrel
      by_cases hlt : n < l.length
      · obtain ⟨rb, ro, rfl, hC⟩ := HRa.out.at hlt
        obtain ⟨x, hx⟩ : ∃ x, l[n]? = some x := ⟨l[n], by simp [hlt]⟩
        have f0 := cells_one hC hx
        have z0 := block_lt_of_cell f0
        obtain ⟨m, rfl, hm⟩ := HBd.out n x hx
        have hsu := partN_succ hx hm
        have hp1 := partN_lt l hst.1 n
        have hp2 := partN_lt l hst.1 (n + 1)
        have hm2 : 2 ^ m < 64 := Nat.lt_of_lt_of_le (Nat.pow_lt_pow_right (by omega) (show m < 6 by omega)) (by decide)
        have hor := u64_or (partN l L.st.length n) (2 ^ m) (by omega) (by omega)
        rw [hsu] at hor
        obtain ⟨cu, hcu⟩ : ∃ cu, cu = partN l L.st.length n := ⟨_, rfl⟩
        obtain ⟨nw, hnw⟩ : ∃ nw, nw = partN l L.st.length (n + 1) := ⟨_, rfl⟩
        rw [← hcu, ← hnw] at hor
        rw [← hcu]
        have HNw := Lib.hid hnw
        have r3 : (0 : Int) ≤ (m : Int) := by omega
        have r4 : (0 : Int) ≤ (n : Int) := by omega
        have r5 : (n : Int) < (l.length : Int) := by omega
        clear hC hx hsu hcu hnw hp1 hp2
        go_wp2_with fail
        go_roundw
        case rel =>
          refine ⟨n + 1, by omega, by go_num, ?_, trivial⟩
          rw [← HNw.out, show ((2 : Int) ^ m) = ((2 ^ m : Nat) : Int) by push_cast; rfl, u64_wrap (by omega), hor]
        case measure => simp [intOf]; omega
      · obtain rfl : n = l.length := by omega
        rw [HEnd.out]
        clear hn hlt
        obtain ⟨fv, hfv⟩ : ∃ fv : Nat, fv = bitN (fun j => L.can i j k t) L.st.length := ⟨_, rfl⟩
        rw [← hfv]
        have HFv : Hid (Value.int .u64 (fv : Int) = setV L i k t) := by show _ = _; rw [hfv]
        clear hfv
        go_wp2_with fail
        refine Fat.wp_region_tail 9 (by kernel_rfl) (by kernel_rfl) ?_
        simp only [List.take_succ_cons, List.drop_succ_cons, List.take_zero, List.drop_zero]
        repeat (go_big_quiet_step (fail))
        refine wpQuiet_nil ?_
        intro w7 hb7
        have hb := over hW hb7
        have hm7 : MapIs w7 bk es clock := (hb.block bk (Array.getElem?_eq_some_iff.1 HM.out).1).trans HM.out
        obtain ⟨w8, hrun, hm8, hg8⟩ := put_spot Tryz.underlying127 HP.out HFr.out (.int .u64 fv) hm7
        have HB := Lib.hid hb
        have HM7 := Lib.hid hm7
        have HM8 := Lib.hid hm8
        have HG8 := Lib.hid hg8
        clear c1 t1 c5 t5 B1 B5 hb7 hb hm7 hm8 hg8 e0 y0 hW
        go_wp2_with fail
        go_ret
        have hk7 := (HR.out.later HB.out).kn
        have hk8 : KnAt w8 r L := hk7.put HBk.out HM7.out (by rw [← HFv.out]; exact HM8.out) HG8.out
        have hT : Turn r.ex none w w8 := (Below.turn HB.out).put HM7.out HG8.out (List.mem_of_getElem? HBk.out)
        refine ⟨?_, hT, HR.out.turn hT hk8⟩
        have h := HFv.out
        rw [← h]
        all_goals rfl
end Go.Proofs.YtingfmdbihbamaaGreat
end

section
/- Layer 3, the walks: the stations of a set, one by one. -/
open Go.RowKit Go.Shelf
namespace Go.Proofs.YtingfmdbihbamaaGreat
open Go.Hill
attribute [local go_sem] Oper.semAt_some

abbrev flV (f : Nat) : Value := .int .u64 (f : Int)
def RetEach (f : Nat) (w : World) (e : Ending) (w' : World) : Prop := ∃ b1, e = .returned (.func (.func 71) #[] #[.pointer (some ⟨b1, 0, none⟩)]) ∧ Below w.heap.size w w' ∧ w.heap.size ≤ b1 ∧ Box w' b1 #[flV f] 133
theorem each_mk (f : Nat) (w : World) : Calls Tryz.prog 41 #[flV f] w (RetEach f w) := by
  go_enter Tryz.func41, Tryz.ntmps41
  go_wp2_with fail
  go_ret
  refine named1 (p := RetEach f w _) ?_
  intro W hW B1
  exact ⟨_, rfl, hW, Nat.le_refl _, B1⟩
theorem enters_each : ∀ args w, (callFunc 71 args).run Tryz.prog w = .ok (.enter 71 args) w := fun _ _ => by kernel_rfl

theorem shr_cast (a j : Nat) : (a : Int) / 2 ^ j = ((a / 2 ^ j : Nat) : Int) := by push_cast; rfl
theorem bit_and (p : Nat → Bool) {n : Nat} (hn : n ≤ 6) (j : Nat) : bits .and .u64 (((bitN p n : Nat) : Int) / 2 ^ j) 1 = if (decide (j < n) && p j) then 1 else 0 := by
  have h1 : bitN p n < 64 := Nat.lt_of_lt_of_le (bitN_lt p n) (Nat.pow_le_pow_right (n := 2) (by omega) hn)
  have h2 : bitN p n / 2 ^ j ≤ bitN p n := Nat.div_le_self _ _
  have h3 := u64_and (bitN p n / 2 ^ j) 1 (by omega) (by omega)
  rw [shr_cast]
  rw [Nat.and_one_is_mod, bit_at] at h3
  rw [show ((1 : Int)) = ((1 : Nat) : Int) from rfl, h3]
  split <;> rfl
/-- A member of a set. -/
abbrev Mem (p : Nat → Bool) (n : Nat) := {k : Nat // k < n ∧ p k = true}
set_option maxRecDepth 100000 in
set_option maxHeartbeats 4000000 in
theorem each_stops (m : Nat) (b1 : Nat) (p : Nat → Bool) (n : Nat) (w : World) (B1 : Box w b1 #[flV (bitN p n)] 133) (hn : n ≤ 6) :
    SeqStopsK Fence.wide (m + 1) Tryz.prog 71 #[.pointer (some ⟨b1, 0, none⟩)]
      (fun x : Mem p n => #[.int .i64 x.1]) (fun A B => B.heap[b1]? = A.heap[b1]?) (fun ys => ys.map (·.1) = selN p n) (fun _ => True) n w := by
  intro l J Jx W hW hJ hJx hY h0
  have HY := Lib.hid hY
  have HJ := Lib.hid hJ
  clear hY hJ hJx
  have D1 := B1.later hW
  clear B1
  refine callsIn_of_wp Tryz.func71 rfl trivial ?_ rfl
  simp only [Tryz.ntmps71, List.size_toArray, List.length_cons, List.length_nil, Nat.reduceAdd, Nat.reduceSub, Array.replicate_succ, Array.replicate_zero, List.push_toArray, List.append_toArray, List.nil_append, List.cons_append]
  gi_wp2
  gi_loopw [3] (fun i' wr => ∃ (j : Nat) (ys : List (Mem p n)), j ≤ n ∧ i' = .int .i64 j ∧ Box wr b1 #[flV (bitN p n)] 133 ∧ ys.map (·.1) = selN p j ∧ J ys wr) (fun i' _ => n - (intOf i').toNat)
  case atStart => exact ⟨0, [], Nat.zero_le _, rfl, D1, rfl, h0⟩
  case round =>
    obtain ⟨j, ys, hj, rfl, E1, hys, hJs⟩ := hrel
    clear D1 h0
    have c1 := E1.cell
    have t1 := E1.lt
    have HYs := Lib.hid hys
    have HJs := Lib.hid hJs
    clear hys hJs
    have r1 : (0 : Int) ≤ (j : Int) := by omega
    by_cases hz : bitN p n / 2 ^ j = 0
    · have hq : (((bitN p n : Nat) : Int) / 2 ^ j != 0) = false := by rw [shr_cast, hz]; rfl
      have hE : selN p n = selN p j := by
        have h := bit_end hz
        obtain ⟨d, rfl⟩ : ∃ d, n = j + d := ⟨n - j, by omega⟩
        exact selN_more d fun k h1 h2 => h k h1 h2
      have HE := Lib.hid hE
      clear hE hz
      gi_wp2
      go_end0
      exact ⟨⟨_, rfl⟩, .inl ⟨ys, HYs.out.trans HE.out.symm, HJs.out⟩⟩
    · have hjn : j < n := bit_more hz
      have hq : (((bitN p n : Nat) : Int) / 2 ^ j != 0) = true := by
        rw [shr_cast]
        simp only [bne_iff_ne, ne_eq]
        omega
      have hlen : ys.length ≤ j := by
        have := congrArg List.length HYs.out
        rw [List.length_map] at this
        rw [this]; exact selN_len _ _
      have hbt := bit_and p hn j
      cases hp : p j with
      | false =>
        have hb : (bits .and .u64 (((bitN p n : Nat) : Int) / 2 ^ j) 1 == 1) = false := by rw [hbt, hp]; simp
        have HP := Lib.hid hp
        clear hp hbt hz
        gi_wp2
        all_goals
          refine ⟨fun _ h => (by cases h), ?_⟩
          gi_wp2
          go_roundw
          case rel => exact ⟨j + 1, ys, by omega, by go_num, E1, by rw [selN_no HP.out]; exact HYs.out, HJs.out⟩
          case measure => simp [intOf]; omega
      | true =>
        have hb : (bits .and .u64 (((bitN p n : Nat) : Int) / 2 ^ j) 1 == 1) = true := by rw [hbt, hp]; simp [hjn]
        have HP := Lib.hid hp
        clear hp hbt hz
        obtain ⟨fn, tmps, assign, body, hy, hR⟩ := HY.out ys ⟨j, hjn, HP.out⟩ wr HJs.out (by omega)
        gi_wp2
        refine hR.mono ?_
        rintro e w6 (⟨rfl, hj6, hk1⟩ | ⟨rfl, hjx⟩)
        · clear hy hR c1 t1
          gi_wp2
          go_roundw
          case rel => exact ⟨j + 1, ys ++ [⟨j, hjn, HP.out⟩], by omega, by go_num, hk1.trans E1, by rw [selN_yes HP.out, List.map_append, HYs.out]; rfl, hj6⟩
          case measure => simp [intOf]; omega
        · clear hy hR c1 t1
          gi_wp2
          refine bodyPost_ret (results_none rfl _ _ _) rfl ?_
          exact ⟨⟨_, rfl⟩, .inr ⟨_, trivial, hjx⟩⟩
end Go.Proofs.YtingfmdbihbamaaGreat
end

section
/- Layer 3, the walks: tables of hours. -/
open Go.RowKit Go.Shelf
namespace Go.Proofs.YtingfmdbihbamaaGreat
open Go.Hill

abbrev hrsc (h : Nat → Int) : Array Value := #[.int .i64 (h 0), .int .i64 (h 1), .int .i64 (h 2), .int .i64 (h 3), .int .i64 (h 4), .int .i64 (h 5)]
def HrAt (W : World) (b : Nat) (h : Nat → Int) : Prop := Box W b (hrsc h) 104
theorem six_cases {x : Nat} (h : x < 6) : x = 0 ∨ x = 1 ∨ x = 2 ∨ x = 3 ∨ x = 4 ∨ x = 5 := by omega
theorem hrs_at (h : Nat → Int) {x : Nat} (hx : x < 6) : (hrsc h)[x]? = some (.int .i64 (h x)) := by
  rcases six_cases hx with rfl | rfl | rfl | rfl | rfl | rfl <;> rfl
theorem hrs_set (h : Nat → Int) {x : Nat} (hx : x < 6) (v : Int) : (hrsc h).setIfInBounds x (.int .i64 v) = hrsc (fun y => if y = x then v else h y) := by
  rcases six_cases hx with rfl | rfl | rfl | rfl | rfl | rfl <;> rfl
theorem hrs_congr {h g : Nat → Int} (he : ∀ x, x < 6 → h x = g x) : hrsc h = hrsc g := by
  unfold hrsc
  rw [he 0 (by omega), he 1 (by omega), he 2 (by omega), he 3 (by omega), he 4 (by omega), he 5 (by omega)]
theorem HrAt.cell {W : World} {b : Nat} {h : Nat → Int} (hb : HrAt W b h) {x : Nat} (hx : x < 6) : W.cell? ⟨b, x, none⟩ = some (.int .i64 (h x)) := (Box.cell hb x).trans (hrs_at h hx)
theorem HrAt.set {W : World} {b : Nat} {h : Nat → Int} (hb : HrAt W b h) {x : Nat} (hx : x < 6) (v : Int) : HrAt (W.setCell ⟨b, x, none⟩ (.int .i64 v)) b (fun y => if y = x then v else h y) := by
  have h1 := setCell_box hb x (.int .i64 v)
  rw [hrs_set h hx] at h1
  exact h1
theorem HrAt.later {W W' : World} {b : Nat} {h : Nat → Int} (hb : HrAt W b h) (hl : Below W.heap.size W W') : HrAt W' b h := Box.later hb hl
theorem HrAt.lt {W : World} {b : Nat} {h : Nat → Int} (hb : HrAt W b h) : b < W.heap.size := Box.lt hb
/-- What a world says of the measure of a table. -/
def msr (W : World) (b : Nat) : Nat := match W.heap[b]? with
  | some (.cells cs _ _) => (cs.toList.map fun v => (intOf v).toNat).foldl (· + ·) 0
  | _ => 0
theorem msr_at {W : World} {b : Nat} {h : Nat → Int} (hb : HrAt W b h) : msr W b = sum6 h := by
  unfold msr
  rw [show W.heap[b]? = _ from hb]
  simp [intOf, sum6]
def same6 (a b : Nat → Int) : Bool := a 0 == b 0 && (a 1 == b 1 && (a 2 == b 2 && (a 3 == b 3 && (a 4 == b 4 && a 5 == b 5))))
theorem same6_iff {h g : Nat → Int} : same6 h g = true ↔ ∀ x, x < 6 → h x = g x := by
  unfold same6
  simp only [Bool.and_eq_true, beq_iff_eq]
  constructor
  · rintro ⟨h0, h1, h2, h3, h4, h5⟩ x hx
    rcases six_cases hx with rfl | rfl | rfl | rfl | rfl | rfl <;> assumption
  · intro hx
    exact ⟨hx 0 (by omega), hx 1 (by omega), hx 2 (by omega), hx 3 (by omega), hx 4 (by omega), hx 5 (by omega)⟩
theorem run_equal_six {P : Program} (w : World) (d : Nat) (t e : TypeId) (i : TypeInfo) (a b : Nat → Int) (ht : P.underlying t = some (.array 6 e)) (he : P.underlying e = some (.int .i64)) (hi : P.info? e = some i) (hs : i.size = 1) :
    (Op.equalIn (d + 2) t (.agg (hrsc a)) (.agg (hrsc b))).run P w = .ok (same6 a b) w := by
  unfold same6
  have h1 := fun (x y : Int) => run_equalIn_int (P := P) w d e .i64 .i64 x y he
  unfold Op.equalIn
  simp only [Sem.run_bind, run_underlying ht, Result.andThen_ok]
  simp [sizeOf, typeInfo, hi, hs, part, Std.Legacy.Range.forIn_eq_forIn_range', Std.Legacy.Range.size, List.range', isAgg, run_underlying he, h1]
  by_cases q0 : a 0 = b 0 <;> simp [q0]
  by_cases q1 : a 1 = b 1 <;> simp [q1]
  by_cases q2 : a 2 = b 2 <;> simp [q2]
  by_cases q3 : a 3 = b 3 <;> simp [q3]
  by_cases q4 : a 4 = b 4 <;> simp [q4]
  by_cases q5 : a 5 = b 5 <;> simp [q5]
@[go_sem] theorem hours_guard : Tryz.prog.eqGuardType Tryz.prog.depth 104 = false := by kernel_rfl
theorem hours_equal (w : World) (h g : Nat → Int) : (Op.equalIn 10000 104 (.agg (hrsc h)) (.agg (hrsc g))).run Tryz.prog w = .ok (same6 h g) w := by
  have h0 : (Tryz.prog.info? 3).map (·.size) = some 1 := by kernel_rfl
  cases hi : Tryz.prog.info? 3 with
  | none => rw [hi] at h0; cases h0
  | some i => exact run_equal_six w 9998 104 3 i h g (by kernel_rfl) (by kernel_rfl) hi (by rw [hi] at h0; simpa using h0)

theorem ite_min (a b : Int) : (if b < a then b else a) = min a b := by split <;> omega
theorem min_any (a b : Int) (bk : Nat) (w : World) (B : Box w bk #[.int .i64 a, .int .i64 b] 3) : Calls Tryz.prog 72 #[.slice (some ⟨bk, 0, none⟩) 2 2] w (Ret (.int .i64 (min a b)) w) := by
  go_enter Tryz.func72, Tryz.ntmps72
  have c0 := B.cell
  have t0 := B.lt
  go_wp2_with fail
  clear c0 t0
  go_loopw [3, 4] (fun m i wr => ((m = .int .i64 a ∧ i = .int .i64 1) ∨ (m = .int .i64 (min a b) ∧ i = .int .i64 2)) ∧ Below w.heap.size w wr) (fun _ i _ => 2 - (intOf i).toNat)
  case atStart => exact ⟨.inl ⟨rfl, rfl⟩, Below.refl _ _⟩
  case round =>
    obtain ⟨⟨rfl, rfl⟩ | ⟨rfl, rfl⟩, hW⟩ := hrel
    · replace B := B.later hW
      have c0 := B.cell
      have t0 := B.lt
      go_wp2_with fail
      go_roundw
      case rel => exact ⟨.inr ⟨by rw [ite_min], rfl⟩, hW⟩
      case measure => decide
    · go_wp2_with fail
      go_ret
      exact ⟨rfl, hW⟩
theorem smallest_any (a b : Int) (bk : Nat) (w : World) (B : Box w bk #[.int .i64 a, .int .i64 b] 3) : Calls Tryz.prog 42 #[.slice (some ⟨bk, 0, none⟩) 2 2] w (Ret (.int .i64 (min a b)) w) := by
  have HM := Lib.hid (min_any a b bk w B)
  generalize min a b = m at *
  go_enter Tryz.func42, Tryz.ntmps42
  go_wp2_with fail
  refine HM.out.mono ?_
  rintro e w1 ⟨rfl, hb1⟩
  go_wp2_with fail
  go_ret
  exact ⟨rfl, hb1⟩
end Go.Proofs.YtingfmdbihbamaaGreat
end
