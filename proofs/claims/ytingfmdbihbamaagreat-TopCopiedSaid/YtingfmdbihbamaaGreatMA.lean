import Derived.Test.YtingfmdbihbamaaGreatWD
import Derived.Test.YtingfmdbihbamaaGreatPl0
import Derived.MapKept
import Derived.Test.YtingfmdbihbamaaGreatFatIn
import Derived.RangeFuncNested
import Derived.RangeFuncBound
import Derived.RangeFuncCalls
import Derived.RangeFuncLeaves
import Derived.Shelf.Abstract
import Derived.Shelf.RegionOpen
import Derived.OwnWalkIn
import Derived.TacticsInMore
import Derived.LoopNIn
import Derived.LoopIn
import Derived.Test.YtingfmdbihbamaaGreatWC
import Derived.Carry
section
/- A land at work: its map of pairs, and the ridges that block between them. -/
open Go.RowKit
namespace Go.Proofs.YtingfmdbihbamaaGreat
open Go.Hill

abbrev pairV (i j : Int) : Value := .agg #[.int .i64 i, .int .i64 j]

theorem pair_equal (w : World) (d : Nat) (a b c f : Int) : (Op.equalIn (d + 2) 176 (pairV a b) (pairV c f)).run Tryz.prog w = .ok (a == c && b == f) w := by
  have h1 := fun (x y : Int) => run_equalIn_int (P := Tryz.prog) w d 3 .i64 .i64 x y (by kernel_rfl)
  have h2 : Tryz.prog.stoodInHeld 176 = false := by kernel_rfl
  unfold Op.equalIn
  simp only [Sem.run_bind, run_underlying Tryz.underlying176, Result.andThen_ok]
  simp [part, h1, h2]
  by_cases h4 : a = c <;> by_cases h5 : b = f <;> simp [h4, h5]
theorem run_findAsk (i j : Int) : ∀ (es : List MapEntry) (k : Nat), (∀ e ∈ es, ∃ a b, e.key = pairV a b) →
    ((∀ w, (Instr.findAsking 176 (pairV i j) es k).run Tryz.prog w = .ok none w) ∧ ∀ e ∈ es, e.key ≠ pairV i j) ∨
    ∃ m e, (∀ w, (Instr.findAsking 176 (pairV i j) es k).run Tryz.prog w = .ok (some (m, e.val)) w) ∧ e ∈ es ∧ e.key = pairV i j := by
  intro es
  induction es with
  | nil => intro k _; exact .inl ⟨fun w => by simp [Instr.findAsking], by simp⟩
  | cons e es ih =>
    intro k h
    obtain ⟨a, b, he⟩ := h e (by simp)
    have hq : ∀ w, (Op.equal 176 (pairV i j) e.key).run Tryz.prog w = .ok (i == a && j == b) w := fun w => by rw [he]; exact pair_equal w 9998 i j a b
    by_cases hk : i = a ∧ j = b
    · obtain ⟨rfl, rfl⟩ := hk
      exact .inr ⟨k, e, fun w => by simp [Instr.findAsking, hq], by simp, he⟩
    · have hkf : (i == a && j == b) = false := by rw [Bool.eq_false_iff]; simpa using hk
      rcases ih (k + 1) (fun e he => h e (by simp [he])) with ⟨h1, h2⟩ | ⟨m, e', h1, h2, h3⟩
      · refine .inl ⟨fun w => by simp only [Instr.findAsking, Sem.run_bind, hq, hkf, Result.andThen_ok]; simpa using h1 w, ?_⟩
        intro e' he'
        rcases List.mem_cons.1 he' with rfl | he'
        · rw [he]; intro hh; simp only [pairV, Value.agg.injEq, Array.mk.injEq, List.cons.injEq, Value.int.injEq] at hh; exact hk ⟨hh.1.2.symm, hh.2.1.2.symm⟩
        · exact h2 e' he'
      · exact .inr ⟨m, e', fun w => by simp only [Instr.findAsking, Sem.run_bind, hq, hkf, Result.andThen_ok]; simpa using h1 w, by simp [h2], h3⟩
theorem run_check (w : World) (i j : Int) (em : Bool) : (Instr.checkKey em 10000 176 (pairV i j)).run Tryz.prog w = .ok () w := by
  have h4 : ∀ n x, (Instr.checkKey em (n + 1) 3 (.int .i64 x)).run Tryz.prog w = .ok () w := fun n x => by
    unfold Instr.checkKey
    simp [run_underlying Tryz.underlying3]
  rw [show (10000 : Nat) = 9998 + 1 + 1 from rfl]
  unfold Instr.checkKey
  simp only [Sem.run_bind, run_underlying Tryz.underlying176, Result.andThen_ok]
  simp [part, h4]
theorem run_find (i j : Int) (es : List MapEntry) (h : ∀ e ∈ es, ∃ a b, e.key = pairV a b) :
    ((∀ w, (Instr.findKey 176 (pairV i j) es).run Tryz.prog w = .ok none w) ∧ ∀ e ∈ es, e.key ≠ pairV i j) ∨
    ∃ m e, (∀ w, (Instr.findKey 176 (pairV i j) es).run Tryz.prog w = .ok (some (m, e.val)) w) ∧ e ∈ es ∧ e.key = pairV i j := by
  have hu := Tryz.underlying176
  cases es with
  | nil => exact .inl ⟨fun w => by unfold Instr.findKey; simp only [Sem.run_bind, run_underlying hu, Result.andThen_ok]; simp [Instr.findNow], by simp⟩
  | cons e es =>
    obtain ⟨a, b, he⟩ := h e (by simp)
    have : ∀ w, (Instr.findKey 176 (pairV i j) (e :: es)).run Tryz.prog w = (Instr.findAsking 176 (pairV i j) (e :: es) 0).run Tryz.prog w := fun w => by
      unfold Instr.findKey; simp only [Sem.run_bind, run_underlying hu, Result.andThen_ok]; simp [Instr.findNow, Instr.sameNow]
    simp only [this]
    exact run_findAsk i j (e :: es) 0 h

/-- Block bm is a map with these entries. -/
def MapIs (W : World) (bm : Nat) (es : Array MapEntry) (clock : Nat) : Prop := W.heap[bm]? = some (.map es clock)
def Pairs (es : Array MapEntry) : Prop := ∀ e ∈ es.toList, ∃ a b, e.key = pairV a b

/-- What a look-up gives, in each world that has the map. -/
theorem look_map {es : Array MapEntry} (hp : Pairs es) (i j : Int) :
    ((∀ W bm clock, MapIs W bm es clock → (Instr.lookup 188 (.map (some bm)) (pairV i j) true).run Tryz.prog W = .ok (.tuple #[.slice none 0 0, .bool false]) W) ∧ ∀ e ∈ es.toList, e.key ≠ pairV i j) ∨
    ∃ e ∈ es.toList, e.key = pairV i j ∧ ∀ W bm clock, MapIs W bm es clock → (Instr.lookup 188 (.map (some bm)) (pairV i j) true).run Tryz.prog W = .ok (.tuple #[e.val, .bool true]) W := by
  have hu := Tryz.underlying188
  have hz : ∀ W, (zeroValue 41).run Tryz.prog W = .ok (.slice none 0 0) W := fun W => by kernel_rfl
  rcases run_find i j es.toList hp with ⟨h1, h2⟩ | ⟨m, e, h1, h2, h3⟩
  · refine .inl ⟨fun W bm clock hm => ?_, h2⟩
    unfold Instr.lookup
    simp only [Sem.run_bind, run_underlying hu, Result.andThen_ok, MapKept.run_getObj_map (show W.heap[bm]? = _ from hm), Sem.run_pure, run_check, h1, hz]
    rfl
  · refine .inr ⟨e, h2, h3, fun W bm clock hm => ?_⟩
    unfold Instr.lookup
    simp only [Sem.run_bind, run_underlying hu, Result.andThen_ok, MapKept.run_getObj_map (show W.heap[bm]? = _ from hm), Sem.run_pure, run_check, h1]
    rfl
/-- A new entry goes in. -/
theorem put_map {es : Array MapEntry} (hp : Pairs es) {i j : Int} (hn : ∀ e ∈ es.toList, e.key ≠ pairV i j) (v : Value) {W : World} {bm clock : Nat} (hm : MapIs W bm es clock) :
    ∃ W', (Instr.mapUpdate 188 (.map (some bm)) (pairV i j) v).run Tryz.prog W = .ok () W' ∧ MapIs W' bm (es.push ⟨pairV i j, v, clock⟩) (clock + 1) ∧ W.grownBy W' (some bm) := by
  have hu := Tryz.underlying188
  have hlt : bm < W.heap.size := (Array.getElem?_eq_some_iff.1 hm).1
  refine ⟨{ W with heap := W.heap.setIfInBounds bm (.map (es.push ⟨pairV i j, v, clock⟩) (clock + 1)) }, ?_, ?_, rfl, rfl, rfl, by simp, fun k _ hk => ?_⟩
  · unfold Instr.mapUpdate
    have h1 : ∀ w, (Instr.findKey 176 (pairV i j) es.toList).run Tryz.prog w = .ok none w := by
      rcases run_find i j es.toList hp with ⟨h1, _⟩ | ⟨m, e, _, h2, h3⟩
      · exact h1
      · exact absurd h3 (hn e h2)
    simp only [Sem.run_bind, run_underlying hu, Result.andThen_ok, MapKept.run_getObj_map (show W.heap[bm]? = _ from hm), run_check, h1, MapKept.run_setObj_map _ (show W.heap[bm]? = _ from hm)]
  · simp [MapIs, hlt]
  · simp only [ne_eq, Option.some.injEq] at hk
    simp [Array.getElem?_setIfInBounds_ne (Ne.symm hk)]

theorem Pairs.push {es : Array MapEntry} (hp : Pairs es) (i j : Int) (v : Value) (c : Nat) : Pairs (es.push ⟨pairV i j, v, c⟩) := by
  intro e he
  simp only [Array.toList_push, List.mem_append, List.mem_singleton] at he
  rcases he with he | rfl
  · exact hp e he
  · exact ⟨i, j, rfl⟩

/-- Cells that are there stay, while a map turns and blocks are laid. -/
theorem Cells.grown {W W' : World} {bm b o size : Nat} {xs : List (List Value)} {es : Array MapEntry} {clock : Nat} (h : Cells W b o size xs) (hm : MapIs W bm es clock) (hg : W.grownBy W' (some bm)) : Cells W' b o size xs :=
  fun i x hx j v hv => by
    have h1 := h i x hx j v hv
    refine hg.cell h1 fun he => ?_
    simp only [Option.some.injEq] at he
    have hm' : W.heap[bm]? = some (.map es clock) := hm
    rw [World.cell?] at h1
    simp only [he, hm'] at h1
    cases h1
theorem RowAt.grown {W W' : World} {bm : Nat} {a : Option Addr} {size : Nat} {xs : List (List Value)} {es : Array MapEntry} {clock : Nat} (h : RowAt W a size xs) (hm : MapIs W bm es clock) (hg : W.grownBy W' (some bm)) : RowAt W' a size xs := by
  rcases h with h | ⟨b, o, h1, h2⟩
  · exact .inl h
  · exact .inr ⟨b, o, h1, h2.grown hm hg⟩
theorem CasesAt.grown {W W' : World} {bm : Nat} {a : Option Addr} {css : List (List Cd)} {es : Array MapEntry} {clock : Nat} (h : CasesAt W a css) (hm : MapIs W bm es clock) (hg : W.grownBy W' (some bm)) : CasesAt W' a css := by
  obtain ⟨l, h1, h2, h3⟩ := h
  exact ⟨l, h1, h2.grown hm hg, fun x hx => (h3 x hx).grown hm hg⟩
theorem LandAt.grown {W W' : World} {bm : Nat} {q : LV} {L : Land} {es : Array MapEntry} {clock : Nat} (h : LandAt W q L) (hm : MapIs W bm es clock) (hg : W.grownBy W' (some bm)) : LandAt W' q L :=
  ⟨h.st.grown hm hg, h.rd.grown hm hg, h.cs.grown hm hg, h.sn.grown hm hg, h.k1, h.k2, h.k3, h.k4⟩
theorem Box.grown {W W' : World} {bm b : Nat} {cs : Array Value} {T : TypeId} {es : Array MapEntry} {clock : Nat} (h : Box W b cs T) (hm : MapIs W bm es clock) (hg : W.grownBy W' (some bm)) : Box W' b cs T := by
  refine (hg.block b h.lt fun he => ?_).trans h
  simp only [Option.some.injEq] at he
  subst he
  have h1 : W.heap[b]? = some (.cells cs T) := h
  have h2 : W.heap[b]? = some (.map es clock) := hm
  rw [h1] at h2; cases h2

/-- A list of ints, in blocks that 'av' does not name. -/
def IntsOff (W : World) (av : Nat → Prop) (a : Option Addr) (l : List Int) : Prop := IntsAt W a l ∧ ∀ b o, a = some ⟨b, o, none⟩ → l ≠ [] → ¬ av b
theorem IntsOff.lt {W : World} {av : Nat → Prop} {a : Option Addr} {l : List Int} (h : IntsOff W av a l) {b o : Nat} (ha : a = some ⟨b, o, none⟩) (hl : l ≠ []) : b < W.heap.size := by
  obtain ⟨h1, _⟩ := h
  cases l with
  | nil => exact absurd rfl hl
  | cons x l =>
    obtain ⟨b', o', e, hC⟩ := RowAt.at (k := 0) h1 (by simp)
    rw [ha] at e; cases e
    exact block_lt_of_cell (cells_one (k := 0) hC rfl)
/-- A map of pairs, and the ridges that block between them. -/
def Memo (W : World) (bm : Nat) (L : Land) (av : Nat → Prop) : Prop :=
  ∃ es clock, MapIs W bm es clock ∧ Pairs es ∧ ∀ (i j : Nat), ∀ e ∈ es.toList, e.key = pairV i j → ∃ a c, e.val = .slice a (L.rbs i j).length c ∧ IntsOff W av a (L.rbs i j)
theorem Memo.later {W W' : World} {bm : Nat} {L : Land} {av : Nat → Prop} (h : Memo W bm L av) (hb : Below W.heap.size W W') : Memo W' bm L av := by
  obtain ⟨es, clock, h1, h2, h3⟩ := h
  refine ⟨es, clock, (hb.block bm (Array.getElem?_eq_some_iff.1 h1).1).trans h1, h2, fun i j e he hk => ?_⟩
  obtain ⟨a, c, h4, h5, h6⟩ := h3 i j e he hk
  exact ⟨a, c, h4, h5.later hb, h6⟩
theorem Memo.new (W : World) (L : Land) (av : Nat → Prop) : Memo (W.alloc (.map #[] 0)) W.heap.size L av :=
  ⟨#[], 0, World.alloc_heap_new W _, fun e he => by simp at he, fun i j e he => by simp at he⟩
/-- Blocks that are not there yet are avoided. -/
theorem Memo.more {W : World} {bm : Nat} {L : Land} {av : Nat → Prop} (h : Memo W bm L av) (av' : Nat → Prop) (hav : ∀ b, av' b → av b ∨ W.heap.size ≤ b) : Memo W bm L av' := by
  obtain ⟨es, clock, h1, h2, h3⟩ := h
  refine ⟨es, clock, h1, h2, fun i j e he hk => ?_⟩
  obtain ⟨a, c, h4, h5, h6⟩ := h3 i j e he hk
  refine ⟨a, c, h4, h5, fun b o hb hl hv => ?_⟩
  have h7 := IntsOff.lt ⟨h5, h6⟩ hb hl
  rcases hav b hv with h8 | h8
  · exact h6 b o hb hl h8
  · omega
theorem Memo.but {W W' : World} {bm b : Nat} {L : Land} {av : Nat → Prop} (h : Memo W bm L av) (hb : But b W W') (hav : av b) (hne : b ≠ bm) : Memo W' bm L av := by
  obtain ⟨es, clock, h1, h2, h3⟩ := h
  refine ⟨es, clock, (hb.block bm (Ne.symm hne)).trans h1, h2, fun i j e he hk => ?_⟩
  obtain ⟨a, c, h4, h5, h6⟩ := h3 i j e he hk
  refine ⟨a, c, h4, ?_, h6⟩
  rcases h5 with h5 | ⟨b1, o1, h7, h8⟩
  · exact .inl h5
  · by_cases hl : L.rbs i j = []
    · exact .inl (by rw [hl]; rfl)
    · refine .inr ⟨b1, o1, h7, fun n x hx m v hv => ?_⟩
      have h9 := h8 n x hx m v hv
      have h10 : b1 ≠ b := fun e => h6 b1 o1 h7 hl (e ▸ hav)
      rw [World.cell?] at h9 ⊢
      rw [show W'.heap[b1]? = W.heap[b1]? from hb.block b1 h10]; exact h9
theorem Memo.same {W W' : World} {bm : Nat} {L : Land} {av : Nat → Prop} (h : Memo W bm L av) (hs : ∀ k, k < W.heap.size → ¬ av k ∨ k = bm → W'.heap[k]? = W.heap[k]?) : Memo W' bm L av := by
  obtain ⟨es, clock, h1, h2, h3⟩ := h
  refine ⟨es, clock, (hs bm (Array.getElem?_eq_some_iff.1 h1).1 (.inr rfl)).trans h1, h2, fun i j e he hk => ?_⟩
  obtain ⟨a, c, h4, h5, h6⟩ := h3 i j e he hk
  refine ⟨a, c, h4, ?_, h6⟩
  by_cases hl : L.rbs i j = []
  · exact .inl (by rw [hl]; rfl)
  · rcases h5 with h5 | ⟨b1, o1, h7, h8⟩
    · exact .inl h5
    · refine .inr ⟨b1, o1, h7, fun n x hx m v hv => ?_⟩
      have h9 := h8 n x hx m v hv
      have h11 := block_lt_of_cell h9
      rw [World.cell?] at h9 ⊢
      rw [show W'.heap[b1]? = W.heap[b1]? from hs b1 h11 (.inl (h6 b1 o1 h7 hl))]; exact h9
theorem Memo.put {W W' : World} {bm : Nat} {L : Land} {av : Nat → Prop} {es : Array MapEntry} {clock : Nat} {i j : Nat} {a : Option Addr} {c : Nat} (hm : MapIs W bm es clock) (hp : Pairs es)
    (hes : ∀ (i j : Nat), ∀ e ∈ es.toList, e.key = pairV i j → ∃ a c, e.val = .slice a (L.rbs i j).length c ∧ IntsOff W av a (L.rbs i j)) (hr : IntsOff W av a (L.rbs i j))
    (hm' : MapIs W' bm (es.push ⟨pairV i j, .slice a (L.rbs i j).length c, clock⟩) (clock + 1)) (hg : W.grownBy W' (some bm)) : Memo W' bm L av := by
  refine ⟨_, _, hm', hp.push _ _ _ _, fun i' j' e he hk => ?_⟩
  simp only [Array.toList_push, List.mem_append, List.mem_singleton] at he
  rcases he with he | rfl
  · obtain ⟨a1, c1, h4, h5⟩ := hes i' j' e he hk
    exact ⟨a1, c1, h4, h5.1.grown hm hg, h5.2⟩
  · simp only [pairV, Value.agg.injEq, Array.mk.injEq, List.cons.injEq, Value.int.injEq, true_and, and_true] at hk
    obtain ⟨h1, h2⟩ := hk
    have e1 : i = i' := by omega
    have e2 : j = j' := by omega
    subst e1; subst e2
    exact ⟨a, c, rfl, hr.1.grown hm hg, hr.2⟩

/-- Each number of a valid land is in its bounds. -/
structure Fits (L : Land) : Prop where
  st : ∀ s ∈ L.st, s.In
  rd : ∀ s ∈ L.rd, s.In ∧ s.B = 0
  cs : ∀ l ∈ L.cs, ∀ c ∈ l, c.wl.In
  sn : ∀ s ∈ L.sn, s.In
  mir : ∀ s ∈ L.st, s.M = 1 ∨ s.M = 2
theorem inB_iff {n lo hi : Int} : inB n lo hi = true ↔ lo ≤ n ∧ n ≤ hi := by simp [inB]
theorem wl_in {s : Wl} (h : s.ok = true) : s.In := by
  unfold Wl.ok at h; unfold Wl.In
  simp only [Bool.and_eq_true, inB_iff, decide_eq_true_eq] at h
  omega
theorem fits {L : Land} (h : L.chk = 0) : Fits L := by
  unfold Land.chk at h
  split at h
  · omega
  · split at h
    · omega
    · rename_i h1
      unfold Land.arg at h1
      simp only [Bool.or_eq_true, not_or, Bool.not_eq_true', Bool.not_eq_false, List.all_eq_true] at h1
      obtain ⟨⟨⟨⟨⟨_, h2⟩, _⟩, h3⟩, h4⟩, h5⟩ := h1
      refine ⟨fun s hs => ?_, fun s hs => ?_, fun l hl c hc => ?_, fun s hs => ?_, fun s hs => ?_⟩
      · have := h2 s hs
        unfold Stn.ok at this; unfold Stn.In
        simp only [Bool.and_eq_true, inB_iff] at this
        omega
      · have := h3 s hs
        unfold Wl.rg at this
        simp only [Bool.and_eq_true, beq_iff_eq] at this
        exact ⟨wl_in this.1, this.2⟩
      · have := h4 l hl c hc
        unfold Cd.ok at this
        simp only [Bool.and_eq_true] at this
        exact wl_in this.1.1
      · have := h5 s hs
        unfold Sn.ok at this; unfold Sn.In
        simp only [Bool.and_eq_true, inB_iff] at this
        omega
      · have := h2 s hs
        unfold Stn.ok at this
        simp only [Bool.and_eq_true, inB_iff] at this
        omega

/-- A land at work. -/
structure WorkAt (W : World) (bw bm : Nat) (q : LV) (L : Land) (av : Nat → Prop) : Prop where
  box : Box W bw #[.slice q.a1 L.st.length q.c1, .slice q.a2 L.rd.length q.c2, .slice q.a3 L.cs.length q.c3, .slice q.a4 L.sn.length q.c4, .map (some bm)] 190
  land : LandAt W q L
  memo : Memo W bm L av
section
variable {W W' : World} {bw bm : Nat} {q : LV} {L : Land} {av : Nat → Prop}
theorem WorkAt.later (h : WorkAt W bw bm q L av) (hb : Below W.heap.size W W') : WorkAt W' bw bm q L av := ⟨h.box.later hb, h.land.later hb, h.memo.later hb⟩
theorem Below.grown (hb : Below W.heap.size W W') (row : Option Nat) : W.grownBy W' row := ⟨hb.os, hb.tape, hb.output, hb.size, fun k hk _ => hb.block k hk⟩
theorem grown_trans {W'' : World} {row : Option Nat} (h : W.grownBy W' row) (k : W'.grownBy W'' row) : W.grownBy W'' row :=
  ⟨k.os.trans h.os, k.tape.trans h.tape, k.output.trans h.output, Nat.le_trans h.size k.size, fun i hi hne => (k.block i (Nat.lt_of_lt_of_le hi h.size) hne).trans (h.block i hi hne)⟩
theorem WorkAt.keep {b : Nat} (h : WorkAt W bw bm q L av) {cs : Array Value} {T : TypeId} (hB : Box W b cs T) (hg : W.grownBy W' (some bm)) : Box W' b cs T := by
  obtain ⟨es, clock, h1, _⟩ := h.memo
  exact hB.grown h1 hg
theorem WorkAt.row (h : WorkAt W bw bm q L av) {a : Option Addr} {size : Nat} {xs : List (List Value)} (hB : RowAt W a size xs) (hg : W.grownBy W' (some bm)) : RowAt W' a size xs := by
  obtain ⟨es, clock, h1, _⟩ := h.memo
  exact hB.grown h1 hg
theorem WorkAt.ne {b : Nat} (h : WorkAt W bw bm q L av) {cs : Array Value} {T : TypeId} (hB : Box W b cs T) : b ≠ bm := by
  obtain ⟨es, clock, h1, _⟩ := h.memo
  rintro rfl
  have h2 : W.heap[b]? = some (.cells cs T) := hB
  have h3 : W.heap[b]? = some (.map es clock) := h1
  rw [h2] at h3; cases h3
theorem WorkAt.more (h : WorkAt W bw bm q L av) (av' : Nat → Prop) (hav : ∀ b, av' b → av b ∨ W.heap.size ≤ b) : WorkAt W bw bm q L av' := ⟨h.box, h.land, h.memo.more av' hav⟩
/-- A later world that has a map as good. -/
theorem WorkAt.grown (h : WorkAt W bw bm q L av) (hg : W.grownBy W' (some bm)) {av' : Nat → Prop} (hm : Memo W' bm L av') : WorkAt W' bw bm q L av' := by
  obtain ⟨es, clock, h1, _⟩ := h.memo
  exact ⟨h.box.grown h1 hg, h.land.grown h1 hg, hm⟩
end
/-- It returns v; nothing has turned but the map, which is as good as before. -/
def RetW (v : Value) (bw bm : Nat) (q : LV) (L : Land) (av : Nat → Prop) (w : World) (e : Ending) (w' : World) : Prop := e = .returned v ∧ w.grownBy w' (some bm) ∧ WorkAt w' bw bm q L av
theorem Own.base {W : World} {base E size b o n c : Nat} {xs : List (List Value)} (h : Own W base E size (.slice (some ⟨b, o, none⟩) n c) xs) : base ≤ b := by
  obtain ⟨⟨_, h1⟩, _⟩ := h
  rcases h1 with ⟨hv, _⟩ | ⟨g, cap, cur, hv, hg, _⟩
  · cases hv
  · cases hv; exact hg
end Go.Proofs.YtingfmdbihbamaaGreat
end

section
/- A land at work, the walks: the ridges that block between two stations, as they are remembered. -/
open Go.RowKit
namespace Go.Proofs.YtingfmdbihbamaaGreat
open Go.Hill

theorem elem_int : Elem Tryz.prog 41 3 1 8 := ⟨by kernel_rfl, by kernel_rfl⟩
def RetInts (l : List Int) (bw bm : Nat) (q : LV) (L : Land) (av : Nat → Prop) (w : World) (e : Ending) (w' : World) : Prop :=
  ∃ a c, e = .returned (.slice a l.length c) ∧ w.grownBy w' (some bm) ∧ WorkAt w' bw bm q L av ∧ IntsOff w' av a l

theorem look_cls {W : World} {bm clock : Nat} {es : Array MapEntry} {v : Value} {i j : Int} (hm : MapIs W bm es clock)
    (h : ∀ W bm clock, MapIs W bm es clock → (Instr.lookup 188 (.map (some bm)) (pairV i j) true).run Tryz.prog W = .ok v W) (d : Nat) (os : Array Obj) :
    (Instr.lookup 188 (.map (some bm)) (pairV i j) true).run Tryz.prog (Sort.grow (redrawn W d) os) = .ok v (Sort.grow (redrawn W d) os) :=
  h _ bm clock (((below_regrown W d os).block bm (Array.getElem?_eq_some_iff.1 hm).1).trans hm)

set_option maxRecDepth 100000 in
set_option maxHeartbeats 4000000 in
theorem ridges_any (bw bm : Nat) (q : LV) (L : Land) (av : Nat → Prop) (i j : Nat) (a b : Stn) (w : World) (hw : WorkAt w bw bm q L av) (hav : ∀ b, av b → b < w.heap.size) (hF : Fits L) (l2 : L.rd.length ≤ 1000) (_l1 : L.st.length ≤ 1000) (hi : L.st[i]? = some a) (hj : L.st[j]? = some b) :
    Calls Tryz.prog 123 #[.pointer (some ⟨bw, 0, none⟩), pairV i j] w (RetInts (L.rbs i j) bw bm q L av w) := by
  obtain ⟨es, clock, hm, hp, hes⟩ := hw.memo
  have HW := Lib.hid hw
  have HM := Lib.hid hm
  have HP := Lib.hid hp
  have HE := Lib.hid hes
  have B1 := hw.box
  have hl := look_map hp i j
  clear hm hp hes
  rcases hl with ⟨hlook, hfresh⟩ | ⟨e, he, hk, hlook⟩
  case inr =>
    obtain ⟨ra, rc, hv, hr⟩ := HE.out i j e he hk
    rw [hv] at hlook
    have HL := Lib.hid hlook
    have HR := Lib.hid hr
    clear hav hlook hr he hk hv HE hw
    go_enter Tryz.func123, Tryz.ntmps123
    go_wp2_with fail
    refine named1 (p := Code.wp _ _ _ _) ?_
    intro W hW B3
    (try clear c1 t1); replace B1 := B1.later hW; have c1 := B1.cell; have t1 := B1.lt
    have c3 := B3.cell; have t3 := B3.lt
    have hlook := look_cls (W := W) ((hW.block bm (Array.getElem?_eq_some_iff.1 HM.out).1).trans HM.out) HL.out
    refine Fat.wp_region_tail 11 (by kernel_rfl) (by kernel_rfl) ?_
    simp only [List.take_succ_cons, List.drop_succ_cons, List.take_nil, List.drop_nil]
    repeat (go_big_quiet_step (fail))
    refine wpQuiet_nil ?_
    intro w1 hb1
    replace hW := over hW hb1
    clear hlook c1 t1 c3 t3 B1 B3 hb1
    go_wp2_with fail
    go_ret
    exact ⟨ra, rc, rfl, Below.grown hW _, HW.out.later hW, HR.out.1.later hW, HR.out.2⟩
  have HL := Lib.hid hlook
  have HFr := Lib.hid hfresh
  have k1 : i < L.st.length := (List.getElem?_eq_some_iff.1 hi).1
  have k2 : j < L.st.length := (List.getElem?_eq_some_iff.1 hj).1
  obtain ⟨p1, o1, ea1, hC1⟩ := hw.land.st.at k1
  have HC1 := Lib.hid hC1
  have HR2 := Lib.hid hw.land.rd
  rw [ea1] at B1
  generalize q.a2 = a2 at B1 HR2
  have HI := Lib.hid hi
  have HJ := Lib.hid hj
  have ha := hF.st a (List.mem_of_getElem? hi)
  have hbb := hF.st b (List.mem_of_getElem? hj)
  have HAv := Lib.hid hav
  have HRd : Hid (∀ s ∈ L.rd, s.In) := fun s hs => (hF.rd s hs).1
  have r1 : (0 : Int) ≤ (i : Int) := by omega
  have r2 : (i : Int) < (L.st.length : Int) := by omega
  have r3 : (0 : Int) ≤ (j : Int) := by omega
  have r4 : (j : Int) < (L.st.length : Int) := by omega
  clear hav hlook hfresh hw hC1 ea1 hi hj hF
  go_enter Tryz.func123, Tryz.ntmps123
  go_wp2_with fail
  refine named1 (p := Code.wp _ _ _ _) ?_
  intro W hW B3
  (try clear c1 t1); replace B1 := B1.later hW; have c1 := B1.cell; have t1 := B1.lt
  have c3 := B3.cell; have t3 := B3.lt
  have hlook := look_cls (W := W) ((hW.block bm (Array.getElem?_eq_some_iff.1 HM.out).1).trans HM.out) HL.out
  refine Fat.wp_region_tail 11 (by kernel_rfl) (by kernel_rfl) ?_
  simp only [List.take_succ_cons, List.drop_succ_cons, List.take_nil, List.drop_nil]
  repeat (go_big_quiet_step (fail))
  refine wpQuiet_nil ?_
  intro W1 hb1
  replace hW := over hW hb1
  (try clear c1 t1 c3 t3); replace B1 := B1.later hb1; replace B3 := B3.later hb1; have c1 := B1.cell; have t1 := B1.lt; have c3 := B3.cell; have t3 := B3.lt
  clear hlook hb1
  go_wp2_with fail
  clear W
  obtain ⟨W, rfl⟩ : ∃ W : World, W = W1 := ⟨_, rfl⟩
  go_loopw [5, 26] (fun v i' wr => ∃ k : Nat, k ≤ L.rd.length ∧ i' = .int .i64 k ∧ Below W.heap.size W wr ∧ Own wr W.heap.size 3 1 v (ivs (sel (L.rb i j) k))) (fun _ i' _ => L.rd.length - (intOf i').toNat)
  case atStart => exact ⟨0, Nat.zero_le _, rfl, Below.refl _ _, Own.nil _ _ _ _⟩
  case round =>
    obtain ⟨k, hk, rfl, hb, ho⟩ := hrel
    have HO := Lib.hid ho
    clear ho
    (try clear c1 t1 c3 t3); replace B1 := B1.later hb; replace B3 := B3.later hb; have c1 := B1.cell; have t1 := B1.lt; have c3 := B3.cell; have t3 := B3.lt
    by_cases hlt : k < L.rd.length
    · obtain ⟨p2, o2, rfl, hC2⟩ := RowAt.at HR2.out hlt
      obtain ⟨x, hx⟩ : ∃ x, L.rd[k]? = some x := ⟨L.rd[k], by simp⟩
      obtain ⟨e0, e1, e2, e3, e4, e5⟩ := cells_wl ((hC2.later hW).later hb) hx
      have z2 := block_lt_of_cell e0
      have hs := HRd.out x (List.mem_of_getElem? hx)
      have hrb : L.rb i j k = blk x a b := by unfold Land.rb; rw [hx, HI.out, HJ.out]
      obtain ⟨rb, hrbv⟩ : ∃ rb, rb = L.rb i j k := ⟨_, rfl⟩
      have HCall : Hid (∀ w', Calls Tryz.prog 125 #[.agg #[.int .i64 x.X1, .int .i64 x.Y1, .int .i64 x.X2, .int .i64 x.Y2, .int .i64 x.B, .int .i64 x.T], .agg #[.int .i64 a.X, .int .i64 a.Y, .int .i64 a.Z, .int .i64 a.M], .agg #[.int .i64 b.X, .int .i64 b.Y, .int .i64 b.Z, .int .i64 b.M]] w' (Ret (.bool rb) w')) := fun w' => by rw [hrbv, hrb]; exact blocks_any x a b w' ha hbb hs
      have HRb := Lib.hid hrbv
      clear hx hC2 hrb hrbv hs
      go_wp2_with fail
      obtain ⟨wo, rfl⟩ : ∃ wo : World, wo = wr := ⟨_, rfl⟩
      refine named1 (p := Code.wp _ _ _ _) ?_
      intro w4 hb4 B8
      replace hb := over hb hb4
      (try clear c1 t1 c3 t3); replace B1 := B1.later hb4; replace B3 := B3.later hb4; have c1 := B1.cell; have t1 := B1.lt; have c3 := B3.cell; have t3 := B3.lt
      have c8 := B8.cell; have t8 := B8.lt
      clear e0 e1 e2 e3 e4 e5 z2
      obtain ⟨e0, e1, e2, e3⟩ := cells_st ((HC1.out.later hW).later hb) HI.out
      obtain ⟨f0, f1, f2, f3⟩ := cells_st ((HC1.out.later hW).later hb) HJ.out
      have z1 := block_lt_of_cell e0
      have HO4 := Lib.hid (HO.out.later hb4)
      clear HO hb4
      refine Fat.wp_region_tail 20 (by kernel_rfl) (by kernel_rfl) ?_
      simp only [List.take_succ_cons, List.drop_succ_cons, List.take_nil, List.drop_nil]
      repeat (go_big_quiet_step (exact Calls.regrown_of (HCall.out _)))
      refine wpQuiet_nil ?_
      intro w5 hb5
      replace hb := over hb hb5
      (try clear c1 t1 c3 t3); replace B1 := B1.later hb5; replace B3 := B3.later hb5; have c1 := B1.cell; have t1 := B1.lt; have c3 := B3.cell; have t3 := B3.lt
      have HO5 := Lib.hid (HO4.out.later hb5)
      clear HO4 hb5 e0 e1 e2 e3 f0 f1 f2 f3 z1 c8 t8 B8
      cases rb with
      | false =>
        go_wp2_with fail
        go_roundw
        case rel => exact ⟨k + 1, by omega, by go_num, hb, by rw [sel_no HRb.out.symm]; exact HO5.out⟩
        case measure => simp [intOf]; omega
      | true =>
        have hn := sel_len (L.rb i j) k
        go_wp2_with (at_builtin; refine named1 (p := wpList _ _ _ _ _) ?_; intro w6 hb6 B53; have hO := HO5.out.later hb6; refine wpList_grow rfl (.tmp 51) (.tmp 53) 41 rfl elem_int rfl hO rfl B53 rfl (by omega) rfl (n := (sel (L.rb i j) k).length) (by simp) (by omega) (by omega) (Nat.le_trans hb.size hb6.size) ?_; intro a' c' W' hO' hb' hg'; have hb := (over hb hb6).trans hb'; clear hg' hO B53 hb' hb6)
        have HN : Hid (Own W' W.heap.size 3 1 (.slice a' ((sel (L.rb i j) k).length + 1) c') (ivs (sel (L.rb i j) (k + 1)))) := by
          rw [Hid, sel_yes HRb.out.symm, ivs, List.map_append]; exact hO'
        clear hO'
        go_roundw
        case rel => exact ⟨k + 1, by omega, by go_num, hb, HN.out⟩
        case measure => simp [intOf]; omega
    · obtain rfl : k = L.rd.length := by omega
      have ho := HO.out
      obtain ⟨ra, rc, rfl, _, hr⟩ := ho.row
      have HOff : Hid (∀ b o, ra = some ⟨b, o, none⟩ → sel (L.rb i j) L.rd.length ≠ [] → ¬ av b) := fun b o e _ hv => by
        subst e
        have h1 := ho.base
        have h2 := HAv.out b hv
        have h3 := hW.size
        omega
      rw [List.length_map]
      have HR := Lib.hid hr
      clear hr ho HO
      go_wp2_with fail
      refine Fat.wp_region_tail 6 (by kernel_rfl) (by kernel_rfl) ?_
      simp only [List.take_succ_cons, List.drop_succ_cons, List.take_zero, List.drop_zero]
      repeat (go_big_quiet_step (fail))
      refine wpQuiet_nil ?_
      intro w7 hb7
      replace hb := over hb hb7
      have hm7 : MapIs w7 bm es clock := ((over hW hb).block bm (Array.getElem?_eq_some_iff.1 HM.out).1).trans HM.out
      obtain ⟨w8, hrun, hm8, hg8⟩ := put_map HP.out HFr.out (.slice ra (sel (L.rb i j) L.rd.length).length rc) hm7
      have HM7 := Lib.hid hm7
      have HM8 := Lib.hid hm8
      have HR7 := Lib.hid (HR.out.later hb7)
      clear c1 t1 c3 t3 B1 B3 hb7 hm7 hm8 HR
      go_wp2_with fail
      go_ret
      have hE := HE.out
      exact ⟨ra, rc, rfl, grown_trans (Below.grown (over hW hb) _) hg8,
        ⟨(HW.out.later (over hW hb)).box.grown HM7.out hg8, (HW.out.later (over hW hb)).land.grown HM7.out hg8, Memo.put HM7.out HP.out
          (fun i' j' e he hk => by obtain ⟨a1, c1, h4, h5, h6⟩ := hE i' j' e he hk; exact ⟨a1, c1, h4, h5.later (over hW hb), h6⟩) ⟨HR7.out, HOff.out⟩ HM8.out hg8⟩, HR7.out.grown HM7.out hg8, HOff.out⟩
end Go.Proofs.YtingfmdbihbamaaGreat
end

section
/- A land at work, the walks: the clouds that block, yielded one by one. -/
open Go.RowKit Go.Shelf
namespace Go.Proofs.YtingfmdbihbamaaGreat
open Go.Hill
attribute [local go_sem] Oper.semAt_some

/-- The numbers below n that pass. -/
def selN (p : Nat → Bool) (n : Nat) : List Nat := (List.range n).filter p
theorem selN_yes {p : Nat → Bool} {n : Nat} (h : p n = true) : selN p (n + 1) = selN p n ++ [n] := by simp [selN, List.range_succ, List.filter_append, h]
theorem selN_no {p : Nat → Bool} {n : Nat} (h : p n = false) : selN p (n + 1) = selN p n := by simp [selN, List.range_succ, List.filter_append, h]
theorem selN_len (p : Nat → Bool) (n : Nat) : (selN p n).length ≤ n := Nat.le_trans (List.length_filter_le _ _) (by simp)
theorem selN_pre (p : Nat → Bool) {k n : Nat} (h : k ≤ n) : selN p k <+: selN p n := by
  obtain ⟨d, rfl⟩ := Nat.le.dest h
  rw [selN, selN, List.range_add, List.filter_append]
  exact List.prefix_append _ _
theorem sel_eq (p : Nat → Bool) (n : Nat) : sel p n = (selN p n).map fun i : Nat => (i : Int) := rfl

def RetSeq (bw : Nat) (i j k t : Nat) (w : World) (e : Ending) (w' : World) : Prop :=
  ∃ b4 b5 b6 b7 : Nat, e = .returned (.func (.func 126) #[] #[.pointer (some ⟨b4, 0, none⟩), .pointer (some ⟨b6, 0, none⟩), .pointer (some ⟨b7, 0, none⟩), .pointer (some ⟨b5, 0, none⟩)]) ∧ Below w.heap.size w w' ∧
    Box w' b4 #[.pointer (some ⟨bw, 0, none⟩)] 171 ∧ Box w' b5 #[.int .i64 i, .int .i64 j] 176 ∧ Box w' b6 #[.int .i64 k] 3 ∧ Box w' b7 #[.int .i64 t] 3

theorem clouds_mk (bw : Nat) (i j k t : Nat) (w : World) : Calls Tryz.prog 124 #[.pointer (some ⟨bw, 0, none⟩), pairV i j, .int .i64 k, .int .i64 t] w (RetSeq bw i j k t w) := by
  go_enter Tryz.func124, Tryz.ntmps124
  go_wp2_with fail
  go_ret
  refine named4 (p := RetSeq bw i j k t w _) ?_
  intro W hW B4 B5 B6 B7
  exact ⟨_, _, _, _, rfl, hW, B4, B5, B6, B7⟩

set_option maxRecDepth 100000 in
set_option maxHeartbeats 4000000 in
theorem clouds_stops (m : Nat) (b4 b5 b6 b7 bw bm : Nat) (q : LV) (L : Land) (av : Nat → Prop) (i j k t : Nat) (a b : Stn) (cs : List Cd) (w : World) (hw : WorkAt w bw bm q L av) (hF : Fits L) (hk : L.cs[k]? = some cs) (hcl : cs.length ≤ 1000) (_l1 : L.st.length ≤ 1000) (_l3 : L.cs.length ≤ 1000)
    (hi : L.st[i]? = some a) (hj : L.st[j]? = some b)
    (B4 : Box w b4 #[.pointer (some ⟨bw, 0, none⟩)] 171) (B5 : Box w b5 #[.int .i64 i, .int .i64 j] 176) (B6 : Box w b6 #[.int .i64 k] 3) (B7 : Box w b7 #[.int .i64 t] 3) :
    SeqStopsK Fence.wide (m + 1) Tryz.prog 126 #[.pointer (some ⟨b4, 0, none⟩), .pointer (some ⟨b6, 0, none⟩), .pointer (some ⟨b7, 0, none⟩), .pointer (some ⟨b5, 0, none⟩)]
      (fun x : Nat => #[.int .i64 x]) (Below w.heap.size) (fun ys => ys = selN (L.cb i j k t) cs.length) (fun pre => pre <+: selN (L.cb i j k t) cs.length ∧ pre ≠ []) cs.length w := by
  intro l J Jx W hW hJ hJx hY h0
  have HY := Lib.hid hY
  have HJ := Lib.hid hJ
  clear hY hJ hJx
  have B1 := hw.box
  obtain ⟨cl, hcl1, hrow, hcs⟩ := hw.land.cs
  obtain ⟨⟨xa, xc, xs⟩, hx, hxc⟩ : ∃ x, cl[k]? = some x ∧ x.cs = cs := by
    rw [← hcl1, List.getElem?_map] at hk
    cases hc : cl[k]? with
    | none => rw [hc] at hk; cases hk
    | some x => rw [hc] at hk; exact ⟨x, rfl, by simpa using hk⟩
  obtain rfl : xs = cs := hxc
  have hkl : k < cl.length := (List.getElem?_eq_some_iff.1 hx).1
  have hcll : cl.length = L.cs.length := by rw [← hcl1]; simp
  obtain ⟨p3, o3, ea3, hC3⟩ := hrow.at hkl
  have k1 : i < L.st.length := (List.getElem?_eq_some_iff.1 hi).1
  have k2 : j < L.st.length := (List.getElem?_eq_some_iff.1 hj).1
  obtain ⟨p1, o1, ea1, hC1⟩ := hw.land.st.at k1
  have HC1 := Lib.hid hC1
  have HX : Hid (RowAt w xa 8 (xs.map Cd.vs)) := hcs _ (List.mem_of_getElem? hx)
  have d0 : w.cell? ⟨p3, o3 + k, none⟩ = some (.slice xa xs.length xc) := cells_one (f := fun x : CV => Value.slice x.a x.cs.length x.c) hC3 hx
  rw [ea1, ea3] at B1
  have HI := Lib.hid hi
  have HJ' := Lib.hid hj
  have ha := hF.st a (List.mem_of_getElem? hi)
  have hbb := hF.st b (List.mem_of_getElem? hj)
  have HCd : Hid (∀ c ∈ xs, c.wl.In) := hF.cs xs (List.mem_of_getElem? hk)
  have HK : Hid (L.kase k = xs) := by unfold Hid Land.kase; rw [hk]; rfl
  have r1 : (0 : Int) ≤ (i : Int) := by omega
  have r2 : (i : Int) < (L.st.length : Int) := by omega
  have r3 : (0 : Int) ≤ (j : Int) := by omega
  have r4 : (j : Int) < (L.st.length : Int) := by omega
  have r5 : (0 : Int) ≤ (k : Int) := by omega
  have r6 : (k : Int) < (L.cs.length : Int) := by omega
  have y0 := block_lt_of_cell d0
  have d1 : W.cell? ⟨p3, o3 + k, none⟩ = some (.slice xa xs.length xc) := (hW.cell (p := ⟨p3, o3 + k, none⟩) y0).trans d0
  have y1 := block_lt_of_cell d1
  clear hrow hcs hcl1 hC3 hx hkl ea1 ea3 hC1 hi hj hF hk hw d0 y0 hcll k1 k2
  have HB1 := Lib.hid B1
  have HB4 := Lib.hid B4
  have HB5 := Lib.hid B5
  have HB6 := Lib.hid B6
  have HB7 := Lib.hid B7
  (try clear c1 t1 c4 t4 c5 t5 c6 t6 c7 t7); replace B1 := B1.later hW; replace B4 := B4.later hW; replace B5 := B5.later hW; replace B6 := B6.later hW; replace B7 := B7.later hW; have c1 := B1.cell; have t1 := B1.lt; have c4 := B4.cell; have t4 := B4.lt; have c5 := B5.cell; have t5 := B5.lt; have c6 := B6.cell; have t6 := B6.lt; have c7 := B7.cell; have t7 := B7.lt
  refine callsIn_of_wp Tryz.func126 rfl trivial ?_ rfl
  simp only [Tryz.ntmps126, List.size_toArray, List.length_cons, List.length_nil, Nat.reduceAdd, Nat.reduceSub, Array.replicate_succ, Array.replicate_zero, List.push_toArray, List.append_toArray, List.nil_append, List.cons_append]
  gi_wp2
  refine Fat.wpIn_region_tail 10 (by kernel_rfl) (by kernel_rfl) ?_
  simp only [List.take_succ_cons, List.drop_succ_cons, List.take_nil, List.drop_nil]
  repeat (go_big_quiet_step (fail))
  refine wpQuiet_nil ?_
  intro W2 hb2
  have h2 : J [] W2 := HJ.out _ _ _ none h0 (Below.grown hb2 none) (fun r e => by cases e)
  have HS : Hid (W.heap.size ≤ W2.heap.size) := hb2.size
  replace hW := over hW hb2
  (try clear c1 t1 c4 t4 c5 t5 c6 t6 c7 t7); replace B1 := B1.later hb2; replace B4 := B4.later hb2; replace B5 := B5.later hb2; replace B6 := B6.later hb2; replace B7 := B7.later hb2; have c1 := B1.cell; have t1 := B1.lt; have c4 := B4.cell; have t4 := B4.lt; have c5 := B5.cell; have t5 := B5.lt; have c6 := B6.cell; have t6 := B6.lt; have c7 := B7.cell; have t7 := B7.lt
  clear hb2 d1 y1 h0
  gi_wp2
  gi_loopw [17] (fun i' wr => ∃ n : Nat, n ≤ xs.length ∧ i' = .int .i64 n ∧ Below w.heap.size w wr ∧ J (selN (L.cb i j k t) n) wr) (fun i' _ => xs.length - (intOf i').toNat)
  case atStart => exact ⟨0, Nat.zero_le _, rfl, hW, h2⟩
  case round =>
    obtain ⟨n, hn, rfl, hb, hj⟩ := hrel
    clear hW h2 c1 t1 c4 t4 c5 t5 c6 t6 c7 t7 B1 B4 B5 B6 B7
    have B1 := HB1.out.later hb
    have B4 := HB4.out.later hb
    have B5 := HB5.out.later hb
    have B6 := HB6.out.later hb
    have B7 := HB7.out.later hb
    have c1 := B1.cell; have t1 := B1.lt; have c4 := B4.cell; have t4 := B4.lt; have c5 := B5.cell; have t5 := B5.lt; have c6 := B6.cell; have t6 := B6.lt; have c7 := B7.cell; have t7 := B7.lt
    by_cases hlt : n < xs.length
    · obtain ⟨p2, o2, rfl, hC2⟩ := RowAt.at HX.out hlt
      obtain ⟨c, hc⟩ : ∃ c, xs[n]? = some c := ⟨xs[n], by simp⟩
      obtain ⟨e0, e1, e2, e3, e4, e5, e6, e7⟩ := cells_cd (hC2.later hb) hc
      have y2 := block_lt_of_cell e0
      have hcw := HCd.out c (List.mem_of_getElem? hc)
      have hcb : L.cb i j k t n = (inB t c.fr c.to && blk c.wl a b) := by unfold Land.cb; rw [HK.out, hc, HI.out, HJ'.out]
      have HCB := Lib.hid hcb
      obtain ⟨v1, hv1⟩ : ∃ v1, v1 = inB t c.fr c.to := ⟨_, rfl⟩
      obtain ⟨v2, hv2⟩ : ∃ v2, v2 = blk c.wl a b := ⟨_, rfl⟩
      have HV1 : Hid (∀ w', Calls Tryz.prog 85 #[.int .i64 t, .int .i64 c.fr, .int .i64 c.to] w' (Ret (.bool v1) w')) := fun w' => by rw [hv1]; exact within_any _ _ _ w'
      have HV2 : Hid (∀ w', Calls Tryz.prog 125 #[.agg #[.int .i64 c.wl.X1, .int .i64 c.wl.Y1, .int .i64 c.wl.X2, .int .i64 c.wl.Y2, .int .i64 c.wl.B, .int .i64 c.wl.T], .agg #[.int .i64 a.X, .int .i64 a.Y, .int .i64 a.Z, .int .i64 a.M], .agg #[.int .i64 b.X, .int .i64 b.Y, .int .i64 b.Z, .int .i64 b.M]] w' (Ret (.bool v2) w')) := fun w' => by rw [hv2]; exact blocks_any c.wl a b w' ha hbb hcw
      have HCv : Hid (L.cb i j k t n = (v1 && v2)) := by rw [hv1, hv2]; exact hcb
      clear hc hC2 hcb hv1 hv2 hcw
      gi_wp2
      obtain ⟨wo, rfl⟩ : ∃ wo : World, wo = wr := ⟨_, rfl⟩
      refine named1 (p := Code.wpIn _ _ _ _ _ _) ?_
      intro w4 hb4 B8
      have hj4 : J (selN (L.cb i j k t) n) w4 := HJ.out _ _ _ none hj (Below.grown hb4 none) (fun r e => by cases e)
      replace hb := over hb hb4
      (try clear c1 t1 c4 t4 c5 t5 c6 t6 c7 t7); replace B1 := B1.later hb4; replace B4 := B4.later hb4; replace B5 := B5.later hb4; replace B6 := B6.later hb4; replace B7 := B7.later hb4; have c1 := B1.cell; have t1 := B1.lt; have c4 := B4.cell; have t4 := B4.lt; have c5 := B5.cell; have t5 := B5.lt; have c6 := B6.cell; have t6 := B6.lt; have c7 := B7.cell; have t7 := B7.lt
      have c8 := B8.cell; have t8 := B8.lt
      clear e0 e1 e2 e3 e4 e5 e6 e7 y2 hb4 hj
      obtain ⟨e0, e1, e2, e3⟩ := cells_st (HC1.out.later hb) HI.out
      obtain ⟨f0, f1, f2, f3⟩ := cells_st (HC1.out.later hb) HJ'.out
      have z1 := block_lt_of_cell e0
      cases v1 with
      | false =>
        refine Fat.wpIn_region_tail 32 (by kernel_rfl) (by kernel_rfl) ?_
        simp only [List.take_succ_cons, List.drop_succ_cons, List.take_zero, List.drop_zero]
        repeat (go_big_quiet_step ((first | with_reducible exact Calls.regrown_of (HV1.out _) | with_reducible exact Calls.regrown_of (HV2.out _))))
        refine wpQuiet_nil ?_
        intro w5 hb5
        have hj5 : J (selN (L.cb i j k t) n) w5 := HJ.out _ _ _ none hj4 (Below.grown hb5 none) (fun r e => by cases e)
        replace hb := over hb hb5
        clear hb5 e0 e1 e2 e3 f0 f1 f2 f3 z1 c8 t8 B8 hj4 c1 t1 c4 t4 c5 t5 c6 t6 c7 t7 B1 B4 B5 B6 B7
        gi_wp2
        refine ⟨fun _ h => (by cases h), ?_⟩
        gi_wp2
        go_roundw
        case rel => exact ⟨n + 1, by omega, by go_num, hb, by rw [selN_no HCv.out]; exact hj5⟩
        case measure => simp [intOf]; omega
      | true =>
        cases v2 with
        | false =>
          refine Fat.wpIn_region_tail 32 (by kernel_rfl) (by kernel_rfl) ?_
          simp only [List.take_succ_cons, List.drop_succ_cons, List.take_zero, List.drop_zero]
          repeat (go_big_quiet_step ((first | with_reducible exact Calls.regrown_of (HV1.out _) | with_reducible exact Calls.regrown_of (HV2.out _))))
          refine wpQuiet_nil ?_
          intro w5 hb5
          have hj5 : J (selN (L.cb i j k t) n) w5 := HJ.out _ _ _ none hj4 (Below.grown hb5 none) (fun r e => by cases e)
          replace hb := over hb hb5
          clear hb5 e0 e1 e2 e3 f0 f1 f2 f3 z1 c8 t8 B8 hj4 c1 t1 c4 t4 c5 t5 c6 t6 c7 t7 B1 B4 B5 B6 B7
          gi_wp2
          refine ⟨fun _ h => (by cases h), ?_⟩
          gi_wp2
          go_roundw
          case rel => exact ⟨n + 1, by omega, by go_num, hb, by rw [selN_no HCv.out]; exact hj5⟩
          case measure => simp [intOf]; omega
        | true =>
          refine Fat.wpIn_region_tail 32 (by kernel_rfl) (by kernel_rfl) ?_
          simp only [List.take_succ_cons, List.drop_succ_cons, List.take_zero, List.drop_zero]
          repeat (go_big_quiet_step ((first | with_reducible exact Calls.regrown_of (HV1.out _) | with_reducible exact Calls.regrown_of (HV2.out _))))
          refine wpQuiet_nil ?_
          intro w5 hb5
          have hj5 : J (selN (L.cb i j k t) n) w5 := HJ.out _ _ _ none hj4 (Below.grown hb5 none) (fun r e => by cases e)
          replace hb := over hb hb5
          clear hb5 e0 e1 e2 e3 f0 f1 f2 f3 z1 c8 t8 B8 hj4 c1 t1 c4 t4 c5 t5 c6 t6 c7 t7 B1 B4 B5 B6 B7
          obtain ⟨fn, tmps, assign, body, hy, hR⟩ := HY.out _ n w5 hj5 (Nat.lt_of_le_of_lt (selN_len _ _) hlt)
          gi_wp2
          refine hR.mono ?_
          rintro e w6 (⟨rfl, hj6, hb6⟩ | ⟨rfl, hjx⟩)
          · clear hy hR
            gi_wp2
            go_roundw
            case rel => exact ⟨n + 1, by omega, by go_num, hb.trans hb6, by rw [selN_yes HCv.out]; exact hj6⟩
            case measure => simp [intOf]; omega
          · clear hy hR
            gi_wp2
            refine bodyPost_ret (results_none rfl _ _ _) rfl ?_
            exact ⟨⟨_, rfl⟩, .inr ⟨_, ⟨by rw [← selN_yes HCv.out]; exact selN_pre _ (by omega), by simp⟩, hjx⟩⟩
    · obtain rfl : n = xs.length := by omega
      gi_wp2
      go_end0
      exact ⟨⟨_, rfl⟩, .inl ⟨_, rfl, hj⟩⟩
end Go.Proofs.YtingfmdbihbamaaGreat
end

section
/- A land at work, the walks: the reason, and the first wall. -/
open Go.RowKit Go.Shelf
namespace Go.Proofs.YtingfmdbihbamaaGreat
open Go.Hill
attribute [local go_sem] Oper.semAt_some

/-- Two variables are written. -/
theorem two_set {W : World} {b8 b9 : Nat} {x y : Value} {T T' : TypeId} (B8 : Box W b8 #[x] T) (B9 : Box W b9 #[y] T') (hne : b8 ≠ b9) (u v : Value) :
    Box ((W.setCell ⟨b8, 0, none⟩ u).setCell ⟨b9, 0, none⟩ v) b8 #[u] T ∧ Box ((W.setCell ⟨b8, 0, none⟩ u).setCell ⟨b9, 0, none⟩ v) b9 #[v] T' := by
  have h1 := setCell_box B8 0 u
  have h2 := (setCell_but W b8 0 u).box B9 (Ne.symm hne)
  exact ⟨(setCell_but _ b9 0 v).box h1 hne, setCell_box h2 0 v⟩
theorem two_grown {w W : World} {b8 b9 : Nat} {row : Option Nat} (hg : w.grownBy W row) (h8 : w.heap.size ≤ b8) (h9 : w.heap.size ≤ b9) (u v : Value) : w.grownBy ((W.setCell ⟨b8, 0, none⟩ u).setCell ⟨b9, 0, none⟩ v) row :=
  ⟨hg.os, hg.tape, hg.output, by simpa [World.setCell] using hg.size, fun k hk hne => by
    rw [(setCell_but _ b9 0 v).block k (by omega), (setCell_but W b8 0 u).block k (by omega)]
    exact hg.block k hk hne⟩

theorem grown_drew {w W : World} {row : Option Nat} (h : w.grownBy W row) : w.grownBy W.drew row := ⟨h.os, h.tape, h.output, h.size, h.block⟩
theorem two_memo {W : World} {bm b8 b9 : Nat} {L : Land} {av : Nat → Prop} (h : Memo W bm L av) (a8 : av b8) (a9 : av b9) (n8 : b8 ≠ bm) (n9 : b9 ≠ bm) (u v : Value) : Memo ((W.setCell ⟨b8, 0, none⟩ u).setCell ⟨b9, 0, none⟩ v) bm L av :=
  (h.but (setCell_but W b8 0 u) a8 n8).but (setCell_but _ b9 0 v) a9 n9

theorem range_end {w w6 W1 W2 : World} {bw bm b8 b9 D : Nat} {q : LV} {L : Land} {AV : Nat → Prop} {T8 T9 : TypeId} {x8 x9 : Value} (HG : w.grownBy w6 (some bm)) (hw6 : WorkAt w6 bw bm q L AV) (D8 : Box w6 b8 #[x8] T8) (D9 : Box w6 b9 #[x9] T9)
    (hne : b8 ≠ b9) (h8 : w.heap.size ≤ b8) (h9 : w.heap.size ≤ b9) (a8 : AV b8) (a9 : AV b9) (hb : Below w6.heap.size w6 W1) (u v : Value)
    (h2 : Below w6.heap.size ((W1.setCell ⟨b8, 0, none⟩ u).setCell ⟨b9, 0, none⟩ v) W2) (hK : W2.heap[D]? = some (.deferred (some []))) (hD : w6.heap.size ≤ D) :
    Box (W2.putObj D (.deferred none)) b8 #[u] T8 ∧ Box (W2.putObj D (.deferred none)) b9 #[v] T9 ∧ w.grownBy (W2.putObj D (.deferred none)) (some bm) ∧ Memo (W2.putObj D (.deferred none)) bm L AV := by
  have n8 := hw6.ne D8
  have n9 := hw6.ne D9
  have l8 := D8.lt
  have l9 := D9.lt
  have hlt : D < W2.heap.size := (Array.getElem?_eq_some_iff.1 hK).1
  obtain ⟨E8, E9⟩ := two_set (D8.later hb) (D9.later hb) hne u v
  have far : ∀ k, k < w6.heap.size → (W2.putObj D (.deferred none)).heap[k]? = ((W1.setCell ⟨b8, 0, none⟩ u).setCell ⟨b9, 0, none⟩ v).heap[k]? := fun k hk => by
    rw [World.putObj_heap_other (show k ≠ D by omega), h2.block k hk]
  have same : ∀ k, k < w6.heap.size → k ≠ b8 → k ≠ b9 → (W2.putObj D (.deferred none)).heap[k]? = w6.heap[k]? := fun k hk e8 e9 => by
    rw [far k hk, (setCell_but _ b9 0 v).block k e9, (setCell_but W1 b8 0 u).block k e8, hb.block k hk]
  refine ⟨(far b8 l8).trans E8, (far b9 l9).trans E9, ⟨?_, ?_, ?_, ?_, fun k hk hne' => ?_⟩, hw6.memo.same fun k hk hor => ?_⟩
  · exact (h2.os.trans hb.os).trans HG.os
  · exact (h2.tape.trans hb.tape).trans HG.tape
  · exact (h2.output.trans hb.output).trans HG.output
  · rw [World.putObj_size]; have := HG.size; omega
  · rw [same k (Nat.lt_of_lt_of_le hk HG.size) (by omega) (by omega)]; exact HG.block k hk hne'
  · refine same k hk (fun e => ?_) (fun e => ?_)
    · subst e; rcases hor with h | h
      · exact h a8
      · exact n8 h
    · subst e; rcases hor with h | h
      · exact h a9
      · exact n9 h

theorem enters106 : ∀ args w, (callFunc 126 args).run Tryz.prog w = .ok (.enter 126 args) w := fun _ _ => by kernel_rfl

set_option maxRecDepth 100000 in
set_option maxHeartbeats 4000000 in
theorem why_any (bw bm : Nat) (q : LV) (L : Land) (av : Nat → Prop) (i j k t : Nat) (a b : Stn) (s : Sn) (cs : List Cd) (w : World) (hw : WorkAt w bw bm q L av) (hav : ∀ b, av b → b < w.heap.size) (hF : Fits L)
    (l1 : L.st.length ≤ 1000) (l2 : L.rd.length ≤ 1000) (l3 : L.cs.length ≤ 1000) (_l4 : L.sn.length ≤ 1000) (lc : cs.length ≤ 1000) (hi : L.st[i]? = some a) (hj : L.st[j]? = some b) (hk : L.cs[k]? = some cs) (ht : L.sn[t]? = some s) (r : Int × Int) (hr : L.why i j k t = r) :
    Calls Tryz.prog 119 #[.pointer (some ⟨bw, 0, none⟩), pairV i j, .int .i64 k, .int .i64 t] w (RetW (.tuple #[.int .u8 r.1, .int .i64 r.2]) bw bm q L av w) := by
  have HW := Lib.hid hw
  have HAv := Lib.hid hav
  have HF := Lib.hid hF
  have HI := Lib.hid hi
  have HJ := Lib.hid hj
  have HK := Lib.hid hk
  have HT := Lib.hid ht
  have HR := Lib.hid hr
  have B1 := hw.box
  have k1 : i < L.st.length := (List.getElem?_eq_some_iff.1 hi).1
  have k4 : t < L.sn.length := (List.getElem?_eq_some_iff.1 ht).1
  obtain ⟨p1, o1, ea1, hC1⟩ := hw.land.st.at k1
  obtain ⟨p4, o4, ea4, hC4⟩ := hw.land.sn.at k4
  have r1 : (0 : Int) ≤ (i : Int) := by omega
  have r2 : (i : Int) < (L.st.length : Int) := by omega
  have r5 : (0 : Int) ≤ (t : Int) := by omega
  have r6 : (t : Int) < (L.sn.length : Int) := by omega
  obtain ⟨g0, g1, g2⟩ := cells_sn hC4 ht
  have z4 := block_lt_of_cell g0
  rw [ea1, ea4] at B1
  have HC1 := Lib.hid hC1
  have HC4 := Lib.hid hC4
  have HMir : Hid (∀ W, Below w.heap.size w W → Calls Tryz.prog 122 #[.pointer (some ⟨bw, 0, none⟩), .agg #[.int .i64 i, .int .i64 j], .int .i64 t] W (Ret (.int .i64 (needM s a b)) W)) := fun W hW =>
    mirrors_any q _ _ bw _ L.st L.sn i j t a b s W (hw.land.later hW).st (hw.land.later hW).sn hi hj ht (hF.st a (List.mem_of_getElem? hi)) (hF.st b (List.mem_of_getElem? hj)) (hF.sn s (List.mem_of_getElem? ht)) (hw.later hW).box
  obtain ⟨nm, hnm⟩ : ∃ nm, nm = needM s a b := ⟨_, rfl⟩
  rw [← hnm] at HMir
  have HN : Hid (L.need i j t = nm) := by unfold Hid Land.need; rw [ht, hi, hj, hnm]
  have HM : Hid (L.mir i = a.M) := by unfold Hid Land.mir; rw [hi]
  have HUp : Hid (L.up t = decide (0 < s.U)) := by unfold Hid Land.up; rw [ht]
  clear hw hav hF hi hj hk ht hr ea1 ea4 hC1 hC4 hnm k1 k4
  have hW3 : Below w.heap.size w (((w.alloc (.cells #[.int .i64 i, .int .i64 j] 176)).alloc (.cells #[.int .u8 0] 5)).alloc (.cells #[.int .i64 0] 3)) := (by repeat (first | exact Below.refl _ _ | refine al ?_ _ | refine Below.drew ?_ | refine sc ?_ (by simp) _))
  have c1 := (B1.later hW3).cell
  obtain ⟨f0, f1, f2⟩ := cells_sn (HC4.out.later hW3) HT.out
  clear g0 g1 g2 z4 hW3 f0 f1
  refine (callsIn_wide (n := 6)).1 ?_
  by_cases hU : s.U ≤ 0
  · have HR0 : Hid (r = (1, 0)) := HR.out.symm.trans (why_night (by rw [HUp.out]; simpa using hU))
    refine callsIn_of_wp_marks Tryz.func119 rfl trivial ?_ rfl
    simp only [Tryz.ntmps119, List.size_toArray, List.length_cons, List.length_nil, Nat.reduceAdd, Nat.reduceSub, Array.replicate_succ, Array.replicate_zero, List.push_toArray, List.append_toArray, List.nil_append, List.cons_append]
    gi_wp2
    refine ⟨.tuple #[.int .u8 1, .int .i64 0], by simp [results, Tryz.f119, go_sem], by rw [HR0.out], Below.grown (by repeat (first | exact Below.refl _ _ | refine al ?_ _ | refine Below.drew ?_ | refine sc ?_ (by simp) _)) _, HW.out.later (by repeat (first | exact Below.refl _ _ | refine al ?_ _ | refine Below.drew ?_ | refine sc ?_ (by simp) _))⟩
  · refine callsIn_of_wp_marks Tryz.func119 rfl trivial ?_ rfl
    simp only [Tryz.ntmps119, List.size_toArray, List.length_cons, List.length_nil, Nat.reduceAdd, Nat.reduceSub, Array.replicate_succ, Array.replicate_zero, List.push_toArray, List.append_toArray, List.nil_append, List.cons_append]
    gi_wp2
    refine named3 (p := Code.wpIn _ _ _ _ _ _) ?_
    intro W hW B5 B8 B9
    clear c1 f2
    (try clear c1 t1); replace B1 := B1.later hW; have c1 := B1.cell; have t1 := B1.lt
    have c5 := B5.cell; have t5 := B5.lt
    obtain ⟨e0, e1, e2, e3⟩ := cells_st (HC1.out.later hW) HI.out
    have z1 := block_lt_of_cell e0
    refine Fat.wpIn_region_tail 16 (by kernel_rfl) (by kernel_rfl) ?_
    simp only [List.take_succ_cons, List.drop_succ_cons, List.take_nil, List.drop_nil]
    repeat (go_big_quiet_step (exact Calls.regrown_of (HMir.out _ (over hW (below_regrown _ _ _)))))
    refine wpQuiet_nil ?_
    intro W1 hb1
    replace hW := over hW hb1
    replace B8 := B8.later hb1
    replace B9 := B9.later hb1
    (try clear c1 t1 c5 t5); replace B1 := B1.later hb1; replace B5 := B5.later hb1; have c1 := B1.cell; have t1 := B1.lt; have c5 := B5.cell; have t5 := B5.lt
    clear hb1 e0 e1 e2 e3 z1
    have hne : w.heap.size + 1 ≠ w.heap.size + 1 + 1 := by omega
    have HUT : Hid (L.up t = true) := by rw [Hid, HUp.out]; simpa using hU
    have HAV : Hid (∃ AV : Nat → Prop, AV = fun b => av b ∨ (w.heap.size ≤ b ∧ b ≤ w.heap.size + 1 + 1)) := ⟨_, rfl⟩
    obtain ⟨AV, hAV⟩ := HAV.out
    clear HAV
    have HW' : Hid (WorkAt w bw bm q L AV) := HW.out.more AV (fun b hb => by rw [hAV] at hb; rcases hb with hb | hb; exact .inl hb; exact .inr hb.1)
    have a8 : AV (w.heap.size + 1) := by rw [hAV]; exact .inr ⟨by omega, by omega⟩
    have a9 : AV (w.heap.size + 1 + 1) := by rw [hAV]; exact .inr ⟨by omega, by omega⟩
    have HBack : Hid (∀ b, av b → AV b) := fun b hb => by rw [hAV]; exact .inl hb
    have HFwd : Hid (∀ b, AV b → b ≤ w.heap.size + 1 + 1) := fun b hb => by
      rw [hAV] at hb
      rcases hb with hb | hb
      · have := HAv.out b hb; omega
      · exact hb.2
    clear hAV
    have HA8 := Lib.hid a8
    have HA9 := Lib.hid a9
    clear a8 a9
    have hw1 := HW'.out.later hW
    have n8 := hw1.ne B8
    have n9 := hw1.ne B9
    have HN8 := Lib.hid n8
    have HN9 := Lib.hid n9
    have HNe := Lib.hid hne
    have HW1 := Lib.hid hw1
    clear n8 n9 hne hw1
    by_cases hM : a.M < nm
    · have HR0 : Hid (r = (2, 0)) := HR.out.symm.trans (why_behind HUT.out (by rw [HN.out, HM.out]; exact hM))
      obtain ⟨C8, C9⟩ := two_set B8 B9 HNe.out (.int .u8 2) (.int .i64 0)
      have HC8 := Lib.hid C8
      have HC9 := Lib.hid C9
      clear C8 C9
      have hg := two_grown (Below.grown hW (some bm)) (b8 := w.heap.size + 1) (b9 := w.heap.size + 1 + 1) (by omega) (by omega) (.int .u8 2) (.int .i64 0)
      have HG := Lib.hid hg
      clear hg
      have f8 := B8.frozen
      have f9 := B9.frozen
      have c8 := B8.cell; have t8 := B8.lt; have c9 := B9.cell; have t9 := B9.lt
      gi_wp2
      refine ⟨.tuple #[.int .u8 2, .int .i64 0], by simp [results, Tryz.f119, go_sem, HC8.out.cell, HC9.out.cell], by rw [HR0.out], HG.out, HW.out.grown HG.out ((two_memo HW1.out.memo HA8.out HA9.out HN8.out HN9.out _ _).more av fun b hb => .inl (HBack.out b hb))⟩
    · have HMn : Hid (L.need i j t ≤ L.mir i) := by rw [Hid, HN.out, HM.out]; omega
      gi_wp2
      refine ⟨trivial, ?_⟩
      refine (callsIn_wide.2 (ridges_any bw bm q L AV i j a b W1 HW1.out (fun b hb => Nat.lt_of_le_of_lt (HFwd.out b hb) B9.lt) HF.out l2 l1 HI.out HJ.out)).mono ?_
      rintro e w5 ⟨ra, rc, rfl, hg5, hw5, hr5⟩
      have hg := grown_trans (Below.grown hW (some bm)) hg5
      have D5 := HW1.out.keep B5 hg5
      have D8 := HW1.out.keep B8 hg5
      have D9 := HW1.out.keep B9 hg5
      have HD8 := Lib.hid D8
      have HD9 := Lib.hid D9
      have HG := Lib.hid hg
      have HW5 := Lib.hid hw5
      have HR5 := Lib.hid hr5
      clear c1 t1 c5 t5 B1 B5 B8 B9 hg5 hw5 hr5 hg HW1 hW
      have c5 := D5.cell
      have t5 := D5.lt
      obtain ⟨n, hn⟩ : ∃ n, n = (L.rbs i j).length := ⟨_, rfl⟩
      rw [← hn]
      by_cases h0 : 0 < n
      · obtain ⟨x, hx⟩ : ∃ x, (L.rbs i j)[0]? = some x := ⟨(L.rbs i j)[0], by simp⟩
        have HR0 : Hid (r = (3, x)) := HR.out.symm.trans (why_ridge HUT.out (Int.not_lt.2 HMn.out) hx)
        obtain ⟨pb, po, rfl, hC⟩ := RowAt.at (k := 0) HR5.out.1 (by omega)
        have e0 : w5.cell? ⟨pb, po, none⟩ = some (.int .i64 x) := by simpa using cells_one (k := 0) hC hx
        have hne8 : pb ≠ w.heap.size + 1 := fun e => HR5.out.2 pb po rfl (fun h => by rw [h] at hx; cases hx) (e ▸ HA8.out)
        have e1 : (w5.setCell ⟨w.heap.size + 1, 0, none⟩ (.int .u8 3)).cell? ⟨pb, po, none⟩ = some (.int .i64 x) := by
          rw [← e0, World.cell?, World.cell?]
          simp only
          rw [(setCell_but w5 (w.heap.size + 1) 0 (.int .u8 3)).block pb hne8]
        obtain ⟨C8, C9⟩ := two_set D8 D9 HNe.out (.int .u8 3) (.int .i64 x)
        have HC8 := Lib.hid C8
        have HC9 := Lib.hid C9
        clear C8 C9 hne8
        have c8 := D8.cell
        have f8 := D8.frozen
        have c9 := D9.cell
        have f9 := D9.frozen
        clear hx hC hn
        gi_wp2
        gi_region
        all_goals
          gi_wp2
          have hgd := grown_drew (two_grown HG.out (b8 := w.heap.size + 1) (b9 := w.heap.size + 1 + 1) (by omega) (by omega) (.int .u8 3) (.int .i64 x))
          refine ⟨.tuple #[.int .u8 3, .int .i64 x], by simp [results, Tryz.f119, go_sem, HC8.out.cell, HC9.out.cell], by rw [HR0.out], hgd, HW.out.grown hgd (((two_memo HW5.out.memo HA8.out HA9.out HN8.out HN9.out _ _).later (Below.drew (Below.refl _ _))).more av fun b hb => .inl (HBack.out b hb))⟩
      · have hnil : L.rbs i j = [] := List.length_eq_zero_iff.1 (by omega)
        have HNil := Lib.hid hnil
        obtain rfl : n = 0 := by omega
        clear hnil hn
        gi_wp2
        refine ⟨trivial, ?_⟩
        refine (callsIn_wide.2 (clouds_mk bw i j k t w5)).mono ?_
        rintro e w6 ⟨b4, b5, b6, b7, rfl, hb6, C4, C5, C6, C7⟩
        have hw6 := HW5.out.later hb6
        have HG6 := grown_trans HG.out (Below.grown hb6 (some bm))
        replace D8 := D8.later hb6
        replace D9 := D9.later hb6
        have HS6 := Lib.hid (clouds_stops 4 b4 b5 b6 b7 bw bm q L AV i j k t a b cs w6 hw6 HF.out HK.out lc l1 l3 HI.out HJ.out C4 C5 C6 C7)
        have HW6 := Lib.hid hw6
        have HG6' := Lib.hid HG6
        clear hw6 HG6 C4 C5 C6 C7 hb6 D5 c5 t5
        gi_wp2
        refine wpIn_rangeFunc_ownG (α := Nat) rfl (by omega) (gf := 126) (lb := #[.pointer (some ⟨b4, 0, none⟩), .pointer (some ⟨b6, 0, none⟩), .pointer (some ⟨b7, 0, none⟩), .pointer (some ⟨b5, 0, none⟩)]) rfl trivial enters106 HS6.out belowK_t (belowK_b (Nat.le_refl _)) (Below.refl _ _) (fun _ => rfl)
          (fun pre W => pre = [] ∧ Below w6.heap.size w6 W)
          (fun c pre W => c = .ret ∧ ∃ x W1, pre = [x] ∧ Below w6.heap.size w6 W1 ∧ Below w6.heap.size ((W1.setCell ⟨w.heap.size + 1, 0, none⟩ (.int .u8 4)).setCell ⟨w.heap.size + 1 + 1, 0, none⟩ (.int .i64 (x : Nat))) W)
          (OwnFrom.and (ownFrom_pure _ _) (ownFrom_below (Nat.le_refl _) (Nat.le_refl _)))
          (fun c s X Y row ⟨hc, x, W1, h1, h2, h3⟩ hg hr => ⟨hc, x, W1, h1, h2, h3.grown hg (Nat.le_trans h2.size (by simpa [World.setCell] using h3.size)) (fun k e => (hr k e).1)⟩)
          ⟨rfl, Below.refl _ _⟩ ?a1 ?assign ?body ?done ?stop
        case assign =>
          intro l x W K hK
          gi_wp2
          exact hK
        case body =>
          rintro l pre x W ⟨rfl, hb⟩ _
          have E8 := D8.later hb
          have E9 := D9.later hb
          have c8 := E8.cell
          have f8 := E8.frozen
          have c9 := E9.cell
          have f9 := E9.frozen
          gi_wp2
          exact ⟨((KeepsOthers.setCell W ⟨w.heap.size + 1, 0, none⟩ (.int .u8 4)).trans (KeepsOthers.setCell _ ⟨w.heap.size + 1 + 1, 0, none⟩ (.int .i64 x))).from _, rfl, x, W, rfl, hb, Below.refl _ _⟩
        case done =>
          rintro D ys W hD hys ⟨hnil, hb⟩ hK
          have HR0 : Hid (r = (0, 0)) := HR.out.symm.trans (why_free HUT.out (Int.not_lt.2 HMn.out) HNil.out (by unfold Land.cbs Land.kase; rw [HK.out, Option.getD_some, sel_eq, ← hys, hnil]; rfl))
          have E8 := D8.later hb
          have E9 := D9.later hb
          have c8 := E8.cell
          have f8 := E8.frozen
          have c9 := E9.cell
          have f9 := E9.frozen
          have hK' := ((KeepsOthers.setCell W ⟨w.heap.size + 1, 0, none⟩ (.int .u8 0)).trans (KeepsOthers.setCell _ ⟨w.heap.size + 1 + 1, 0, none⟩ (.int .i64 0))).same D _ hK rfl
          obtain ⟨Z8, Z9, ZG, ZM⟩ := range_end HG6'.out HW6.out D8 D9 HNe.out (by omega) (by omega) HA8.out HA9.out hb (.int .u8 0) (.int .i64 0) (Below.refl _ _) hK' hD
          have HZ8 := Lib.hid Z8
          have HZ9 := Lib.hid Z9
          have HZM := Lib.hid ZM
          have HKK := Lib.hid hK'
          clear Z8 Z9 ZM hys hnil hK hK' E8 E9
          gi_wp2
          refine ⟨by simp, .inl ⟨_, _, rfl, run_takeDeferred HKK.out, ?_⟩⟩
          refine ⟨.tuple #[.int .u8 0, .int .i64 0], by simp [results, Tryz.f119, go_sem, HZ8.out.cell, HZ9.out.cell], by rw [HR0.out], ZG, HW.out.grown ZG (HZM.out.more av fun b hb => .inl (HBack.out b hb))⟩
        case stop =>
          rintro D c pre W hD ⟨hpre, _⟩ ⟨rfl, x, W1, rfl, h1, h2⟩ hK
          have hx : (L.cbs i j k t)[0]? = some (x : Int) := by
            unfold Land.cbs Land.kase
            rw [HK.out, Option.getD_some, sel_eq]
            obtain ⟨rest, hrest⟩ := hpre
            rw [← hrest]; rfl
          have HR0 : Hid (r = (4, (x : Int))) := HR.out.symm.trans (why_cloud HUT.out (Int.not_lt.2 HMn.out) HNil.out hx)
          obtain ⟨Z8, Z9, ZG, ZM⟩ := range_end HG6'.out HW6.out D8 D9 HNe.out (by omega) (by omega) HA8.out HA9.out h1 (.int .u8 4) (.int .i64 x) h2 hK hD
          have HZ8 := Lib.hid Z8
          have HZ9 := Lib.hid Z9
          have HZM := Lib.hid ZM
          have HKK := Lib.hid hK
          clear Z8 Z9 ZM hpre hx hK
          gi_wp2
          refine ⟨by simp, .inl ⟨_, _, rfl, run_takeDeferred HKK.out, ?_⟩⟩
          refine ⟨.tuple #[.int .u8 4, .int .i64 x], by simp [results, Tryz.f119, go_sem, HZ8.out.cell, HZ9.out.cell], by rw [HR0.out], ZG, HW.out.grown ZG (HZM.out.more av fun b hb => .inl (HBack.out b hb))⟩
end Go.Proofs.YtingfmdbihbamaaGreat
end

section
/- A land at work, the walks: made; whether a station can flash; the first case in which it cannot. -/
open Go.RowKit
namespace Go.Proofs.YtingfmdbihbamaaGreat
open Go.Hill

theorem small_of {L : Land} (h : L.chk = 0) : Small L := by
  unfold Land.chk at h
  split at h
  · omega
  · rename_i h1
    unfold Land.lim at h1
    simp only [Bool.or_eq_true, not_or, decide_eq_true_eq, Bool.not_eq_true', Bool.not_eq_false, List.all_eq_true] at h1
    obtain ⟨⟨⟨⟨a1, a2⟩, a3⟩, a4⟩, a5⟩ := h1
    exact ⟨by omega, by omega, by omega, by omega, fun c hc => by have := a5 c hc; omega⟩
theorem some_of {α : Type} {l : List α} {i : Nat} (h : i < l.length) : ∃ x, l[i]? = some x := ⟨l[i], by simp [h]⟩

theorem why_w (bw bm : Nat) (q : LV) (L : Land) (av : Nat → Prop) (i j k t : Nat) (w : World) (hw : WorkAt w bw bm q L av) (hav : ∀ b, av b → b < w.heap.size) (hc : L.chk = 0) (hi : i < L.st.length) (hj : j < L.st.length) (hk : k < L.cs.length) (ht : t < L.sn.length) (r : Int × Int) (hr : L.why i j k t = r) :
    Calls Tryz.prog 119 #[.pointer (some ⟨bw, 0, none⟩), pairV i j, .int .i64 k, .int .i64 t] w (RetW (.tuple #[.int .u8 r.1, .int .i64 r.2]) bw bm q L av w) := by
  obtain ⟨a, ha⟩ := some_of hi
  obtain ⟨b, hb⟩ := some_of hj
  obtain ⟨cs, hcs⟩ := some_of hk
  obtain ⟨s, hs⟩ := some_of ht
  have hm := small_of hc
  exact why_any bw bm q L av i j k t a b s cs w hw hav (fits hc) hm.l1 hm.l2 hm.l3 hm.l4 (hm.l5 cs (List.mem_of_getElem? hcs)) ha hb hcs hs r hr

theorem why_bd (L : Land) (i j k t : Nat) : 0 ≤ (L.why i j k t).1 ∧ (L.why i j k t).1 ≤ 4 := by
  unfold Land.why
  split
  · exact ⟨by decide, by decide⟩
  · split
    · exact ⟨by decide, by decide⟩
    · split
      · simp
      · split <;> simp

theorem can_any (bw bm : Nat) (q : LV) (L : Land) (av : Nat → Prop) (i j k t : Nat) (w : World) (hw : WorkAt w bw bm q L av) (hav : ∀ b, av b → b < w.heap.size) (hc : L.chk = 0) (hi : i < L.st.length) (hj : j < L.st.length) (hk : k < L.cs.length) (ht : t < L.sn.length) :
    Calls Tryz.prog 103 #[.pointer (some ⟨bw, 0, none⟩), pairV i j, .int .i64 k, .int .i64 t] w (RetW (.bool (L.can i j k t)) bw bm q L av w) := by
  have HW := Lib.hid hw
  have HAv := Lib.hid hav
  have HC := Lib.hid hc
  obtain ⟨r, hr⟩ : ∃ r, L.why i j k t = r := ⟨_, rfl⟩
  have hbd := why_bd L i j k t
  rw [hr] at hbd
  have HR := Lib.hid hr
  obtain ⟨v, hv⟩ : ∃ v, v = L.can i j k t := ⟨_, rfl⟩
  rw [← hv]
  have HV : Hid (v = (i != j && r.1 == 0)) := by rw [hv, Land.can, hr]; rfl
  clear hw hav hc hr hv
  obtain ⟨r1, r2⟩ := r
  simp only at hbd
  go_enter Tryz.func103, Tryz.ntmps103
  go_wp2_with fail
  refine named1 (p := fun W => Calls _ _ _ W _) ?_
  intro W hW B5
  refine (why_w bw bm q L av i j k t W (HW.out.later hW) (fun b hb => Nat.lt_of_lt_of_le (HAv.out b hb) hW.size) HC.out hi hj hk ht (r1, r2) HR.out).mono ?_
  rintro e w1 ⟨rfl, hg, hw1⟩
  have C5 := (HW.out.later hW).keep B5 hg
  have HG := Lib.hid (grown_trans (Below.grown hW (some bm)) hg)
  have HW1 := Lib.hid hw1
  clear hg hw1 B5 hW
  have c5 := C5.cell
  have t5 := C5.lt
  by_cases hij : i = j
  · have hb : ((i : Int) != (j : Int)) = false := by simp [hij]
    go_wp2_with fail
    go_ret
    exact ⟨ret_bool (by rw [HV.out, hij]; simp), HG.out, HW1.out⟩
  · have hb : ((i : Int) != (j : Int)) = true := by simp; omega
    by_cases h0 : r1 = 0
    · subst h0
      go_wp2_with fail
      go_ret
      exact ⟨ret_bool (by rw [HV.out]; simp; omega), HG.out, HW1.out⟩
    · have hb0 : (r1 == 0) = false := by simpa using h0
      go_wp2_with fail
      go_ret
      exact ⟨ret_bool (by rw [HV.out]; simp [h0]), HG.out, HW1.out⟩

/-- It returns a land at work. -/
def RetWork (q : LV) (L : Land) (av : Nat → Prop) (w : World) (e : Ending) (w' : World) : Prop :=
  ∃ bw bm, e = .returned (.tuple #[.pointer (some ⟨bw, 0, none⟩), .int .i64 0]) ∧ Below w.heap.size w w' ∧ WorkAt w' bw bm q L av ∧ w.heap.size ≤ bw ∧ w.heap.size ≤ bm
abbrev landV (q : LV) (L : Land) : Value := .agg #[.slice q.a1 L.st.length q.c1, .slice q.a2 L.rd.length q.c2, .slice q.a3 L.cs.length q.c3, .slice q.a4 L.sn.length q.c4]

theorem work_no (q : LV) (L : Land) (w : World) (hL : LandAt w q L) (hs : Small L) (hc : L.chk ≠ 0) : Calls Tryz.prog 101 #[landV q L] w (Ret (.tuple #[.pointer none, .int .i64 L.chk]) w) := by
  obtain ⟨c, hcv⟩ : ∃ c, c = L.chk := ⟨_, rfl⟩
  have HCall : Hid (∀ W, Below w.heap.size w W → Calls Tryz.prog 35 #[landV q L] W (Ret (.int .i64 c) W)) := fun W hW => by rw [hcv]; exact check_any q L W (hL.later hW) hs.l1 hs.l2 hs.l3 hs.l4 hs.l5
  rw [← hcv] at hc ⊢
  have hcb : (c != 0) = true := by simpa using hc
  clear hcv hL
  go_enter Tryz.func101, Tryz.ntmps101
  go_wp2_with fail
  refine named1 (p := fun W => Calls _ _ _ W _) ?_
  intro W hW B1
  refine (HCall.out W hW).mono ?_
  rintro e w1 ⟨rfl, hb1⟩
  have hb := over hW hb1
  clear hW hb1 B1
  go_wp2_with fail
  go_ret2
  exact ⟨rfl, hb⟩

theorem work_yes (q : LV) (L : Land) (av : Nat → Prop) (w : World) (hL : LandAt w q L) (hs : Small L) (hc : L.chk = 0) : Calls Tryz.prog 101 #[landV q L] w (RetWork q L av w) := by
  have HCall : Hid (∀ W, Below w.heap.size w W → Calls Tryz.prog 35 #[landV q L] W (Ret (.int .i64 0) W)) := fun W hW => by rw [← hc]; exact check_any q L W (hL.later hW) hs.l1 hs.l2 hs.l3 hs.l4 hs.l5
  have HL := Lib.hid hL
  clear hc hL
  go_enter Tryz.func101, Tryz.ntmps101
  go_wp2_with fail
  refine named1 (p := fun W => Calls _ _ _ W _) ?_
  intro W hW B1
  refine (HCall.out W hW).mono ?_
  rintro e w1 ⟨rfl, hb1⟩
  have hb := over hW hb1
  (try clear c1 t1); replace B1 := B1.later hb1; have c1 := B1.cell; have t1 := B1.lt
  clear hW hb1
  have hmm := @run_makeMap Tryz.prog
  go_wp2_with fail
  go_ret2
  have h1 : Below w1.heap.size w1 ((w1.alloc (.map #[] 0)).alloc (.cells #[.slice q.a1 L.st.length q.c1, .slice q.a2 L.rd.length q.c2, .slice q.a3 L.cs.length q.c3, .slice q.a4 L.sn.length q.c4, .map (some w1.heap.size)] 190)) := al (al (Below.refl _ _) _) _
  refine ⟨w1.heap.size + 1, w1.heap.size, rfl, over hb h1, ⟨Box.newAt _ _ (by simp), (HL.out.later hb).later h1, (Memo.new w1 L av).later (al (Below.refl _ _) _)⟩, by have := hb.size; omega, hb.size⟩
end Go.Proofs.YtingfmdbihbamaaGreat
end
