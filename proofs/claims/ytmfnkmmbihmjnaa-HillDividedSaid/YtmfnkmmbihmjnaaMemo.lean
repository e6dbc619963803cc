/- A land at work: its map of pairs, and the ridges that block between them. -/
import Derived.Test.YtmfnkmmbihmjnaaW13
import Derived.Test.YtmfnkmmbihmjnaaPlain3
import Derived.MapKept
open Go.RowKit
namespace Go.Proofs.Ytmfnkmmbihmjnaa
open Go.Hill

abbrev pairV (i j : Int) : Value := .agg #[.int .i64 i, .int .i64 j]

theorem pair_equal (w : World) (d : Nat) (a b c f : Int) : (Op.equalIn (d + 2) 95 (pairV a b) (pairV c f)).run Try.prog w = .ok (a == c && b == f) w := by
  have h1 := fun (x y : Int) => run_equalIn_int (P := Try.prog) w d 3 .i64 .i64 x y (by kernel_rfl)
  have h2 : Try.prog.stoodInHeld 95 = false := by kernel_rfl
  unfold Op.equalIn
  simp only [Sem.run_bind, run_underlying Try.underlying95, Result.andThen_ok]
  simp [part, h1, h2]
  by_cases h4 : a = c <;> by_cases h5 : b = f <;> simp [h4, h5]
theorem run_findAsk (i j : Int) : ∀ (es : List MapEntry) (k : Nat), (∀ e ∈ es, ∃ a b, e.key = pairV a b) →
    ((∀ w, (Instr.findAsking 95 (pairV i j) es k).run Try.prog w = .ok none w) ∧ ∀ e ∈ es, e.key ≠ pairV i j) ∨
    ∃ m e, (∀ w, (Instr.findAsking 95 (pairV i j) es k).run Try.prog w = .ok (some (m, e.val)) w) ∧ e ∈ es ∧ e.key = pairV i j := by
  intro es
  induction es with
  | nil => intro k _; exact .inl ⟨fun w => by simp [Instr.findAsking], by simp⟩
  | cons e es ih =>
    intro k h
    obtain ⟨a, b, he⟩ := h e (by simp)
    have hq : ∀ w, (Op.equal 95 (pairV i j) e.key).run Try.prog w = .ok (i == a && j == b) w := fun w => by rw [he]; exact pair_equal w 9998 i j a b
    by_cases hk : i = a ∧ j = b
    · obtain ⟨rfl, rfl⟩ := hk
      exact .inr ⟨k, e, fun w => by simp [Instr.findAsking, hq], by simp, he⟩
    · have hkf : (i == a && j == b) = false := by rw [Bool.eq_false_iff]; simpa using hk
      rcases ih (k + 1) (fun e he => h e (by simp [he])) with ⟨h1, h2⟩ | ⟨m, e', h1, h2, h3⟩
      · refine .inl ⟨fun w => by simp only [Instr.findAsking, Sem.run_bind, hq, hkf, Result.andThen_ok]; simpa using h1 w, ?_⟩
        intro e' he'
        rcases List.mem_cons.1 he' with rfl | he'
        · rw [he]; intro hh; simp only [pairV, Value.agg.injEq, Array.mk.injEq, List.cons.injEq, Value.int.injEq] at hh; exact hk ⟨hh.1.2.symm, hh.2.1.2.symm⟩
        · exact h2 e' he'
      · exact .inr ⟨m, e', fun w => by simp only [Instr.findAsking, Sem.run_bind, hq, hkf, Result.andThen_ok]; simpa using h1 w, by simp [h2], h3⟩
theorem run_check (w : World) (i j : Int) (em : Bool) : (Instr.checkKey em 10000 95 (pairV i j)).run Try.prog w = .ok () w := by
  have h4 : ∀ n x, (Instr.checkKey em (n + 1) 3 (.int .i64 x)).run Try.prog w = .ok () w := fun n x => by
    unfold Instr.checkKey
    simp [run_underlying Try.underlying3]
  rw [show (10000 : Nat) = 9998 + 1 + 1 from rfl]
  unfold Instr.checkKey
  simp only [Sem.run_bind, run_underlying Try.underlying95, Result.andThen_ok]
  simp [part, h4]
theorem run_find (i j : Int) (es : List MapEntry) (h : ∀ e ∈ es, ∃ a b, e.key = pairV a b) :
    ((∀ w, (Instr.findKey 95 (pairV i j) es).run Try.prog w = .ok none w) ∧ ∀ e ∈ es, e.key ≠ pairV i j) ∨
    ∃ m e, (∀ w, (Instr.findKey 95 (pairV i j) es).run Try.prog w = .ok (some (m, e.val)) w) ∧ e ∈ es ∧ e.key = pairV i j := by
  have hu := Try.underlying95
  cases es with
  | nil => exact .inl ⟨fun w => by unfold Instr.findKey; simp only [Sem.run_bind, run_underlying hu, Result.andThen_ok]; simp [Instr.findNow], by simp⟩
  | cons e es =>
    obtain ⟨a, b, he⟩ := h e (by simp)
    have : ∀ w, (Instr.findKey 95 (pairV i j) (e :: es)).run Try.prog w = (Instr.findAsking 95 (pairV i j) (e :: es) 0).run Try.prog w := fun w => by
      unfold Instr.findKey; simp only [Sem.run_bind, run_underlying hu, Result.andThen_ok]; simp [Instr.findNow, Instr.sameNow]
    simp only [this]
    exact run_findAsk i j (e :: es) 0 h

/-- Block bm is a map with these entries. -/
def MapIs (W : World) (bm : Nat) (es : Array MapEntry) (clock : Nat) : Prop := W.heap[bm]? = some (.map es clock)
def Pairs (es : Array MapEntry) : Prop := ∀ e ∈ es.toList, ∃ a b, e.key = pairV a b

/-- What a look-up gives, in each world that has the map. -/
theorem look_map {es : Array MapEntry} (hp : Pairs es) (i j : Int) :
    ((∀ W bm clock, MapIs W bm es clock → (Instr.lookup 125 (.map (some bm)) (pairV i j) true).run Try.prog W = .ok (.tuple #[.slice none 0 0, .bool false]) W) ∧ ∀ e ∈ es.toList, e.key ≠ pairV i j) ∨
    ∃ e ∈ es.toList, e.key = pairV i j ∧ ∀ W bm clock, MapIs W bm es clock → (Instr.lookup 125 (.map (some bm)) (pairV i j) true).run Try.prog W = .ok (.tuple #[e.val, .bool true]) W := by
  have hu := Try.underlying125
  have hz : ∀ W, (zeroValue 30).run Try.prog W = .ok (.slice none 0 0) W := fun W => by kernel_rfl
  rcases run_find i j es.toList hp with ⟨h1, h2⟩ | ⟨m, e, h1, h2, h3⟩
  · refine .inl ⟨fun W bm clock hm => ?_, h2⟩
    unfold Instr.lookup
    simp only [Sem.run_bind, run_underlying hu, Result.andThen_ok, MapKept.run_getObj_map (show W.heap[bm]? = _ from hm), Sem.run_pure, run_check, h1, hz]
    rfl
  · refine .inr ⟨e, h2, h3, fun W bm clock hm => ?_⟩
    unfold Instr.lookup
    simp only [Sem.run_bind, run_underlying hu, Result.andThen_ok, MapKept.run_getObj_map (show W.heap[bm]? = _ from hm), Sem.run_pure, run_check, h1]
    rfl
/-- A new entry goes in. -/
theorem put_map {es : Array MapEntry} (hp : Pairs es) {i j : Int} (hn : ∀ e ∈ es.toList, e.key ≠ pairV i j) (v : Value) {W : World} {bm clock : Nat} (hm : MapIs W bm es clock) :
    ∃ W', (Instr.mapUpdate 125 (.map (some bm)) (pairV i j) v).run Try.prog W = .ok () W' ∧ MapIs W' bm (es.push ⟨pairV i j, v, clock⟩) (clock + 1) ∧ W.grownBy W' (some bm) := by
  have hu := Try.underlying125
  have hlt : bm < W.heap.size := (Array.getElem?_eq_some_iff.1 hm).1
  refine ⟨{ W with heap := W.heap.setIfInBounds bm (.map (es.push ⟨pairV i j, v, clock⟩) (clock + 1)) }, ?_, ?_, rfl, rfl, rfl, by simp, fun k _ hk => ?_⟩
  · unfold Instr.mapUpdate
    have h1 : ∀ w, (Instr.findKey 95 (pairV i j) es.toList).run Try.prog w = .ok none w := by
      rcases run_find i j es.toList hp with ⟨h1, _⟩ | ⟨m, e, _, h2, h3⟩
      · exact h1
      · exact absurd h3 (hn e h2)
    simp only [Sem.run_bind, run_underlying hu, Result.andThen_ok, MapKept.run_getObj_map (show W.heap[bm]? = _ from hm), run_check, h1, MapKept.run_setObj_map _ (show W.heap[bm]? = _ from hm)]
  · simp [MapIs, hlt]
  · simp only [ne_eq, Option.some.injEq] at hk
    simp [Array.getElem?_setIfInBounds_ne (Ne.symm hk)]

theorem Pairs.push {es : Array MapEntry} (hp : Pairs es) (i j : Int) (v : Value) (c : Nat) : Pairs (es.push ⟨pairV i j, v, c⟩) := by
  intro e he
  simp only [Array.toList_push, List.mem_append, List.mem_singleton] at he
  rcases he with he | rfl
  · exact hp e he
  · exact ⟨i, j, rfl⟩

/-- Cells that are there stay, while a map turns and blocks are laid. -/
theorem Cells.grown {W W' : World} {bm b o size : Nat} {xs : List (List Value)} {es : Array MapEntry} {clock : Nat} (h : Cells W b o size xs) (hm : MapIs W bm es clock) (hg : W.grownBy W' (some bm)) : Cells W' b o size xs :=
  fun i x hx j v hv => by
    have h1 := h i x hx j v hv
    refine hg.cell h1 fun he => ?_
    simp only [Option.some.injEq] at he
    have hm' : W.heap[bm]? = some (.map es clock) := hm
    rw [World.cell?] at h1
    simp only [he, hm'] at h1
    cases h1
theorem RowAt.grown {W W' : World} {bm : Nat} {a : Option Addr} {size : Nat} {xs : List (List Value)} {es : Array MapEntry} {clock : Nat} (h : RowAt W a size xs) (hm : MapIs W bm es clock) (hg : W.grownBy W' (some bm)) : RowAt W' a size xs := by
  rcases h with h | ⟨b, o, h1, h2⟩
  · exact .inl h
  · exact .inr ⟨b, o, h1, h2.grown hm hg⟩
theorem CasesAt.grown {W W' : World} {bm : Nat} {a : Option Addr} {css : List (List Cd)} {es : Array MapEntry} {clock : Nat} (h : CasesAt W a css) (hm : MapIs W bm es clock) (hg : W.grownBy W' (some bm)) : CasesAt W' a css := by
  obtain ⟨l, h1, h2, h3⟩ := h
  exact ⟨l, h1, h2.grown hm hg, fun x hx => (h3 x hx).grown hm hg⟩
theorem LandAt.grown {W W' : World} {bm : Nat} {q : LV} {L : Land} {es : Array MapEntry} {clock : Nat} (h : LandAt W q L) (hm : MapIs W bm es clock) (hg : W.grownBy W' (some bm)) : LandAt W' q L :=
  ⟨h.st.grown hm hg, h.rd.grown hm hg, h.cs.grown hm hg, h.sn.grown hm hg, h.k1, h.k2, h.k3, h.k4⟩
theorem Box.grown {W W' : World} {bm b : Nat} {cs : Array Value} {T : TypeId} {es : Array MapEntry} {clock : Nat} (h : Box W b cs T) (hm : MapIs W bm es clock) (hg : W.grownBy W' (some bm)) : Box W' b cs T := by
  refine (hg.block b h.lt fun he => ?_).trans h
  simp only [Option.some.injEq] at he
  subst he
  have h1 : W.heap[b]? = some (.cells cs T) := h
  have h2 : W.heap[b]? = some (.map es clock) := hm
  rw [h1] at h2; cases h2

/-- A list of ints, in blocks that 'av' does not name. -/
def IntsOff (W : World) (av : Nat → Prop) (a : Option Addr) (l : List Int) : Prop := IntsAt W a l ∧ ∀ b o, a = some ⟨b, o, none⟩ → l ≠ [] → ¬ av b
theorem IntsOff.lt {W : World} {av : Nat → Prop} {a : Option Addr} {l : List Int} (h : IntsOff W av a l) {b o : Nat} (ha : a = some ⟨b, o, none⟩) (hl : l ≠ []) : b < W.heap.size := by
  obtain ⟨h1, _⟩ := h
  cases l with
  | nil => exact absurd rfl hl
  | cons x l =>
    obtain ⟨b', o', e, hC⟩ := RowAt.at (k := 0) h1 (by simp)
    rw [ha] at e; cases e
    exact block_lt_of_cell (cells_one (k := 0) hC rfl)
/-- A map of pairs, and the ridges that block between them. -/
def Memo (W : World) (bm : Nat) (L : Land) (av : Nat → Prop) : Prop :=
  ∃ es clock, MapIs W bm es clock ∧ Pairs es ∧ ∀ (i j : Nat), ∀ e ∈ es.toList, e.key = pairV i j → ∃ a c, e.val = .slice a (L.rbs i j).length c ∧ IntsOff W av a (L.rbs i j)
theorem Memo.later {W W' : World} {bm : Nat} {L : Land} {av : Nat → Prop} (h : Memo W bm L av) (hb : Below W.heap.size W W') : Memo W' bm L av := by
  obtain ⟨es, clock, h1, h2, h3⟩ := h
  refine ⟨es, clock, (hb.block bm (Array.getElem?_eq_some_iff.1 h1).1).trans h1, h2, fun i j e he hk => ?_⟩
  obtain ⟨a, c, h4, h5, h6⟩ := h3 i j e he hk
  exact ⟨a, c, h4, h5.later hb, h6⟩
theorem Memo.new (W : World) (L : Land) (av : Nat → Prop) : Memo (W.alloc (.map #[] 0)) W.heap.size L av :=
  ⟨#[], 0, World.alloc_heap_new W _, fun e he => by simp at he, fun i j e he => by simp at he⟩
/-- Blocks that are not there yet are avoided. -/
theorem Memo.more {W : World} {bm : Nat} {L : Land} {av : Nat → Prop} (h : Memo W bm L av) (av' : Nat → Prop) (hav : ∀ b, av' b → av b ∨ W.heap.size ≤ b) : Memo W bm L av' := by
  obtain ⟨es, clock, h1, h2, h3⟩ := h
  refine ⟨es, clock, h1, h2, fun i j e he hk => ?_⟩
  obtain ⟨a, c, h4, h5, h6⟩ := h3 i j e he hk
  refine ⟨a, c, h4, h5, fun b o hb hl hv => ?_⟩
  have h7 := IntsOff.lt ⟨h5, h6⟩ hb hl
  rcases hav b hv with h8 | h8
  · exact h6 b o hb hl h8
  · omega
theorem Memo.but {W W' : World} {bm b : Nat} {L : Land} {av : Nat → Prop} (h : Memo W bm L av) (hb : But b W W') (hav : av b) (hne : b ≠ bm) : Memo W' bm L av := by
  obtain ⟨es, clock, h1, h2, h3⟩ := h
  refine ⟨es, clock, (hb.block bm (Ne.symm hne)).trans h1, h2, fun i j e he hk => ?_⟩
  obtain ⟨a, c, h4, h5, h6⟩ := h3 i j e he hk
  refine ⟨a, c, h4, ?_, h6⟩
  rcases h5 with h5 | ⟨b1, o1, h7, h8⟩
  · exact .inl h5
  · by_cases hl : L.rbs i j = []
    · exact .inl (by rw [hl]; rfl)
    · refine .inr ⟨b1, o1, h7, fun n x hx m v hv => ?_⟩
      have h9 := h8 n x hx m v hv
      have h10 : b1 ≠ b := fun e => h6 b1 o1 h7 hl (e ▸ hav)
      rw [World.cell?] at h9 ⊢
      rw [show W'.heap[b1]? = W.heap[b1]? from hb.block b1 h10]; exact h9
theorem Memo.same {W W' : World} {bm : Nat} {L : Land} {av : Nat → Prop} (h : Memo W bm L av) (hs : ∀ k, k < W.heap.size → ¬ av k ∨ k = bm → W'.heap[k]? = W.heap[k]?) : Memo W' bm L av := by
  obtain ⟨es, clock, h1, h2, h3⟩ := h
  refine ⟨es, clock, (hs bm (Array.getElem?_eq_some_iff.1 h1).1 (.inr rfl)).trans h1, h2, fun i j e he hk => ?_⟩
  obtain ⟨a, c, h4, h5, h6⟩ := h3 i j e he hk
  refine ⟨a, c, h4, ?_, h6⟩
  by_cases hl : L.rbs i j = []
  · exact .inl (by rw [hl]; rfl)
  · rcases h5 with h5 | ⟨b1, o1, h7, h8⟩
    · exact .inl h5
    · refine .inr ⟨b1, o1, h7, fun n x hx m v hv => ?_⟩
      have h9 := h8 n x hx m v hv
      have h11 := block_lt_of_cell h9
      rw [World.cell?] at h9 ⊢
      rw [show W'.heap[b1]? = W.heap[b1]? from hs b1 h11 (.inl (h6 b1 o1 h7 hl))]; exact h9
theorem Memo.put {W W' : World} {bm : Nat} {L : Land} {av : Nat → Prop} {es : Array MapEntry} {clock : Nat} {i j : Nat} {a : Option Addr} {c : Nat} (hm : MapIs W bm es clock) (hp : Pairs es)
    (hes : ∀ (i j : Nat), ∀ e ∈ es.toList, e.key = pairV i j → ∃ a c, e.val = .slice a (L.rbs i j).length c ∧ IntsOff W av a (L.rbs i j)) (hr : IntsOff W av a (L.rbs i j))
    (hm' : MapIs W' bm (es.push ⟨pairV i j, .slice a (L.rbs i j).length c, clock⟩) (clock + 1)) (hg : W.grownBy W' (some bm)) : Memo W' bm L av := by
  refine ⟨_, _, hm', hp.push _ _ _ _, fun i' j' e he hk => ?_⟩
  simp only [Array.toList_push, List.mem_append, List.mem_singleton] at he
  rcases he with he | rfl
  · obtain ⟨a1, c1, h4, h5⟩ := hes i' j' e he hk
    exact ⟨a1, c1, h4, h5.1.grown hm hg, h5.2⟩
  · simp only [pairV, Value.agg.injEq, Array.mk.injEq, List.cons.injEq, Value.int.injEq, true_and, and_true] at hk
    obtain ⟨h1, h2⟩ := hk
    have e1 : i = i' := by omega
    have e2 : j = j' := by omega
    subst e1; subst e2
    exact ⟨a, c, rfl, hr.1.grown hm hg, hr.2⟩

/-- Each number of a valid land is in its bounds. -/
structure Fits (L : Land) : Prop where
  st : ∀ s ∈ L.st, s.In
  rd : ∀ s ∈ L.rd, s.In ∧ s.B = 0
  cs : ∀ l ∈ L.cs, ∀ c ∈ l, c.wl.In
  sn : ∀ s ∈ L.sn, s.In
  mir : ∀ s ∈ L.st, s.M = 1 ∨ s.M = 2
theorem inB_iff {n lo hi : Int} : inB n lo hi = true ↔ lo ≤ n ∧ n ≤ hi := by simp [inB]
theorem wl_in {s : Wl} (h : s.ok = true) : s.In := by
  unfold Wl.ok at h; unfold Wl.In
  simp only [Bool.and_eq_true, inB_iff, decide_eq_true_eq] at h
  omega
theorem fits {L : Land} (h : L.chk = 0) : Fits L := by
  unfold Land.chk at h
  split at h
  · omega
  · split at h
    · omega
    · rename_i h1
      unfold Land.arg at h1
      simp only [Bool.or_eq_true, not_or, Bool.not_eq_true', Bool.not_eq_false, List.all_eq_true] at h1
      obtain ⟨⟨⟨⟨⟨_, h2⟩, _⟩, h3⟩, h4⟩, h5⟩ := h1
      refine ⟨fun s hs => ?_, fun s hs => ?_, fun l hl c hc => ?_, fun s hs => ?_, fun s hs => ?_⟩
      · have := h2 s hs
        unfold Stn.ok at this; unfold Stn.In
        simp only [Bool.and_eq_true, inB_iff] at this
        omega
      · have := h3 s hs
        unfold Wl.rg at this
        simp only [Bool.and_eq_true, beq_iff_eq] at this
        exact ⟨wl_in this.1, this.2⟩
      · have := h4 l hl c hc
        unfold Cd.ok at this
        simp only [Bool.and_eq_true] at this
        exact wl_in this.1.1
      · have := h5 s hs
        unfold Sn.ok at this; unfold Sn.In
        simp only [Bool.and_eq_true, inB_iff] at this
        omega
      · have := h2 s hs
        unfold Stn.ok at this
        simp only [Bool.and_eq_true, inB_iff] at this
        omega

/-- A land at work. -/
structure WorkAt (W : World) (bw bm : Nat) (q : LV) (L : Land) (av : Nat → Prop) : Prop where
  box : Box W bw #[.slice q.a1 L.st.length q.c1, .slice q.a2 L.rd.length q.c2, .slice q.a3 L.cs.length q.c3, .slice q.a4 L.sn.length q.c4, .map (some bm)] 127
  land : LandAt W q L
  memo : Memo W bm L av
section
variable {W W' : World} {bw bm : Nat} {q : LV} {L : Land} {av : Nat → Prop}
theorem WorkAt.later (h : WorkAt W bw bm q L av) (hb : Below W.heap.size W W') : WorkAt W' bw bm q L av := ⟨h.box.later hb, h.land.later hb, h.memo.later hb⟩
theorem Below.grown (hb : Below W.heap.size W W') (row : Option Nat) : W.grownBy W' row := ⟨hb.os, hb.tape, hb.output, hb.size, fun k hk _ => hb.block k hk⟩
theorem grown_trans {W'' : World} {row : Option Nat} (h : W.grownBy W' row) (k : W'.grownBy W'' row) : W.grownBy W'' row :=
  ⟨k.os.trans h.os, k.tape.trans h.tape, k.output.trans h.output, Nat.le_trans h.size k.size, fun i hi hne => (k.block i (Nat.lt_of_lt_of_le hi h.size) hne).trans (h.block i hi hne)⟩
theorem WorkAt.keep {b : Nat} (h : WorkAt W bw bm q L av) {cs : Array Value} {T : TypeId} (hB : Box W b cs T) (hg : W.grownBy W' (some bm)) : Box W' b cs T := by
  obtain ⟨es, clock, h1, _⟩ := h.memo
  exact hB.grown h1 hg
theorem WorkAt.row (h : WorkAt W bw bm q L av) {a : Option Addr} {size : Nat} {xs : List (List Value)} (hB : RowAt W a size xs) (hg : W.grownBy W' (some bm)) : RowAt W' a size xs := by
  obtain ⟨es, clock, h1, _⟩ := h.memo
  exact hB.grown h1 hg
theorem WorkAt.ne {b : Nat} (h : WorkAt W bw bm q L av) {cs : Array Value} {T : TypeId} (hB : Box W b cs T) : b ≠ bm := by
  obtain ⟨es, clock, h1, _⟩ := h.memo
  rintro rfl
  have h2 : W.heap[b]? = some (.cells cs T) := hB
  have h3 : W.heap[b]? = some (.map es clock) := h1
  rw [h2] at h3; cases h3
theorem WorkAt.more (h : WorkAt W bw bm q L av) (av' : Nat → Prop) (hav : ∀ b, av' b → av b ∨ W.heap.size ≤ b) : WorkAt W bw bm q L av' := ⟨h.box, h.land, h.memo.more av' hav⟩
/-- A later world that has a map as good. -/
theorem WorkAt.grown (h : WorkAt W bw bm q L av) (hg : W.grownBy W' (some bm)) {av' : Nat → Prop} (hm : Memo W' bm L av') : WorkAt W' bw bm q L av' := by
  obtain ⟨es, clock, h1, _⟩ := h.memo
  exact ⟨h.box.grown h1 hg, h.land.grown h1 hg, hm⟩
end
/-- It returns v; nothing has turned but the map, which is as good as before. -/
def RetW (v : Value) (bw bm : Nat) (q : LV) (L : Land) (av : Nat → Prop) (w : World) (e : Ending) (w' : World) : Prop := e = .returned v ∧ w.grownBy w' (some bm) ∧ WorkAt w' bw bm q L av
theorem Own.base {W : World} {base E size b o n c : Nat} {xs : List (List Value)} (h : Own W base E size (.slice (some ⟨b, o, none⟩) n c) xs) : base ≤ b := by
  obtain ⟨⟨_, h1⟩, _⟩ := h
  rcases h1 with ⟨hv, _⟩ | ⟨g, cap, cur, hv, hg, _⟩
  · cases hv
  · cases hv; exact hg
end Go.Proofs.Ytmfnkmmbihmjnaa
