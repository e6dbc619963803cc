/- Layer 5, the walks: a post at work, with just the hours of all copies. -/
import Derived.Test.YtingfmdbihbamaaGreatCHr
import Derived.Test.YtingfmdbihbamaaGreatFatRd
import Derived.Deep.LoopGhost
import Derived.Sort.CutIn
open Go.RowKit Go.Shelf
namespace Go.Proofs.YtingfmdbihbamaaGreat
namespace Cp
open Go.Once
attribute [local go_sem] Oper.semAt_some

def LtP (i' k' i k : Nat) : Prop := i' < i ∨ (i' = i ∧ k' < k)
/-- The map holds the hours of all copies that come before (i, k). -/
def HrsAt (W : World) (bm : Nat) (p : Ps) (i k : Nat) : Prop := ∃ es clock, MapIs W bm es clock ∧
  (∀ e ∈ es.toList, ∃ i' k' : Nat, e.key = pairV i' k' ∧ LtP i' k' i k ∧ ∃ bs s, e.val = .pointer (some ⟨bs, 0, none⟩) ∧ SetAt W bs s ∧ ∀ sd r, p.sends[i']? = some sd → p.routes[k']? = some r → GoodSet r sd s) ∧
  ∀ i' k' : Nat, LtP i' k' i k → k' < p.routes.length → ∃ e ∈ es.toList, e.key = pairV i' k'
theorem pairV_inj {a b c d : Nat} (h : pairV (a : Int) (b : Int) = pairV (c : Int) (d : Int)) : a = c ∧ b = d := by
  simp only [pairV, Value.agg.injEq, Array.mk.injEq, List.cons.injEq, Value.int.injEq, true_and, and_true] at h
  omega
theorem HrsAt.later {W W' : World} {bm : Nat} {p : Ps} {i k : Nat} (h : HrsAt W bm p i k) (hb : Below W.heap.size W W') : HrsAt W' bm p i k := by
  obtain ⟨es, clock, h1, h2, h3⟩ := h
  refine ⟨es, clock, (hb.block bm (Array.getElem?_eq_some_iff.1 h1).1).trans h1, fun e he => ?_, h3⟩
  obtain ⟨i', k', g1, g2, bs, s, g3, g4, g5⟩ := h2 e he
  exact ⟨i', k', g1, g2, bs, s, g3, Box.later g4 hb, g5⟩
theorem HrsAt.keep {W W' : World} {bm : Nat} {p : Ps} {i k : Nat} (h : HrsAt W bm p i k) (hk : ∀ k : Nat, W.heap[k]? ≠ some (Obj.deferred (some [])) → W'.heap[k]? = W.heap[k]?) : HrsAt W' bm p i k := by
  obtain ⟨es, clock, h1, h2, h3⟩ := h
  have h1' : W.heap[bm]? = some (.map es clock) := h1
  refine ⟨es, clock, (hk bm (by rw [h1']; exact fun e => by cases e)).trans h1, fun e he => ?_, h3⟩
  obtain ⟨i', k', g1, g2, bs, s, g3, g4, g5⟩ := h2 e he
  have g4' : W.heap[bs]? = some (.cells (bitsOf s) 144 (0, 0)) := g4
  exact ⟨i', k', g1, g2, bs, s, g3, (hk bs (by rw [g4']; exact fun e => by cases e)).trans g4, g5⟩
theorem HrsAt.next {W : World} {bm : Nat} {p : Ps} {i : Nat} (h : HrsAt W bm p i p.routes.length) : HrsAt W bm p (i + 1) 0 := by
  obtain ⟨es, clock, h1, h2, h3⟩ := h
  refine ⟨es, clock, h1, fun e he => ?_, fun i' k' hl hk => h3 i' k' ?_ hk⟩
  · obtain ⟨i', k', g1, g2, g⟩ := h2 e he
    exact ⟨i', k', g1, by unfold LtP at *; omega, g⟩
  · unfold LtP at *; omega
theorem HrsAt.pairs {es : Array MapEntry} {Q : MapEntry → Nat → Nat → Prop} (h : ∀ e ∈ es.toList, ∃ i' k' : Nat, e.key = pairV i' k' ∧ Q e i' k') : Pairs es := fun e he => by
  obtain ⟨i', k', g1, _⟩ := h e he
  exact ⟨i', k', g1⟩
/-- One more set goes in. -/
theorem HrsAt.put {W : World} {bm : Nat} {p : Ps} {i k : Nat} (h : HrsAt W bm p i k) {bs : Nat} {s : Nat → Bool} (hs : SetAt W bs s) (hg : ∀ sd r, p.sends[i]? = some sd → p.routes[k]? = some r → GoodSet r sd s) :
    ∃ W', (Instr.mapUpdate 116 (.map (some bm)) (pairV i k) (.pointer (some ⟨bs, 0, none⟩))).run Tryz.prog W = .ok () W' ∧ W.grownBy W' (some bm) ∧ HrsAt W' bm p i (k + 1) := by
  obtain ⟨es, clock, h1, h2, h3⟩ := h
  have hp : Pairs es := HrsAt.pairs h2
  have hn : ∀ e ∈ es.toList, e.key ≠ pairV i k := fun e he hk => by
    obtain ⟨i', k', g1, g2, _⟩ := h2 e he
    rw [g1] at hk
    have := pairV_inj hk
    unfold LtP at g2; omega
  obtain ⟨W', hr, hm', hg'⟩ := put_map hp hn (.pointer (some ⟨bs, 0, none⟩)) h1
  have hkeep : ∀ {b : Nat} {s : Nat → Bool}, SetAt W b s → SetAt W' b s := fun {b s} hb => by
    have hlt := Box.lt hb
    refine (hg'.block b hlt fun e => ?_).trans hb
    cases e
    have h4 : W.heap[bm]? = some (.map es clock) := h1
    rw [show W.heap[bm]? = _ from hb] at h4; cases h4
  refine ⟨W', hr, hg', _, _, hm', fun e he => ?_, fun i' k' hl hk => ?_⟩
  · simp only [Array.toList_push, List.mem_append, List.mem_singleton] at he
    rcases he with he | rfl
    · obtain ⟨i', k', g1, g2, bs', s', g3, g4, g5⟩ := h2 e he
      exact ⟨i', k', g1, by unfold LtP at *; omega, bs', s', g3, hkeep g4, g5⟩
    · exact ⟨i, k, rfl, by unfold LtP; omega, bs, s, rfl, hkeep hs, hg⟩
  · by_cases he : i' = i ∧ k' = k
    · obtain ⟨rfl, rfl⟩ := he
      exact ⟨⟨pairV i' k', .pointer (some ⟨bs, 0, none⟩), clock⟩, by simp, rfl⟩
    · obtain ⟨e, he, hk'⟩ := h3 i' k' (by unfold LtP at *; omega) hk
      exact ⟨e, by simp [he], hk'⟩
theorem HrsAt.new (W : World) (p : Ps) : HrsAt (W.alloc (.map #[] 0)) W.heap.size p 0 0 :=
  ⟨#[], 0, World.alloc_heap_new W _, fun e he => by simp at he, fun i' k' h => by unfold LtP at h; omega⟩

/-- It returns a post at work. -/
structure WorkAt (W : World) (bw bm : Nat) (q : PV) (p : Ps) : Prop where
  box : Box W bw #[.slice q.a1 p.sends.length q.c1, .slice q.a2 q.rs.length q.c2, .int .i64 p.pat, .map (some bm)] 118
  hrs : HrsAt W bm p p.sends.length 0
def RetWork (q : PV) (p : Ps) (w : World) (e : Ending) (w' : World) : Prop := ∃ bw bm, e = .returned (.pointer (some ⟨bw, 0, none⟩)) ∧ Below w.heap.size w w' ∧ WorkAt w' bw bm q p ∧ w.heap.size ≤ bw

theorem zero_bits : Tryz.zeroCells144 = bitsOf fun _ => false := by kernel_rfl
theorem named_work {w : World} {c1 c2 : Array Value} {t1 t2 : TypeId} {ps : Ps} {P : World → Prop} (h : ∀ W, Below w.heap.size w W → Box W w.heap.size c1 t1 → HrsAt W (w.heap.size + 1) ps 0 0 → Box W (w.heap.size + 1 + 1) c2 t2 → P W) :
    P (((w.alloc (.cells c1 t1)).alloc (.map #[] 0)).alloc (.cells c2 t2)) :=
  h _ (al (al (al (Below.refl _ _) _) _) _) (((Box.new _ _ _).alloc _).alloc _) (by
    have h1 := (HrsAt.new (w.alloc (.cells c1 t1)) ps).later (al (Below.refl _ _) (.cells c2 t2))
    simpa using h1) (Box.newAt _ _ (by simp))

/-- Between two rounds of the loop over a set: nothing has turned but the next set. -/
def NextAt {bd : Nat} (w6 : World) (nb j : Nat) (l : Lg) (pre : List (Hr bd)) (W : World) : Prop := w6.grownBy W (some nb) ∧ ∃ s', SetAt W nb s' ∧ PreC l (pre.map (·.1)) s' ∧ Bnd s' (j + 1)
theorem grown_on {w6 W W' : World} {nb : Nat} {row : Option Nat} (h : w6.grownBy W (some nb)) (hg : W.grownBy W' row) (hr : ∀ r, row = some r → w6.heap.size ≤ r) : w6.grownBy W' (some nb) :=
  ⟨hg.os.trans h.os, hg.tape.trans h.tape, hg.output.trans h.output, Nat.le_trans h.size hg.size, fun k hk hne => (hg.block k (Nat.lt_of_lt_of_le hk h.size) fun e => by
    have := hr k e.symm; omega).trans (h.block k hk hne)⟩
theorem nextAt_own {bd : Nat} {w6 : World} {nb j : Nat} {l : Lg} (hn : nb < w6.heap.size) : OwnFrom w6.heap.size (NextAt (bd := bd) w6 nb j l) := fun s W W' row ⟨h, s', h1, h2⟩ hg hr =>
  ⟨grown_on h hg fun r e => (hr r e).1, s', (hg.block nb (Box.lt h1) fun e => by have := (hr nb e.symm).1; omega).trans h1, h2⟩
theorem grown_box {w6 W : World} {nb b : Nat} {cs : Array Value} {T : TypeId} (h : w6.grownBy W (some nb)) (hB : Box w6 b cs T) (hne : b ≠ nb) : Box W b cs T :=
  (h.block b hB.lt fun e => hne (by injection e)).trans hB
theorem below_others {W W' : World} (hb : Below W.heap.size W W') : KeepsOthers W W' := ⟨hb.size, fun k _ hk _ => (hb.block k (Array.getElem?_eq_some_iff.1 hk).1).trans hk⟩
theorem grown_but {w6 W W' : World} {nb : Nat} (h : w6.grownBy W (some nb)) (hb : But nb W W') : w6.grownBy W' (some nb) :=
  ⟨hb.os.trans h.os, hb.tape.trans h.tape, hb.output.trans h.output, by rw [hb.size]; exact h.size, fun k hk hne => (hb.block k fun e => hne (by rw [e])).trans (h.block k hk hne)⟩
theorem Below.grown' {W W' : World} (hb : Below W.heap.size W W') : W.grownBy W' none := ⟨hb.os, hb.tape, hb.output, hb.size, fun k hk _ => hb.block k hk⟩
theorem grown_below {w0 w6 W : World} {nb : Nat} (h0 : Below w0.heap.size w0 w6) (h : w6.grownBy W (some nb)) (hn : w0.heap.size ≤ nb) : Below w0.heap.size w0 W :=
  h0.grown h h0.size (fun k e => by cases e; exact hn)
/-- Between two rounds of the loops over dispatches and routes. -/
structure Mid (q : PV) (p : Ps) (w : World) (i k : Nat) (ds : List Deferred) (wr : World) : Prop where
  W : Below w.heap.size w wr
  B1 : Box wr w.heap.size #[.slice q.a1 p.sends.length q.c1, .slice q.a2 q.rs.length q.c2, .int .i64 p.pat] 61
  H : HrsAt wr (w.heap.size + 1) p i k
  B3 : Box wr (w.heap.size + 1 + 1) #[.slice q.a1 p.sends.length q.c1, .slice q.a2 q.rs.length q.c2, .int .i64 p.pat, .map (some (w.heap.size + 1))] 118
  M : Marks w.heap.size ds wr
theorem Mid.later {q : PV} {p : Ps} {w : World} {i k : Nat} {ds : List Deferred} {wr wr' : World} (h : Mid q p w i k ds wr) (hb : Below wr.heap.size wr wr') : Mid q p w i k ds wr' :=
  ⟨over h.W hb, h.B1.later hb, h.H.later hb, h.B3.later hb, h.M.later hb⟩

set_option maxRecDepth 100000 in
set_option maxHeartbeats 8000000 in
theorem work_any (q : PV) (p : Ps) (w : World) (hB : PostAt w q p) (ho : p.Ok) : Calls Tryz.prog 25 #[postV q p] w (RetWork q p w) := by
  have HB := Lib.hid hB
  have HO := Lib.hid ho
  have hs4 := ho.s4
  have hrl : q.rs.length = p.routes.length := by rw [← hB.eq]; simp
  have hr3 := ho.r3
  have HRl := Lib.hid hrl
  have hq3 : q.rs.length ≤ 3 := by omega
  clear hB ho hr3 hrl
  refine (callsIn_wide (n := 6)).1 ?_
  refine callsIn_of_wp_marks Tryz.func25 rfl trivial ?_ rfl
  simp only [Tryz.ntmps25, List.size_toArray, List.length_cons, List.length_nil, Nat.reduceAdd, Nat.reduceSub, Array.replicate_succ, Array.replicate_zero, List.push_toArray, List.append_toArray, List.nil_append, List.cons_append]
  have hmm := @run_makeMap Tryz.prog
  gi_wp2
  refine named_work (ps := p) (P := Code.wpIn _ _ _ _ _ _) ?_
  intro W hW B1 hH B3
  have hMid : Mid q p w 0 0 [] W := ⟨hW, B1, hH, B3, Marks.nil _ _⟩
  clear hmm hW B1 hH B3
  refine wpIn_loop (fun a' w' => ∃ (ds : List Deferred) (u0 u2 u4 u5 u6 u7 u8 u9 u10 u11 u12 u13 u14 u15 u16 u17 u18 u21 u22 u23 u24 u25 u26 u27 u28 u29 u30 u31 u32 u33 u34 u35 u36 u37 u38 u39 u40 u41 u42 u43 u44 u45 u46 u47 u48 u49 u50 u51 u52 u53 u54 u55 u56 u57 u58 u59 u60 u61 u62 u63 u64 u65 u66 u67 u68 u69 u70 u71 u72 u73 u74 u75 u76 u77 u78 u79 u80 u81 u82 u83 u84 u85 u86 u87 u88 : Value), (∃ i : Nat, i ≤ p.sends.length ∧ u21 = .int .i64 i ∧ Mid q p w i 0 ds w') ∧
      a' = { tmps := List.toArray (u0 :: (.pointer (some ⟨w.heap.size, 0, none⟩)) :: u2 :: (.pointer (some ⟨w.heap.size + 1 + 1, 0, none⟩)) :: u4 :: u5 :: u6 :: u7 :: u8 :: u9 :: u10 :: u11 :: u12 :: u13 :: u14 :: u15 :: u16 :: u17 :: u18 :: (.slice q.a1 p.sends.length q.c1) :: (.int .i64 p.sends.length) :: u21 :: u22 :: u23 :: u24 :: u25 :: u26 :: u27 :: u28 :: u29 :: u30 :: u31 :: u32 :: u33 :: u34 :: u35 :: u36 :: u37 :: u38 :: u39 :: u40 :: u41 :: u42 :: u43 :: u44 :: u45 :: u46 :: u47 :: u48 :: u49 :: u50 :: u51 :: u52 :: u53 :: u54 :: u55 :: u56 :: u57 :: u58 :: u59 :: u60 :: u61 :: u62 :: u63 :: u64 :: u65 :: u66 :: u67 :: u68 :: u69 :: u70 :: u71 :: u72 :: u73 :: u74 :: u75 :: u76 :: u77 :: u78 :: u79 :: u80 :: u81 :: u82 :: u83 :: u84 :: u85 :: u86 :: u87 :: u88 :: []), defers := ds })
    (fun a' _ => p.sends.length - (intOf (a'.tmps.getD 21 undef)).toNat) ?_ ?_
  · (repeat apply Exists.intro)
    refine ⟨?_, rfl⟩
    exact ⟨0, Nat.zero_le _, rfl, hMid⟩
  · intro _ wo hinv
    obtain ⟨ds, hinv⟩ := hinv
    obtain ⟨u0, hinv⟩ := hinv; obtain ⟨u2, hinv⟩ := hinv; obtain ⟨u4, hinv⟩ := hinv; obtain ⟨u5, hinv⟩ := hinv; obtain ⟨u6, hinv⟩ := hinv; obtain ⟨u7, hinv⟩ := hinv; obtain ⟨u8, hinv⟩ := hinv; obtain ⟨u9, hinv⟩ := hinv; obtain ⟨u10, hinv⟩ := hinv; obtain ⟨u11, hinv⟩ := hinv; obtain ⟨u12, hinv⟩ := hinv; obtain ⟨u13, hinv⟩ := hinv; obtain ⟨u14, hinv⟩ := hinv; obtain ⟨u15, hinv⟩ := hinv; obtain ⟨u16, hinv⟩ := hinv; obtain ⟨u17, hinv⟩ := hinv; obtain ⟨u18, hinv⟩ := hinv; obtain ⟨u21, hinv⟩ := hinv; obtain ⟨u22, hinv⟩ := hinv; obtain ⟨u23, hinv⟩ := hinv; obtain ⟨u24, hinv⟩ := hinv; obtain ⟨u25, hinv⟩ := hinv; obtain ⟨u26, hinv⟩ := hinv; obtain ⟨u27, hinv⟩ := hinv; obtain ⟨u28, hinv⟩ := hinv; obtain ⟨u29, hinv⟩ := hinv; obtain ⟨u30, hinv⟩ := hinv; obtain ⟨u31, hinv⟩ := hinv; obtain ⟨u32, hinv⟩ := hinv; obtain ⟨u33, hinv⟩ := hinv; obtain ⟨u34, hinv⟩ := hinv; obtain ⟨u35, hinv⟩ := hinv; obtain ⟨u36, hinv⟩ := hinv; obtain ⟨u37, hinv⟩ := hinv; obtain ⟨u38, hinv⟩ := hinv; obtain ⟨u39, hinv⟩ := hinv; obtain ⟨u40, hinv⟩ := hinv; obtain ⟨u41, hinv⟩ := hinv; obtain ⟨u42, hinv⟩ := hinv; obtain ⟨u43, hinv⟩ := hinv; obtain ⟨u44, hinv⟩ := hinv; obtain ⟨u45, hinv⟩ := hinv; obtain ⟨u46, hinv⟩ := hinv; obtain ⟨u47, hinv⟩ := hinv; obtain ⟨u48, hinv⟩ := hinv; obtain ⟨u49, hinv⟩ := hinv; obtain ⟨u50, hinv⟩ := hinv; obtain ⟨u51, hinv⟩ := hinv; obtain ⟨u52, hinv⟩ := hinv; obtain ⟨u53, hinv⟩ := hinv; obtain ⟨u54, hinv⟩ := hinv; obtain ⟨u55, hinv⟩ := hinv; obtain ⟨u56, hinv⟩ := hinv; obtain ⟨u57, hinv⟩ := hinv; obtain ⟨u58, hinv⟩ := hinv; obtain ⟨u59, hinv⟩ := hinv; obtain ⟨u60, hinv⟩ := hinv; obtain ⟨u61, hinv⟩ := hinv; obtain ⟨u62, hinv⟩ := hinv; obtain ⟨u63, hinv⟩ := hinv; obtain ⟨u64, hinv⟩ := hinv; obtain ⟨u65, hinv⟩ := hinv; obtain ⟨u66, hinv⟩ := hinv; obtain ⟨u67, hinv⟩ := hinv; obtain ⟨u68, hinv⟩ := hinv; obtain ⟨u69, hinv⟩ := hinv; obtain ⟨u70, hinv⟩ := hinv; obtain ⟨u71, hinv⟩ := hinv; obtain ⟨u72, hinv⟩ := hinv; obtain ⟨u73, hinv⟩ := hinv; obtain ⟨u74, hinv⟩ := hinv; obtain ⟨u75, hinv⟩ := hinv; obtain ⟨u76, hinv⟩ := hinv; obtain ⟨u77, hinv⟩ := hinv; obtain ⟨u78, hinv⟩ := hinv; obtain ⟨u79, hinv⟩ := hinv; obtain ⟨u80, hinv⟩ := hinv; obtain ⟨u81, hinv⟩ := hinv; obtain ⟨u82, hinv⟩ := hinv; obtain ⟨u83, hinv⟩ := hinv; obtain ⟨u84, hinv⟩ := hinv; obtain ⟨u85, hinv⟩ := hinv; obtain ⟨u86, hinv⟩ := hinv; obtain ⟨u87, hinv⟩ := hinv; obtain ⟨u88, hinv⟩ := hinv
    obtain ⟨⟨i, hi, rfl, hM⟩, ha⟩ := hinv
    subst ha
    clear hMid
    by_cases hlt : i < p.sends.length
    · obtain ⟨sd, hsd⟩ : ∃ sd, p.sends[i]? = some sd := ⟨p.sends[i], by simp⟩
      have hsb := HO.out.sends sd (List.mem_of_getElem? hsd)
      obtain ⟨sb, so, es, e0, z1⟩ := (HB.out.later hM.W).send hsd
      obtain ⟨c1, t1⟩ := And.intro hM.B1.cell hM.B1.lt
      have HM := Lib.hid hM
      have HSd := Lib.hid hsd
      rw [es]
      have r1 : (0 : Int) ≤ (i : Int) := by omega
      have r2 : (i : Int) < (p.sends.length : Int) := by omega
      clear hsd es hM
      gi_wp2
      clear e0 z1 c1 t1
      refine wpIn_loop (fun a' w' => ∃ (ds : List Deferred) (u0 u2 u6 u7 u8 u9 u10 u11 u12 u13 u14 u15 u16 u17 u18 u22 u23 u24 u25 u26 u29 u30 u31 u32 u33 u34 u35 u36 u37 u38 u39 u40 u41 u42 u43 u44 u45 u46 u47 u48 u49 u50 u51 u52 u53 u54 u55 u56 u57 u58 u59 u60 u61 u62 u63 u64 u65 u66 u67 u68 u69 u70 u71 u72 u73 u74 u75 u76 u77 u78 u79 u80 u81 u82 u83 u84 u85 u86 u87 u88 : Value), (∃ k : Nat, k ≤ q.rs.length ∧ u29 = .int .i64 k ∧ Mid q p w i k ds w') ∧
          a' = { tmps := List.toArray (u0 :: (.pointer (some ⟨w.heap.size, 0, none⟩)) :: u2 :: (.pointer (some ⟨w.heap.size + 1 + 1, 0, none⟩)) :: (.int .i64 i) :: (.int .i64 sd) :: u6 :: u7 :: u8 :: u9 :: u10 :: u11 :: u12 :: u13 :: u14 :: u15 :: u16 :: u17 :: u18 :: (.slice (some ⟨sb, so, none⟩) p.sends.length q.c1) :: (.int .i64 p.sends.length) :: (.int .i64 i) :: u22 :: u23 :: u24 :: u25 :: u26 :: (.slice q.a2 q.rs.length q.c2) :: (.int .i64 q.rs.length) :: u29 :: u30 :: u31 :: u32 :: u33 :: u34 :: u35 :: u36 :: u37 :: u38 :: u39 :: u40 :: u41 :: u42 :: u43 :: u44 :: u45 :: u46 :: u47 :: u48 :: u49 :: u50 :: u51 :: u52 :: u53 :: u54 :: u55 :: u56 :: u57 :: u58 :: u59 :: u60 :: u61 :: u62 :: u63 :: u64 :: u65 :: u66 :: u67 :: u68 :: u69 :: u70 :: u71 :: u72 :: u73 :: u74 :: u75 :: u76 :: u77 :: u78 :: u79 :: u80 :: u81 :: u82 :: u83 :: u84 :: u85 :: u86 :: u87 :: u88 :: []), defers := ds })
        (fun a' _ => q.rs.length - (intOf (a'.tmps.getD 29 undef)).toNat) ?_ ?_
      · (repeat apply Exists.intro)
        refine ⟨?_, rfl⟩
        exact ⟨0, Nat.zero_le _, rfl, HM.out⟩
      · intro _ wr hinv
        clear HM
        obtain ⟨ds, hinv⟩ := hinv
        obtain ⟨u0, hinv⟩ := hinv; obtain ⟨u2, hinv⟩ := hinv; obtain ⟨u6, hinv⟩ := hinv; obtain ⟨u7, hinv⟩ := hinv; obtain ⟨u8, hinv⟩ := hinv; obtain ⟨u9, hinv⟩ := hinv; obtain ⟨u10, hinv⟩ := hinv; obtain ⟨u11, hinv⟩ := hinv; obtain ⟨u12, hinv⟩ := hinv; obtain ⟨u13, hinv⟩ := hinv; obtain ⟨u14, hinv⟩ := hinv; obtain ⟨u15, hinv⟩ := hinv; obtain ⟨u16, hinv⟩ := hinv; obtain ⟨u17, hinv⟩ := hinv; obtain ⟨u18, hinv⟩ := hinv; obtain ⟨u22, hinv⟩ := hinv; obtain ⟨u23, hinv⟩ := hinv; obtain ⟨u24, hinv⟩ := hinv; obtain ⟨u25, hinv⟩ := hinv; obtain ⟨u26, hinv⟩ := hinv; obtain ⟨u29, hinv⟩ := hinv; obtain ⟨u30, hinv⟩ := hinv; obtain ⟨u31, hinv⟩ := hinv; obtain ⟨u32, hinv⟩ := hinv; obtain ⟨u33, hinv⟩ := hinv; obtain ⟨u34, hinv⟩ := hinv; obtain ⟨u35, hinv⟩ := hinv; obtain ⟨u36, hinv⟩ := hinv; obtain ⟨u37, hinv⟩ := hinv; obtain ⟨u38, hinv⟩ := hinv; obtain ⟨u39, hinv⟩ := hinv; obtain ⟨u40, hinv⟩ := hinv; obtain ⟨u41, hinv⟩ := hinv; obtain ⟨u42, hinv⟩ := hinv; obtain ⟨u43, hinv⟩ := hinv; obtain ⟨u44, hinv⟩ := hinv; obtain ⟨u45, hinv⟩ := hinv; obtain ⟨u46, hinv⟩ := hinv; obtain ⟨u47, hinv⟩ := hinv; obtain ⟨u48, hinv⟩ := hinv; obtain ⟨u49, hinv⟩ := hinv; obtain ⟨u50, hinv⟩ := hinv; obtain ⟨u51, hinv⟩ := hinv; obtain ⟨u52, hinv⟩ := hinv; obtain ⟨u53, hinv⟩ := hinv; obtain ⟨u54, hinv⟩ := hinv; obtain ⟨u55, hinv⟩ := hinv; obtain ⟨u56, hinv⟩ := hinv; obtain ⟨u57, hinv⟩ := hinv; obtain ⟨u58, hinv⟩ := hinv; obtain ⟨u59, hinv⟩ := hinv; obtain ⟨u60, hinv⟩ := hinv; obtain ⟨u61, hinv⟩ := hinv; obtain ⟨u62, hinv⟩ := hinv; obtain ⟨u63, hinv⟩ := hinv; obtain ⟨u64, hinv⟩ := hinv; obtain ⟨u65, hinv⟩ := hinv; obtain ⟨u66, hinv⟩ := hinv; obtain ⟨u67, hinv⟩ := hinv; obtain ⟨u68, hinv⟩ := hinv; obtain ⟨u69, hinv⟩ := hinv; obtain ⟨u70, hinv⟩ := hinv; obtain ⟨u71, hinv⟩ := hinv; obtain ⟨u72, hinv⟩ := hinv; obtain ⟨u73, hinv⟩ := hinv; obtain ⟨u74, hinv⟩ := hinv; obtain ⟨u75, hinv⟩ := hinv; obtain ⟨u76, hinv⟩ := hinv; obtain ⟨u77, hinv⟩ := hinv; obtain ⟨u78, hinv⟩ := hinv; obtain ⟨u79, hinv⟩ := hinv; obtain ⟨u80, hinv⟩ := hinv; obtain ⟨u81, hinv⟩ := hinv; obtain ⟨u82, hinv⟩ := hinv; obtain ⟨u83, hinv⟩ := hinv; obtain ⟨u84, hinv⟩ := hinv; obtain ⟨u85, hinv⟩ := hinv; obtain ⟨u86, hinv⟩ := hinv; obtain ⟨u87, hinv⟩ := hinv; obtain ⟨u88, hinv⟩ := hinv
        obtain ⟨⟨k, hk, rfl, hM⟩, ha⟩ := hinv
        subst ha
        by_cases hkt : k < q.rs.length
        · obtain ⟨x, hx⟩ : ∃ x, q.rs[k]? = some x := ⟨q.rs[k], by simp⟩
          obtain ⟨pb, po, ea, e0, e1, z1, hR⟩ := (HB.out.later hM.W).route hx
          have hpr : p.routes[k]? = some x.rt := by rw [← HB.out.eq]; simp [hx]
          have hro := HO.out.routes x.rt (List.mem_of_getElem? hpr)
          have hll : x.rt.legs.length = x.legs.length := by simp [RtV.rt]
          have hx3 : x.legs.length ≤ 3 := by rw [← hll]; exact hro.l3
          have HPr := Lib.hid hpr
          have HRo := Lib.hid hro
          have HLl := Lib.hid hll
          have HM := Lib.hid hM
          have HR := Lib.hid hR
          rw [ea]
          have r3 : (0 : Int) ≤ (k : Int) := by omega
          have r4 : (k : Int) < (q.rs.length : Int) := by omega
          clear hx hpr hro hll hM hR ea
          gi_upto_region 9 with fail
          refine named2 (p := Code.wpIn _ _ _ _ _ _) ?_
          intro W2 hb2 B7 BS
          rw [zero_bits] at BS
          have hSet : SetAt W2 (wr.heap.size + 1) (fun _ => false) := BS
          have e2 := hSet.cell (n := sd.toNat) (by omega)
          have f2 := Box.frozen BS sd.toNat
          have t2 := Box.lt BS
          have hbut := setCell_but W2 (wr.heap.size + 1) sd.toNat (.bool true)
          have HS3 := Lib.hid (hSet.add sd.toNat)
          have B7' := hbut.box B7 (by omega)
          have hb3 : Below wr.heap.size wr (W2.setCell ⟨wr.heap.size + 1, sd.toNat, none⟩ (.bool true)) := hbut.below hb2 (by omega)
          have hM3 : Marks w.heap.size ds (W2.setCell ⟨wr.heap.size + 1, sd.toNat, none⟩ (.bool true)) := (HM.out.M.later hb2).but BS hbut
          have HB3 := Lib.hid hb3
          have HM3 := Lib.hid hM3
          have s1 : (0 : Int) ≤ sd := hsb.1
          have s2 : sd < 101 := by omega
          have c7 := B7'.cell
          have t7 := B7'.lt
          clear hSet hbut hb3 hM3 BS B7 e0 e1 z1 hb2
          gi_wp2
          clear c7 t7 e2 f2 t2 B7'
          refine wpIn_loop (fun a' w' => ∃ (ds : List Deferred) (u0 u2 u7 u8 u9 u10 u11 u12 u13 u14 u15 u16 u17 u18 u22 u23 u24 u25 u26 u30 u31 u32 u33 u34 u35 u36 u37 u38 u39 u40 u43 u44 u45 u46 u47 u48 u49 u50 u51 u52 u53 u54 u55 u56 u57 u58 u59 u60 u61 u62 u63 u64 u65 u66 u67 u68 u69 u70 u71 u72 u73 u74 u75 u76 u77 u78 u79 u80 u81 u82 u83 u84 u85 u86 u87 u88 : Value), (∃ (j bs : Nat) (s : Nat → Bool), j ≤ x.legs.length ∧ u43 = .int .i64 j ∧ u8 = .pointer (some ⟨bs, 0, none⟩) ∧ Below wr.heap.size wr w' ∧ wr.heap.size ≤ bs ∧ SetAt w' bs s ∧ Cover x.rt.legs sd j s ∧ Bnd s j ∧ Marks w.heap.size ds w') ∧
              a' = { tmps := List.toArray (u0 :: (.pointer (some ⟨w.heap.size, 0, none⟩)) :: u2 :: (.pointer (some ⟨w.heap.size + 1 + 1, 0, none⟩)) :: (.int .i64 i) :: (.int .i64 sd) :: (.int .i64 k) :: u7 :: u8 :: u9 :: u10 :: u11 :: u12 :: u13 :: u14 :: u15 :: u16 :: u17 :: u18 :: (.slice (some ⟨sb, so, none⟩) p.sends.length q.c1) :: (.int .i64 p.sends.length) :: (.int .i64 i) :: u22 :: u23 :: u24 :: u25 :: u26 :: (.slice (some ⟨pb, po, none⟩) q.rs.length q.c2) :: (.int .i64 q.rs.length) :: (.int .i64 k) :: u30 :: u31 :: u32 :: u33 :: u34 :: u35 :: u36 :: u37 :: u38 :: u39 :: u40 :: (.slice x.a x.legs.length x.c) :: (.int .i64 x.legs.length) :: u43 :: u44 :: u45 :: u46 :: u47 :: u48 :: u49 :: u50 :: u51 :: u52 :: u53 :: u54 :: u55 :: u56 :: u57 :: u58 :: u59 :: u60 :: u61 :: u62 :: u63 :: u64 :: u65 :: u66 :: u67 :: u68 :: u69 :: u70 :: u71 :: u72 :: u73 :: u74 :: u75 :: u76 :: u77 :: u78 :: u79 :: u80 :: u81 :: u82 :: u83 :: u84 :: u85 :: u86 :: u87 :: u88 :: []), defers := ds })
            (fun a' _ => x.legs.length - (intOf (a'.tmps.getD 43 undef)).toNat) ?_ ?_
          · (repeat apply Exists.intro)
            refine ⟨?_, rfl⟩
            exact ⟨0, _, _, Nat.zero_le _, rfl, rfl, HB3.out, by omega, HS3.out, cover_zero _ _, bnd_zero hsb, HM3.out⟩
          · intro _ wj hinv
            clear HB3 HS3 HM3
            obtain ⟨ds, hinv⟩ := hinv
            obtain ⟨u0, hinv⟩ := hinv; obtain ⟨u2, hinv⟩ := hinv; obtain ⟨u7, hinv⟩ := hinv; obtain ⟨u8, hinv⟩ := hinv; obtain ⟨u9, hinv⟩ := hinv; obtain ⟨u10, hinv⟩ := hinv; obtain ⟨u11, hinv⟩ := hinv; obtain ⟨u12, hinv⟩ := hinv; obtain ⟨u13, hinv⟩ := hinv; obtain ⟨u14, hinv⟩ := hinv; obtain ⟨u15, hinv⟩ := hinv; obtain ⟨u16, hinv⟩ := hinv; obtain ⟨u17, hinv⟩ := hinv; obtain ⟨u18, hinv⟩ := hinv; obtain ⟨u22, hinv⟩ := hinv; obtain ⟨u23, hinv⟩ := hinv; obtain ⟨u24, hinv⟩ := hinv; obtain ⟨u25, hinv⟩ := hinv; obtain ⟨u26, hinv⟩ := hinv; obtain ⟨u30, hinv⟩ := hinv; obtain ⟨u31, hinv⟩ := hinv; obtain ⟨u32, hinv⟩ := hinv; obtain ⟨u33, hinv⟩ := hinv; obtain ⟨u34, hinv⟩ := hinv; obtain ⟨u35, hinv⟩ := hinv; obtain ⟨u36, hinv⟩ := hinv; obtain ⟨u37, hinv⟩ := hinv; obtain ⟨u38, hinv⟩ := hinv; obtain ⟨u39, hinv⟩ := hinv; obtain ⟨u40, hinv⟩ := hinv; obtain ⟨u43, hinv⟩ := hinv; obtain ⟨u44, hinv⟩ := hinv; obtain ⟨u45, hinv⟩ := hinv; obtain ⟨u46, hinv⟩ := hinv; obtain ⟨u47, hinv⟩ := hinv; obtain ⟨u48, hinv⟩ := hinv; obtain ⟨u49, hinv⟩ := hinv; obtain ⟨u50, hinv⟩ := hinv; obtain ⟨u51, hinv⟩ := hinv; obtain ⟨u52, hinv⟩ := hinv; obtain ⟨u53, hinv⟩ := hinv; obtain ⟨u54, hinv⟩ := hinv; obtain ⟨u55, hinv⟩ := hinv; obtain ⟨u56, hinv⟩ := hinv; obtain ⟨u57, hinv⟩ := hinv; obtain ⟨u58, hinv⟩ := hinv; obtain ⟨u59, hinv⟩ := hinv; obtain ⟨u60, hinv⟩ := hinv; obtain ⟨u61, hinv⟩ := hinv; obtain ⟨u62, hinv⟩ := hinv; obtain ⟨u63, hinv⟩ := hinv; obtain ⟨u64, hinv⟩ := hinv; obtain ⟨u65, hinv⟩ := hinv; obtain ⟨u66, hinv⟩ := hinv; obtain ⟨u67, hinv⟩ := hinv; obtain ⟨u68, hinv⟩ := hinv; obtain ⟨u69, hinv⟩ := hinv; obtain ⟨u70, hinv⟩ := hinv; obtain ⟨u71, hinv⟩ := hinv; obtain ⟨u72, hinv⟩ := hinv; obtain ⟨u73, hinv⟩ := hinv; obtain ⟨u74, hinv⟩ := hinv; obtain ⟨u75, hinv⟩ := hinv; obtain ⟨u76, hinv⟩ := hinv; obtain ⟨u77, hinv⟩ := hinv; obtain ⟨u78, hinv⟩ := hinv; obtain ⟨u79, hinv⟩ := hinv; obtain ⟨u80, hinv⟩ := hinv; obtain ⟨u81, hinv⟩ := hinv; obtain ⟨u82, hinv⟩ := hinv; obtain ⟨u83, hinv⟩ := hinv; obtain ⟨u84, hinv⟩ := hinv; obtain ⟨u85, hinv⟩ := hinv; obtain ⟨u86, hinv⟩ := hinv; obtain ⟨u87, hinv⟩ := hinv; obtain ⟨u88, hinv⟩ := hinv
            obtain ⟨⟨j, bs, s, hj, rfl, rfl, hW, hbs, hS, hC, hBd, hMk⟩, ha⟩ := hinv
            subst ha
            have HS := Lib.hid hS
            have HC := Lib.hid hC
            have HBd := Lib.hid hBd
            have HMk := Lib.hid hMk
            have tbs := Box.lt hS
            clear hS hC hBd hMk
            by_cases hjt : j < x.legs.length
            · obtain ⟨y, hy⟩ : ∃ y, x.legs[j]? = some y := ⟨x.legs[j], by simp⟩
              obtain ⟨lb, lo, ex, f0, f1, f2, z2, hLg⟩ := (HR.out.later hW).leg hy
              have hyr : x.rt.legs[j]? = some y.lg := by simp [RtV.rt, hy]
              have hyo := HRo.out.legs y.lg (List.mem_of_getElem? hyr)
              have HYo := Lib.hid hyo
              have HYr := Lib.hid hyr
              have htk := hyo.tk
              have HMem := Lib.hid (List.mem_of_getElem? hy)
              rw [ex]
              have r5 : (0 : Int) ≤ (j : Int) := by omega
              have r6 : (j : Int) < (x.legs.length : Int) := by omega
              clear hy ex hLg hyr hyo
              gi_upto_region 14 with fail
              refine named3 (p := Code.wpIn _ _ _ _ _ _) ?_
              intro W5 hb5 B10 BN B11
              rw [zero_bits] at BN
              have HN := Lib.hid (show SetAt W5 (wj.heap.size + 1) (fun _ => false) from BN)
              replace HS := Lib.hid (Box.later HS.out hb5)
              replace HMk := Lib.hid (HMk.out.later hb5)
              replace hW := over hW hb5
              have hsz5 := B11.lt
              clear f0 f1 f2 z2 hb5 BN
              gi_wp2
              refine ⟨trivial, ?_⟩
              refine (callsIn_wide.2 (each_mk bs W5)).mono ?_
              rintro e w6 ⟨b1, rfl, hb6, hb1, B1⟩
              replace B10 := B10.later hb6
              replace B11 := B11.later hb6
              replace HN := Lib.hid (Box.later HN.out hb6)
              replace HS := Lib.hid (Box.later HS.out hb6)
              replace HMk := Lib.hid (HMk.out.later hb6)
              replace hW := over hW hb6
              have HLgA : Hid (∀ V, w6.grownBy V (some (wj.heap.size + 1)) → LgAt V y) := fun V hg => RowAt.later (HR.out.legs y HMem.out) (grown_below hW hg (by omega))
              have t10 := B10.lt
              have t11 := B11.lt
              have tN := Box.lt HN.out
              have tS := Box.lt HS.out
              have HB10 := Lib.hid B10
              have HB11 := Lib.hid B11
              have hjx : j ≤ 2 := by omega
              have HSq := Lib.hid (each_stops 4 (31 + 6 * j) b1 bs s w6 B1 HS.out (fun n _ h => HBd.out n h))
              have hbsn : bs ≠ wj.heap.size + 1 := by omega
              have k1 := B1.lt
              have hn1 : b1 ≠ wj.heap.size + 1 := by omega
              clear B10 B11 hb6
              gi_wp2
              refine wpIn_rangeFunc_ownG (α := Hr (31 + 6 * j)) rfl (by omega) (gf := 80) (lb := #[.pointer (some ⟨b1, 0, none⟩)]) rfl trivial enters_each HSq.out keep2_t (keep2_b k1 tS) (Below.refl _ _) (fun _ => rfl)
                (NextAt w6 (wj.heap.size + 1) j y.lg) (fun _ _ _ => False) (nextAt_own tN) (fun _ _ _ _ _ h _ _ => h) ⟨World.grownBy.refl _ _, _, HN.out, preC_none _, bnd_none _⟩ ?a1 ?assign ?body ?done ?stop
              case assign =>
                intro l z W K hK
                gi_wp2
                exact hK
              case body =>
                rintro l pre z W ⟨hg, s', hs', hp, hbd⟩ hlen
                have B10 := grown_box hg HB10.out (by omega)
                have B11 := grown_box hg HB11.out (by omega)
                have hzb := z.2
                have HP := Lib.hid hp
                have HBdn := Lib.hid hbd
                have HSt := Lib.hid hs'
                have HG := Lib.hid hg
                obtain ⟨N, hN⟩ : ∃ N : Nat, y.lg.hi - y.lg.lo + 1 = N := ⟨(y.lg.hi - y.lg.lo + 1).toNat, by omega⟩
                have hN7 : N ≤ 7 := by omega
                obtain ⟨zn, hzn⟩ : ∃ zn : Nat, zn = z.1 := ⟨_, rfl⟩
                have HZn := Lib.hid hzn
                rw [← hzn] at hzb ⊢
                clear hp hbd hs' hg hzn
                have c10 := B10.cell; have t10 := B10.lt; have c11 := B11.cell; have t11 := B11.lt
                gi_wp2
                clear c10 t10 c11 t11
                have hKO := KeepsOthers.refl W
                have hPart : PartC y.lg (pre.map (·.1)) zn 0 s' := partC_zero HP.out
                gi_loopw [60] (fun i' wn => ∃ (m : Nat) (s2 : Nat → Bool), m ≤ N ∧ i' = .int .i64 m ∧ w6.grownBy wn (some (wj.heap.size + 1)) ∧ KeepsOthers W wn ∧ SetAt wn (wj.heap.size + 1) s2 ∧ PartC y.lg (pre.map (·.1)) zn m s2 ∧ Bnd s2 (j + 1)) (fun i' _ => N - (intOf i').toNat)
                case atStart => exact ⟨0, s', Nat.zero_le _, rfl, HG.out, hKO, HSt.out, hPart, HBdn.out⟩
                case round =>
                  clear hKO hPart HSt HP HBdn
                  obtain ⟨m, s2, hm, rfl, hg, hKO, hs2, hpt, hbd⟩ := hrel
                  replace B10 := grown_box hg HB10.out (by omega)
                  replace B11 := grown_box hg HB11.out (by omega)
                  have HPt := Lib.hid hpt
                  have HBdn := Lib.hid hbd
                  have HSt := Lib.hid hs2
                  have HG2 := Lib.hid hg
                  have HKO := Lib.hid hKO
                  clear hpt hbd hs2 hg hKO
                  by_cases hmt : m < N
                  · have r7 : (0 : Int) ≤ (m : Int) := by omega
                    have r8 : (m : Int) < (N : Int) := by omega
                    have c10 := B10.cell; have t10 := B10.lt; have c11 := B11.cell; have t11 := B11.lt
                    gi_upto_region 19 with fail
                    obtain ⟨av, hav⟩ : ∃ av : Nat, (av : Int) = awk y.lg.as ((zn : Int) + y.lg.lo + m) := ⟨(awk y.lg.as ((zn : Int) + y.lg.lo + m)).toNat, by have := awk_bd HYo.out.as (h := (zn : Int) + y.lg.lo + m) (by omega); omega⟩
                    have havb : av ≤ 31 + 6 * (j + 1) := by have := awk_bd HYo.out.as (h := (zn : Int) + y.lg.lo + m) (by omega); omega
                    have HAv := Lib.hid hav
                    have HLgW := Lib.hid (HLgA.out wr HG2.out)
                    have q1 : (0 : Int) ≤ (av : Int) := by omega
                    have q2 : (av : Int) < 101 := by omega
                    clear hav
                    refine Fat.R.wpIn_region0 12 [9, 11] (fun i => if i = 9 then isSpec (.int .i64 av) else isSpec (.pointer (some ⟨wj.heap.size + 1, av, none⟩))) (fun i => by (repeat' split) <;> exact isSpec_lasting _) (by kernel_rfl) (by kernel_rfl) (by kernel_rfl) ?_
                    simp only [List.take_succ_cons, List.take_zero, Fat.pick, List.contains_cons, List.contains_nil, Nat.reduceAdd, Nat.reduceBEq]
                    repeat (first | simp only [Bool.or_false] | simp only [Bool.or_true] | simp only [Bool.true_or] | simp only [Bool.false_eq_true] | simp only [if_true] | simp only [if_false])
                    repeat (go_big_quiet_step (fail))
                    refine wpQuiet_nil ?_
                    refine ⟨?_, ?_, ?_⟩
                    · intro i o hi hown ho vals lo hi' W hW hdep
                      simp only [List.contains_cons, List.contains_nil, Bool.or_false] at hi
                      (try simp only [Bool.or_eq_true] at hi)
                      simp only [beq_iff_eq] at hi
                      rcases hi with rfl | rfl
                      all_goals first
                        | exact absurd hown (by decide)
                        | (simp only [List.getElem?_cons_succ, List.getElem?_cons_zero, Option.some.injEq] at ho; subst ho; refine .inl ⟨rfl, ?_⟩; simp only [Fat.putN, Fat.dstOf, Act.put, List.getElem?_toArray, List.getElem?_cons_succ, List.getElem?_cons_zero, Option.bind_some, List.setIfInBounds_toArray, List.set_cons_succ, List.set_cons_zero])
                      · go_simp
                        exact (awake5_any y ((zn : Int) + y.lg.lo + m) W (RowAt.later HLgW.out hW) HYo.out (by omega) (by omega)).mono fun e w'' ⟨he, h⟩ => ⟨_, he, h, by rw [← HAv.out]; rfl⟩
                      · obtain ⟨_, _, _, (hv : vals 9 = _)⟩ := hdep 9 rfl (by kernel_rfl)
                        rw [hv]
                        go_simp
                        exact ⟨Below.refl _ _, rfl⟩
                    · intro i o hi hown ho vals lo hi' W hW hdep
                      simp only [List.contains_cons, List.contains_nil, Bool.or_false] at hi
                      (try simp only [Bool.or_eq_true] at hi)
                      simp only [beq_iff_eq] at hi
                      rcases hi with rfl | rfl
                      all_goals first
                        | exact absurd (by decide) hown
                        | (simp only [List.getElem?_cons_succ, List.getElem?_cons_zero, Option.some.injEq] at ho; subst ho; refine ⟨rfl, ?_⟩; simp only [Fat.putN, Fat.dstOf, Act.put, List.getElem?_toArray, List.getElem?_cons_succ, List.getElem?_cons_zero, Option.bind_some, List.setIfInBounds_toArray, List.set_cons_succ, List.set_cons_zero]; (try simp only [Option.bind_none]))
                    · intro vals lo' hi' w9 hb9 hphi hdis htied
                      obtain ⟨_, _, _, (q9 : vals 9 = _)⟩ := hphi 9 rfl
                      obtain ⟨_, _, _, (q11 : vals 11 = _)⟩ := hphi 11 rfl
                      simp only [Fat.putN, Fat.dstOf, Act.put, List.getElem?_toArray, List.getElem?_cons_succ, List.getElem?_cons_zero, Option.bind_some, List.setIfInBounds_toArray, List.set_cons_succ, List.set_cons_zero, List.drop_succ_cons, List.drop_zero]
                      rw [q9, q11]
                      clear q9 q11 hphi hdis htied c10 t10 c11 t11
                      have hS9 : SetAt w9 (wj.heap.size + 1) s2 := Box.later HSt.out hb9
                      have hg9 := grown_on HG2.out (Below.grown' hb9) (fun r e => by cases e)
                      have hk9 := HKO.out.trans (below_others hb9)
                      have e9 := hS9.cell (n := av) (by omega)
                      have f9 := Box.frozen hS9 av
                      have t9 := Box.lt hS9
                      have hbut := setCell_but w9 (wj.heap.size + 1) av (.bool true)
                      have HS9 := Lib.hid (hS9.add av)
                      have HK9 := Lib.hid (hk9.trans (KeepsOthers.setCell w9 ⟨wj.heap.size + 1, av, none⟩ (.bool true)))
                      have HG9 := Lib.hid (grown_but hg9 hbut)
                      have HPt9 := Lib.hid (partC_succ HPt.out)
                      have HB9 := Lib.hid (bnd_add HBdn.out havb)
                      clear hS9 hg9 hk9 hbut hb9
                      gi_wp2
                      go_roundw
                      case rel =>
                        refine ⟨m + 1, _, by omega, by go_num, HG9.out, HK9.out, HS9.out, ?_, HB9.out⟩
                        have h := HPt9.out
                        rwa [show (awk y.lg.as ((zn : Int) + (y.lg.lo + m))).toNat = av by have := HAv.out; rw [show (zn : Int) + (y.lg.lo + m) = (zn : Int) + y.lg.lo + m by omega, ← this]; rfl] at h
                      case measure => simp [intOf]; omega
                  · obtain rfl : m = N := by omega
                    clear hm hmt
                    gi_wp2
                    refine ⟨HKO.out.from _, ⟨(HG2.out.block b1 k1 (by simpa using hn1)).trans (HG.out.block b1 k1 (by simpa using hn1)).symm, (HG2.out.block bs tS (by simpa using hbsn)).trans (HG.out.block bs tS (by simpa using hbsn)).symm⟩, HG2.out, s2, HSt.out, ?_, HBdn.out⟩
                    rw [List.map_append, List.map_cons, List.map_nil, ← HZn.out]
                    exact preC_snoc HPt.out (by omega)
              case done =>
                rintro D ys W1 hD hys ⟨hg, s', hs', hp, hbd⟩ hK
                have B11 := grown_box hg HB11.out (by omega)
                have hm1 : Marks w.heap.size ds W1 := HMk.out.keep fun E hE => hg.block E (Array.getElem?_eq_some_iff.1 hE).1 fun e => by
                  injection e with e
                  rw [e, show w6.heap[wj.heap.size + 1]? = _ from HN.out] at hE; cases hE
                have hm2 : Marks w.heap.size (markOf D :: ds) W1 := hm1.cons (by have := HM.out.W.size; have := hW.size; omega) hK (fun d hd => by
                  obtain ⟨Ds, h1, _, h3⟩ := HMk.out
                  rw [h1] at hd
                  obtain ⟨E, hE, rfl⟩ := List.mem_map.1 hd
                  intro e
                  have h4 := (Array.getElem?_eq_some_iff.1 (h3 E hE).2).1
                  have := markOf_inj e
                  omega)
                have HM2 := Lib.hid hm2
                have HW2 := Lib.hid (grown_below hW hg (by omega))
                have HS2 := Lib.hid hs'
                have HBd2 := Lib.hid hbd
                rw [hys] at hp
                have HC2 := Lib.hid (cover_succ HRo.out.legs hsb (by omega) HC.out HYr.out hp)
                have c11 := B11.cell; have t11 := B11.lt
                clear hm1 hm2 hp hbd hs' hg hys hK
                gi_wp2
                go_roundw
                case rel =>
                  (repeat apply Exists.intro)
                  refine ⟨?_, rfl⟩
                  exact ⟨j + 1, wj.heap.size + 1, s', by omega, by go_num, rfl, HW2.out, by omega, HS2.out, HC2.out, HBd2.out, HM2.out⟩
                case measure => simp [intOf]; omega
              case stop =>
                rintro D c pre W1 hD _ h
                exact h.elim
            · obtain rfl : j = x.legs.length := by omega
              clear hj hjt
              have hMid := HM.out.later hW
              obtain ⟨W8, hrun, hg8, hH8⟩ := hMid.H.put HS.out (fun sd' r h1 h2 => by
                rw [HSd.out] at h1; cases h1
                rw [HPr.out] at h2; cases h2
                have hll := HLl.out
                exact ⟨by rw [hll]; exact HC.out, fun n hn => by have := HBd.out n hn; omega⟩)
              have B3 := hMid.B3
              have c3 := B3.cell; have t3 := B3.lt
              have hk8 : ∀ {b : Nat} {cs : Array Value} {T : TypeId}, Box wj b cs T → Box W8 b cs T := fun {b cs T} hb => (hg8.block b hb.lt fun e => by
                injection e with e
                obtain ⟨es, clock, h1, _⟩ := hMid.H
                have h1' : wj.heap[w.heap.size + 1]? = some (.map es clock) := h1
                rw [← e, show wj.heap[b]? = _ from hb] at h1'; cases h1').trans hb
              have hM8 : Mid q p w i (k + 1) ds W8 := ⟨hMid.W.grown hg8 hMid.W.size (fun r e => by cases e; omega), hk8 hMid.B1, hH8, hk8 hMid.B3, HMk.out.keep fun D hD => hg8.block D (Array.getElem?_eq_some_iff.1 hD).1 fun e => by
                injection e with e
                obtain ⟨es, clock, h1, _⟩ := hMid.H
                have h1' : wj.heap[w.heap.size + 1]? = some (.map es clock) := h1
                rw [← e, hD] at h1'; cases h1'⟩
              have HM8 := Lib.hid hM8
              clear hM8 hk8 hH8 hg8 hMid hW HS HC HBd HMk
              gi_wp2
              go_roundw
              case rel =>
                (repeat apply Exists.intro)
                refine ⟨?_, rfl⟩
                exact ⟨k + 1, by omega, by go_num, HM8.out⟩
              case measure => simp [intOf]; omega
        · obtain rfl : k = q.rs.length := by omega
          have hn : Mid q p w (i + 1) 0 ds wr := ⟨hM.W, hM.B1, by have h := hM.H; rw [HRl.out] at h; exact h.next, hM.B3, hM.M⟩
          have HN := Lib.hid hn
          clear hM hn hk hkt
          gi_wp2
          go_roundw
          case rel =>
            (repeat apply Exists.intro)
            refine ⟨?_, rfl⟩
            exact ⟨i + 1, by omega, by go_num, HN.out⟩
          case measure => simp [intOf]; omega
    · obtain rfl : i = p.sends.length := by omega
      have HM := Lib.hid hM
      clear hM hi hlt
      gi_wp2
      have hM := HM.out
      refine marks_leave hM.M (fun W' hb hk => ?_) hM.W.size
      have hk3 : W'.heap[w.heap.size + 1 + 1]? = wo.heap[w.heap.size + 1 + 1]? := hk _ (by rw [show wo.heap[w.heap.size + 1 + 1]? = _ from hM.B3]; exact fun e => by injection e with e; cases e)
      exact ⟨_, results_tmp rfl _ _ _, w.heap.size + 1 + 1, w.heap.size + 1, rfl, hM.W.trans hb, ⟨hk3.trans hM.B3, hM.H.keep hk⟩, by omega⟩
end Cp
end Go.Proofs.YtingfmdbihbamaaGreat
