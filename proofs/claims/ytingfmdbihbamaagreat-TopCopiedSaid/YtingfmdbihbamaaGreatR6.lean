/- Layer 3, the walks: the earliest hours. -/
import Derived.Test.YtingfmdbihbamaaGreatRA
import Derived.Deep.LoopGhost
import Derived.Sort.CutIn
open Go.RowKit Go.Shelf
namespace Go.Proofs.YtingfmdbihbamaaGreat
open Go.Hill
attribute [local go_sem] Oper.semAt_some

def twoSpec (T : TypeId) (a b : Value) : Fat.Spec := fun v lo hi w => v = .slice (some ⟨lo, 0, none⟩) 2 2 ∧ lo < hi ∧ Box w lo #[a, b] T
theorem twoSpec_lasting (T : TypeId) (a b : Value) : Fat.Lasting (twoSpec T a b) := fun _ _ _ _ _ hb _ h => ⟨h.1, h.2.1, h.2.2.later hb⟩
theorem twoSpec_new {w : World} (T : TypeId) (a b : Value) : Below w.heap.size w (w.alloc (.cells #[a, b] T)) ∧ twoSpec T a b (.slice (some ⟨w.heap.size, 0, none⟩) 2 2) w.heap.size (w.heap.size + 1) (w.alloc (.cells #[a, b] T)) :=
  ⟨al (Below.refl _ _) _, rfl, by simp, Box.new w _ T⟩
theorem HrAt.upd {W : World} {b : Nat} {h : Nat → Int} (hb : HrAt W b h) {x : Nat} (hx : x < 6) (v : Int) : HrAt (W.setCell ⟨b, x, none⟩ (.int .i64 (min (h x) v))) b (Go.Hill.upd h x v) := by
  have h1 := hb.set hx (min (h x) v)
  unfold HrAt at h1 ⊢
  rw [hrs_congr (g := Go.Hill.upd h x v) fun y _ => by unfold Go.Hill.upd; split; (rename_i e; subst e; rfl); rfl] at h1
  exact h1
/-- What holds between two rounds of the loops. -/
structure Fill (r : RV) (q : LV) (L : Land) (f s k : Nat) (out : Int) (w : World) (ds : List Deferred) (h : Nat → Int) (wr : World) : Prop where
  T : Turn r.ex none w wr
  K : KnAt wr r L
  B9 : Box wr w.heap.size #[.int .i64 out] 3
  B10 : Box wr (w.heap.size + 1) (hrsc fun _ => 0) 104
  H : HrAt wr (w.heap.size + 1 + 1) h
  M : Marks w.heap.size ds wr
  tb : Tab (L.rel k out) f s h
theorem Fill.later {r : RV} {q : LV} {L : Land} {f s k : Nat} {out : Int} {w : World} {ds : List Deferred} {h : Nat → Int} {wr wr' : World} (hF : Fill r q L f s k out w ds h wr) (hb : Below wr.heap.size wr wr') : Fill r q L f s k out w ds h wr' :=
  ⟨hF.T.next hb, hF.K.later hb, hF.B9.later hb, hF.B10.later hb, hF.H.later hb, hF.M.later hb, hF.tb⟩
theorem Fill.rel {r : RV} {q : LV} {L : Land} {f s k : Nat} {out : Int} {w : World} {ds : List Deferred} {h : Nat → Int} {wr : World} (hF : Fill r q L f s k out w ds h wr) (hr : RelAt w r q L) : RelAt wr r q L := hr.turn hF.T hF.K
theorem Fill.turned {r : RV} {q : LV} {L : Land} {f s k : Nat} {out : Int} {w : World} {ds : List Deferred} {h : Nat → Int} {wr wr' : World} (hF : Fill r q L f s k out w ds h wr) (ht : Turn r.ex none wr wr') (hk : KnAt wr' r L) : Fill r q L f s k out w ds h wr' :=
  ⟨hF.T.trans ht, hk, ht.box0 hF.B9, ht.box0 hF.B10, ht.box0 hF.H, ht.marks hF.M (by simp), hF.tb⟩
theorem Fill.but' {r : RV} {q : LV} {L : Land} {f s k : Nat} {out : Int} {w : World} {ds : List Deferred} {h : Nat → Int} {wr wr' : World} {b : Nat} {cs : Array Value} {T : TypeId} (hF : Fill r q L f s k out w ds h wr) (hb : But b wr wr') (hB : Box wr b cs T) (hn : w.heap.size + 1 + 1 < b) : Fill r q L f s k out w ds h wr' :=
  ⟨hF.T.but hb (.inl (by omega)), hF.K.but hB hb, hb.box hF.B9 (by omega), hb.box hF.B10 (by omega), hb.box hF.H (by omega), hF.M.but hB hb, hF.tb⟩
/-- Between two rounds of the loop over a set of stations: nothing has turned but the table. -/
def NextH (L : Land) (f s k : Nat) (out : Int) (w6 : World) (bh : Nat) (h6 : Nat → Int) (t : Nat) (pre : List Nat) (W : World) : Prop :=
  w6.grownBy W (some bh) ∧ ∃ h', HrAt W bh h' ∧ Tab (L.rel k out) f s h' ∧ (∀ x, x < 6 → h' x ≤ h6 x) ∧ ∀ z ∈ pre, (z : Int) ≠ out → h' z ≤ t + 1
theorem nextH_own {α : Type} {L : Land} {f s k : Nat} {out : Int} {w6 : World} {bh : Nat} {h6 : Nat → Int} {t : Nat} {g : List α → List Nat} (hn : bh < w6.heap.size) : OwnFrom w6.heap.size (fun pre W => NextH L f s k out w6 bh h6 t (g pre) W) := fun p W W' row ⟨h, h', h1, h2⟩ hg hr =>
  ⟨⟨hg.os.trans h.os, hg.tape.trans h.tape, hg.output.trans h.output, Nat.le_trans h.size hg.size, fun k hk hne => (hg.block k (Nat.lt_of_lt_of_le hk h.size) fun e => by
    have := (hr k e.symm).1; omega).trans (h.block k hk hne)⟩, h', (hg.block bh (HrAt.lt h1) fun e => by have := (hr bh e.symm).1; omega).trans h1, h2⟩
/-- The number that a pointer leads to. -/
def ptrNum (v : Value) (W : World) : Nat := match v with
  | .pointer (some p) => match W.cell? p with
    | some u => (intOf u).toNat
    | none => 0
  | _ => 0
theorem ptrNum_at {W : World} {b : Nat} {n : Int} {T : TypeId} (h : Box W b #[.int .i64 n] T) : ptrNum (.pointer (some ⟨b, 0, none⟩)) W = n.toNat := by
  unfold ptrNum
  simp only [h.cell 0]
  rfl

theorem mem_snoc {p : Nat → Bool} {n y : Nat} {pre : List (Mem p n)} {z : Mem p n} (h : y ∈ (pre ++ [z]).map (·.1)) : y ∈ pre.map (·.1) ∨ y = z.1 := by
  rw [List.map_append] at h
  rcases List.mem_append.1 h with h | h
  · exact .inl h
  · simp at h; exact .inr h
theorem keep_one {b1 : Nat} {w6 : World} (h : b1 < w6.heap.size) (W : World) (l : Nat) (o o' : Obj) (hl : w6.heap.size ≤ l) (_h : W.heap[l]? = some o) (_ : o.isCells = false) (_ : o.isWalk = false) : (W.putObj l o').heap[b1]? = W.heap[b1]? := World.putObj_heap_other (by omega)
theorem grown_on {w6 W W' : World} {nb : Nat} {row : Option Nat} (h : w6.grownBy W (some nb)) (hg : W.grownBy W' row) (hr : ∀ r, row = some r → w6.heap.size ≤ r) : w6.grownBy W' (some nb) :=
  ⟨hg.os.trans h.os, hg.tape.trans h.tape, hg.output.trans h.output, Nat.le_trans h.size hg.size, fun k hk hne => (hg.block k (Nat.lt_of_lt_of_le hk h.size) fun e => by
    have := hr k e.symm; omega).trans (h.block k hk hne)⟩
theorem grown_but {w6 W W' : World} {nb : Nat} (h : w6.grownBy W (some nb)) (hb : But nb W W') : w6.grownBy W' (some nb) :=
  ⟨hb.os.trans h.os, hb.tape.trans h.tape, hb.output.trans h.output, by rw [hb.size]; exact h.size, fun k hk hne => (hb.block k fun e => hne (by rw [e])).trans (h.block k hk hne)⟩
theorem grown_box {w6 W : World} {nb b : Nat} {cs : Array Value} {T : TypeId} (h : w6.grownBy W (some nb)) (hB : Box w6 b cs T) (hne : b ≠ nb) : Box W b cs T :=
  (h.block b hB.lt fun e => hne (by injection e)).trans hB
set_option maxRecDepth 100000 in
set_option maxHeartbeats 8000000 in
theorem earliest_any (r : RV) (q : LV) (L : Land) (f s k : Nat) (out : Int) (w : World) (hr : RelAt w r q L) (hc : L.chk = 0) (hf : f < L.st.length) (hs : s ≤ L.sn.length) (hk : k < L.cs.length) (_ho : -1 ≤ out ∧ out ≤ 1000) :
    Calls Tryz.prog 23 #[.pointer (some ⟨r.bw, 0, none⟩), .int .i64 f, .int .i64 s, .int .i64 k, .int .i64 out] w (RetR (.agg (hrsc (L.tab f s k out))) r q L w) := by
  have HR := Lib.hid hr
  have HC := Lib.hid hc
  obtain ⟨n6, n0, e12, e0, m4, m0⟩ := st_six hc
  clear hr hc
  refine (callsIn_wide (n := 6)).1 ?_
  refine callsIn_of_wp_marks Tryz.func23 rfl trivial ?_ rfl
  simp only [Tryz.ntmps23, List.size_toArray, List.length_cons, List.length_nil, Nat.reduceAdd, Nat.reduceSub, Array.replicate_succ, Array.replicate_zero, List.push_toArray, List.append_toArray, List.nil_append, List.cons_append]
  gi_wp2
  refine named3 (p := Code.wpIn _ _ _ _ _ _) ?_
  intro W hW B9 B10 B11
  have HB11 := Lib.hid (show HrAt W (w.heap.size + 1 + 1) (fun _ => 0) from B11)
  clear B11
  gi_loopw [17] (fun i' wr => ∃ (i : Nat) (h : Nat → Int), i ≤ 6 ∧ i' = .int .i64 i ∧ Below w.heap.size w wr ∧ Box wr w.heap.size #[.int .i64 out] 3 ∧ Box wr (w.heap.size + 1) (hrsc fun _ => 0) 104 ∧ HrAt wr (w.heap.size + 1 + 1) h ∧ ∀ x, x < i → h x = (L.sn.length : Int) + 1) (fun i' _ => 6 - (intOf i').toNat)
  case atStart => exact ⟨0, _, Nat.zero_le _, rfl, hW, B9, B10, HB11.out, fun x hx => by omega⟩
  case round =>
    clear HB11 B9 B10 hW
    obtain ⟨i, h, hi, rfl, hW, B9, B10, hH, hx⟩ := hrel
    have HH := Lib.hid hH
    have HX := Lib.hid hx
    clear hH hx
    by_cases hlt : i < 6
    · have r1 : (0 : Int) ≤ (i : Int) := by omega
      have r2 : (i : Int) < 6 := by omega
      gi_wp2
      refine ⟨trivial, ?_⟩
      refine (callsIn_wide.2 (end_any wr (HR.out.later hW).box)).mono ?_
      rintro e w1 ⟨rfl, hb1⟩
      have e0' := (HH.out.later hb1).cell hlt
      have f0 := Box.frozen (HH.out.later hb1) i
      have t0 := (HH.out.later hb1).lt
      have hbut := setCell_but w1 (w.heap.size + 1 + 1) i (.int .i64 ((L.sn.length : Int) + 1))
      have HN := Lib.hid ((HH.out.later hb1).set hlt ((L.sn.length : Int) + 1))
      have HW := Lib.hid (hbut.below (over hW hb1) (by omega))
      have H9 := Lib.hid (hbut.box (B9.later hb1) (by omega))
      have H10 := Lib.hid (hbut.box (B10.later hb1) (by omega))
      clear hbut HH B9 B10 hW hb1
      gi_wp2
      go_roundw
      case rel =>
        refine ⟨i + 1, _, by omega, by go_num, HW.out, H9.out, H10.out, HN.out, fun x hx => ?_⟩
        show (if x = i then _ else h x) = _
        split
        · rfl
        · exact HX.out x (by omega)
      case measure => simp [intOf]; omega
    · obtain rfl : i = 6 := by omega
      have f6 : f < 6 := by omega
      have r1 : (0 : Int) ≤ (f : Int) := by omega
      have r2 : (f : Int) < 6 := by omega
      have d0 := HH.out.cell f6
      have d1 := Box.frozen HH.out f
      have d2 := HH.out.lt
      have hbut := setCell_but wr (w.heap.size + 1 + 1) f (.int .i64 (s : Int))
      have hN := HH.out.set f6 (s : Int)
      have hE : hrsc (fun y => if y = f then (s : Int) else h y) = hrsc (fun y => if y = f then (s : Int) else (L.sn.length : Int) + 1) := hrs_congr fun x hx => by
        split
        · rfl
        · exact HX.out x hx
      unfold HrAt at hN
      rw [hE] at hN
      have hW2 := hbut.below hW (by omega)
      have HF : Hid (Fill r q L f s k out w [] (fun y => if y = f then (s : Int) else (L.sn.length : Int) + 1) (wr.setCell ⟨w.heap.size + 1 + 1, f, none⟩ (.int .i64 (s : Int)))) :=
        ⟨Below.turn hW2, HR.out.kn.later hW2, hbut.box B9 (by omega), hbut.box B10 (by omega), hN, Marks.nil _ _, tab_start (r := L.rel k out) hf hs⟩
      clear hbut hN hE hW2 HH HX B9 B10 hW
      gi_wp2
      refine wpIn_loop (fun a' w' => ∃ (ds : List Deferred) (u5 u6 u7 u8 u12 u13 u14 u15 u16 u17 u18 u19 u20 u21 u22 u23 u24 u25 u26 u27 u28 u29 u30 u31 u32 u33 u34 u35 u36 u37 u38 u39 u40 u41 u42 u43 u44 u45 u46 u47 u48 u49 u50 u51 u52 u53 u54 u55 u56 u57 u58 u59 u60 u61 u62 u63 u64 u65 u66 u67 u68 u69 u70 u71 u72 u73 u74 u75 u76 u77 u78 : Value), (∃ h : Nat → Int, Fill r q L f s k out w ds h w') ∧
          a' = { tmps := List.toArray ((.pointer (some ⟨r.bw, 0, none⟩)) :: (.int .i64 f) :: (.int .i64 s) :: (.int .i64 k) :: (.int .i64 out) :: u5 :: u6 :: u7 :: u8 :: (.pointer (some ⟨w.heap.size, 0, none⟩)) :: (.pointer (some ⟨w.heap.size + 1, 0, none⟩)) :: (.pointer (some ⟨w.heap.size + 1 + 1, 0, none⟩)) :: u12 :: u13 :: u14 :: u15 :: u16 :: u17 :: u18 :: u19 :: u20 :: u21 :: u22 :: u23 :: u24 :: u25 :: u26 :: u27 :: u28 :: u29 :: u30 :: u31 :: u32 :: u33 :: u34 :: u35 :: u36 :: u37 :: u38 :: u39 :: u40 :: u41 :: u42 :: u43 :: u44 :: u45 :: u46 :: u47 :: u48 :: u49 :: u50 :: u51 :: u52 :: u53 :: u54 :: u55 :: u56 :: u57 :: u58 :: u59 :: u60 :: u61 :: u62 :: u63 :: u64 :: u65 :: u66 :: u67 :: u68 :: u69 :: u70 :: u71 :: u72 :: u73 :: u74 :: u75 :: u76 :: u77 :: u78 :: []), defers := ds })
        (fun _ w' => msr w' (w.heap.size + 1 + 1)) ?_ ?_
      · (repeat apply Exists.intro)
        refine ⟨?_, rfl⟩
        exact ⟨_, HF.out⟩
      · intro _ wo hinv
        clear HF d0 d1 d2
        obtain ⟨ds, hinv⟩ := hinv
        obtain ⟨u5, hinv⟩ := hinv; obtain ⟨u6, hinv⟩ := hinv; obtain ⟨u7, hinv⟩ := hinv; obtain ⟨u8, hinv⟩ := hinv; obtain ⟨u12, hinv⟩ := hinv; obtain ⟨u13, hinv⟩ := hinv; obtain ⟨u14, hinv⟩ := hinv; obtain ⟨u15, hinv⟩ := hinv; obtain ⟨u16, hinv⟩ := hinv; obtain ⟨u17, hinv⟩ := hinv; obtain ⟨u18, hinv⟩ := hinv; obtain ⟨u19, hinv⟩ := hinv; obtain ⟨u20, hinv⟩ := hinv; obtain ⟨u21, hinv⟩ := hinv; obtain ⟨u22, hinv⟩ := hinv; obtain ⟨u23, hinv⟩ := hinv; obtain ⟨u24, hinv⟩ := hinv; obtain ⟨u25, hinv⟩ := hinv; obtain ⟨u26, hinv⟩ := hinv; obtain ⟨u27, hinv⟩ := hinv; obtain ⟨u28, hinv⟩ := hinv; obtain ⟨u29, hinv⟩ := hinv; obtain ⟨u30, hinv⟩ := hinv; obtain ⟨u31, hinv⟩ := hinv; obtain ⟨u32, hinv⟩ := hinv; obtain ⟨u33, hinv⟩ := hinv; obtain ⟨u34, hinv⟩ := hinv; obtain ⟨u35, hinv⟩ := hinv; obtain ⟨u36, hinv⟩ := hinv; obtain ⟨u37, hinv⟩ := hinv; obtain ⟨u38, hinv⟩ := hinv; obtain ⟨u39, hinv⟩ := hinv; obtain ⟨u40, hinv⟩ := hinv; obtain ⟨u41, hinv⟩ := hinv; obtain ⟨u42, hinv⟩ := hinv; obtain ⟨u43, hinv⟩ := hinv; obtain ⟨u44, hinv⟩ := hinv; obtain ⟨u45, hinv⟩ := hinv; obtain ⟨u46, hinv⟩ := hinv; obtain ⟨u47, hinv⟩ := hinv; obtain ⟨u48, hinv⟩ := hinv; obtain ⟨u49, hinv⟩ := hinv; obtain ⟨u50, hinv⟩ := hinv; obtain ⟨u51, hinv⟩ := hinv; obtain ⟨u52, hinv⟩ := hinv; obtain ⟨u53, hinv⟩ := hinv; obtain ⟨u54, hinv⟩ := hinv; obtain ⟨u55, hinv⟩ := hinv; obtain ⟨u56, hinv⟩ := hinv; obtain ⟨u57, hinv⟩ := hinv; obtain ⟨u58, hinv⟩ := hinv; obtain ⟨u59, hinv⟩ := hinv; obtain ⟨u60, hinv⟩ := hinv; obtain ⟨u61, hinv⟩ := hinv; obtain ⟨u62, hinv⟩ := hinv; obtain ⟨u63, hinv⟩ := hinv; obtain ⟨u64, hinv⟩ := hinv; obtain ⟨u65, hinv⟩ := hinv; obtain ⟨u66, hinv⟩ := hinv; obtain ⟨u67, hinv⟩ := hinv; obtain ⟨u68, hinv⟩ := hinv; obtain ⟨u69, hinv⟩ := hinv; obtain ⟨u70, hinv⟩ := hinv; obtain ⟨u71, hinv⟩ := hinv; obtain ⟨u72, hinv⟩ := hinv; obtain ⟨u73, hinv⟩ := hinv; obtain ⟨u74, hinv⟩ := hinv; obtain ⟨u75, hinv⟩ := hinv; obtain ⟨u76, hinv⟩ := hinv; obtain ⟨u77, hinv⟩ := hinv; obtain ⟨u78, hinv⟩ := hinv
        obtain ⟨⟨g0, hF⟩, ha⟩ := hinv
        subst ha
        have HF := Lib.hid hF
        have hmsr := msr_at hF.H
        have HMs := Lib.hid hmsr
        have c11 := Box.cell hF.H
        have t11 := hF.H.lt
        have B1 := (hF.rel HR.out).box
        have c1 := B1.cell; have t1 := B1.lt
        clear hF hmsr
        gi_upto_region 10 with fail
        refine named1 (p := Code.wpIn _ _ _ _ _ _) ?_
        intro W2 hb2 B13
        have HF2 := Lib.hid (HF.out.later hb2)
        have tb13 := B13.lt
        have HBb : Hid (w.heap.size + 1 + 1 < wo.heap.size) := t11
        clear c11 t11 B1 c1 t1 hb2
        refine wpIn_loop (fun a' w' => ∃ (ds : List Deferred) (u5 u6 u7 u8 u12 u14 u15 u16 u17 u18 u19 u20 u21 u22 u23 u24 u25 u26 u27 u28 u29 u30 u31 u32 u33 u34 u36 u37 u38 u39 u40 u41 u42 u43 u44 u45 u46 u47 u48 u49 u50 u51 u52 u53 u54 u55 u56 u57 u58 u59 u60 u61 u62 u63 u64 u65 u66 u67 u68 u69 u70 u71 u72 u73 u74 u75 u76 u77 u78 : Value), (∃ (a : Nat) (h : Nat → Int), a ≤ L.st.length ∧ u36 = .int .i64 a ∧ Fill r q L f s k out w ds h w' ∧ Pass (L.rel k out) g0 h a ∧ Box w' wo.heap.size (hrsc g0) 104) ∧
            a' = { tmps := List.toArray ((.pointer (some ⟨r.bw, 0, none⟩)) :: (.int .i64 f) :: (.int .i64 s) :: (.int .i64 k) :: (.int .i64 out) :: u5 :: u6 :: u7 :: u8 :: (.pointer (some ⟨w.heap.size, 0, none⟩)) :: (.pointer (some ⟨w.heap.size + 1, 0, none⟩)) :: (.pointer (some ⟨w.heap.size + 1 + 1, 0, none⟩)) :: u12 :: (.pointer (some ⟨wo.heap.size, 0, none⟩)) :: u14 :: u15 :: u16 :: u17 :: u18 :: u19 :: u20 :: u21 :: u22 :: u23 :: u24 :: u25 :: u26 :: u27 :: u28 :: u29 :: u30 :: u31 :: u32 :: u33 :: u34 :: (.int .i64 L.st.length) :: u36 :: u37 :: u38 :: u39 :: u40 :: u41 :: u42 :: u43 :: u44 :: u45 :: u46 :: u47 :: u48 :: u49 :: u50 :: u51 :: u52 :: u53 :: u54 :: u55 :: u56 :: u57 :: u58 :: u59 :: u60 :: u61 :: u62 :: u63 :: u64 :: u65 :: u66 :: u67 :: u68 :: u69 :: u70 :: u71 :: u72 :: u73 :: u74 :: u75 :: u76 :: u77 :: u78 :: []), defers := ds })
          (fun a' _ => L.st.length - (intOf (a'.tmps.getD 36 undef)).toNat) ?_ ?_
        · (repeat apply Exists.intro)
          refine ⟨?_, rfl⟩
          exact ⟨0, g0, Nat.zero_le _, rfl, HF2.out, Pass.zero _ _, B13⟩
        · intro _ wa hinv
          clear HF2 B13 tb13 W2
          obtain ⟨ds, hinv⟩ := hinv
          obtain ⟨u5, hinv⟩ := hinv; obtain ⟨u6, hinv⟩ := hinv; obtain ⟨u7, hinv⟩ := hinv; obtain ⟨u8, hinv⟩ := hinv; obtain ⟨u12, hinv⟩ := hinv; obtain ⟨u14, hinv⟩ := hinv; obtain ⟨u15, hinv⟩ := hinv; obtain ⟨u16, hinv⟩ := hinv; obtain ⟨u17, hinv⟩ := hinv; obtain ⟨u18, hinv⟩ := hinv; obtain ⟨u19, hinv⟩ := hinv; obtain ⟨u20, hinv⟩ := hinv; obtain ⟨u21, hinv⟩ := hinv; obtain ⟨u22, hinv⟩ := hinv; obtain ⟨u23, hinv⟩ := hinv; obtain ⟨u24, hinv⟩ := hinv; obtain ⟨u25, hinv⟩ := hinv; obtain ⟨u26, hinv⟩ := hinv; obtain ⟨u27, hinv⟩ := hinv; obtain ⟨u28, hinv⟩ := hinv; obtain ⟨u29, hinv⟩ := hinv; obtain ⟨u30, hinv⟩ := hinv; obtain ⟨u31, hinv⟩ := hinv; obtain ⟨u32, hinv⟩ := hinv; obtain ⟨u33, hinv⟩ := hinv; obtain ⟨u34, hinv⟩ := hinv; obtain ⟨u36, hinv⟩ := hinv; obtain ⟨u37, hinv⟩ := hinv; obtain ⟨u38, hinv⟩ := hinv; obtain ⟨u39, hinv⟩ := hinv; obtain ⟨u40, hinv⟩ := hinv; obtain ⟨u41, hinv⟩ := hinv; obtain ⟨u42, hinv⟩ := hinv; obtain ⟨u43, hinv⟩ := hinv; obtain ⟨u44, hinv⟩ := hinv; obtain ⟨u45, hinv⟩ := hinv; obtain ⟨u46, hinv⟩ := hinv; obtain ⟨u47, hinv⟩ := hinv; obtain ⟨u48, hinv⟩ := hinv; obtain ⟨u49, hinv⟩ := hinv; obtain ⟨u50, hinv⟩ := hinv; obtain ⟨u51, hinv⟩ := hinv; obtain ⟨u52, hinv⟩ := hinv; obtain ⟨u53, hinv⟩ := hinv; obtain ⟨u54, hinv⟩ := hinv; obtain ⟨u55, hinv⟩ := hinv; obtain ⟨u56, hinv⟩ := hinv; obtain ⟨u57, hinv⟩ := hinv; obtain ⟨u58, hinv⟩ := hinv; obtain ⟨u59, hinv⟩ := hinv; obtain ⟨u60, hinv⟩ := hinv; obtain ⟨u61, hinv⟩ := hinv; obtain ⟨u62, hinv⟩ := hinv; obtain ⟨u63, hinv⟩ := hinv; obtain ⟨u64, hinv⟩ := hinv; obtain ⟨u65, hinv⟩ := hinv; obtain ⟨u66, hinv⟩ := hinv; obtain ⟨u67, hinv⟩ := hinv; obtain ⟨u68, hinv⟩ := hinv; obtain ⟨u69, hinv⟩ := hinv; obtain ⟨u70, hinv⟩ := hinv; obtain ⟨u71, hinv⟩ := hinv; obtain ⟨u72, hinv⟩ := hinv; obtain ⟨u73, hinv⟩ := hinv; obtain ⟨u74, hinv⟩ := hinv; obtain ⟨u75, hinv⟩ := hinv; obtain ⟨u76, hinv⟩ := hinv; obtain ⟨u77, hinv⟩ := hinv; obtain ⟨u78, hinv⟩ := hinv
          obtain ⟨⟨a, h, ha', rfl, hF, hP, B13⟩, ha⟩ := hinv
          subst ha
          have HFa := Lib.hid hF
          have HP := Lib.hid hP
          have c11 := Box.cell hF.H
          have t11 := hF.H.lt
          have hIx : a < L.st.length → wa.cell? ⟨w.heap.size + 1 + 1, a, none⟩ = some (.int .i64 (h a)) := fun hl => hF.H.cell (by omega)
          clear hF hP
          by_cases hal : a < L.st.length
          · have r3 : (0 : Int) ≤ (a : Int) := by omega
            have r4 : (a : Int) < (L.st.length : Int) := by omega
            have r5 : (a : Int) < 6 := by omega
            have e11 := hIx hal
            clear hIx c11
            gi_upto_region 13 with fail
            obtain ⟨t0, ht0⟩ : ∃ t0 : Nat, (t0 : Int) = h a := ⟨(h a).toNat, by have := HFa.out.tb.ge a (by omega); omega⟩
            have ht0e : t0 ≤ L.sn.length + 1 := by
              have h1 := HFa.out.tb.hi a (by omega)
              rw [← ht0] at h1
              have h2 : (L.rel k out).e = L.sn.length := rfl
              omega
            have HT0 := Lib.hid ht0
            have HTle : Hid ((t0 : Int) ≤ g0 a) := by show _ ≤ _; rw [ht0]; exact HP.out.le a (by omega)
            rw [← ht0]
            clear ht0
            refine named1 (p := Code.wpIn _ _ _ _ _ _) ?_
            intro W3 hb3 B15
            have HF3 := Lib.hid (HFa.out.later hb3)
            have B13' := B13.later hb3
            have hlt15 : w.heap.size + 1 + 1 < wa.heap.size := t11
            clear e11 t11 B13 hb3
            refine wpIn_loop (fun a' w' => ∃ (ds : List Deferred) (u5 u6 u7 u8 u12 u15 u16 u17 u18 u19 u20 u21 u22 u23 u24 u25 u26 u27 u28 u29 u30 u31 u32 u33 u34 u37 u38 u39 u40 u41 u42 u43 u44 u45 u46 u47 u48 u49 u50 u51 u52 u53 u54 u55 u56 u57 u58 u59 u60 u61 u62 u63 u64 u65 u66 u67 u68 u69 u70 u71 u72 u73 u74 u75 u76 u77 u78 : Value), (∃ (h' : Nat → Int) (t b15 : Nat), u15 = .pointer (some ⟨b15, 0, none⟩) ∧ Fill r q L f s k out w ds h' w' ∧ Pass (L.rel k out) g0 h' a ∧ Box w' wo.heap.size (hrsc g0) 104 ∧ Box w' b15 #[.int .i64 t] 3 ∧ t0 ≤ t ∧ t ≤ L.sn.length + 1 ∧ Part (L.rel k out) h' a t0 t ∧ h' a ≤ t0 ∧ w.heap.size + 1 + 1 < b15) ∧
                a' = { tmps := List.toArray ((.pointer (some ⟨r.bw, 0, none⟩)) :: (.int .i64 f) :: (.int .i64 s) :: (.int .i64 k) :: (.int .i64 out) :: u5 :: u6 :: u7 :: u8 :: (.pointer (some ⟨w.heap.size, 0, none⟩)) :: (.pointer (some ⟨w.heap.size + 1, 0, none⟩)) :: (.pointer (some ⟨w.heap.size + 1 + 1, 0, none⟩)) :: u12 :: (.pointer (some ⟨wo.heap.size, 0, none⟩)) :: (.int .i64 a) :: u15 :: u16 :: u17 :: u18 :: u19 :: u20 :: u21 :: u22 :: u23 :: u24 :: u25 :: u26 :: u27 :: u28 :: u29 :: u30 :: u31 :: u32 :: u33 :: u34 :: (.int .i64 L.st.length) :: (.int .i64 a) :: u37 :: u38 :: u39 :: u40 :: u41 :: u42 :: u43 :: u44 :: u45 :: u46 :: u47 :: u48 :: u49 :: u50 :: u51 :: u52 :: u53 :: u54 :: u55 :: u56 :: u57 :: u58 :: u59 :: u60 :: u61 :: u62 :: u63 :: u64 :: u65 :: u66 :: u67 :: u68 :: u69 :: u70 :: u71 :: u72 :: u73 :: u74 :: u75 :: u76 :: u77 :: u78 :: []), defers := ds })
              (fun a' w' => L.sn.length + 2 - ptrNum (a'.tmps.getD 15 undef) w') ?_ ?_
            · (repeat apply Exists.intro)
              refine ⟨?_, rfl⟩
              exact ⟨h, t0, wa.heap.size, rfl, HF3.out, HP.out, B13', B15, Nat.le_refl _, ht0e, Part.zero _ _ _ _, by rw [HT0.out]; exact Int.le_refl _, hlt15⟩
            · intro _ wh hinv
              clear HF3 B13' B15 W3 HFa HP
              obtain ⟨ds, hinv⟩ := hinv
              obtain ⟨u5, hinv⟩ := hinv; obtain ⟨u6, hinv⟩ := hinv; obtain ⟨u7, hinv⟩ := hinv; obtain ⟨u8, hinv⟩ := hinv; obtain ⟨u12, hinv⟩ := hinv; obtain ⟨u15, hinv⟩ := hinv; obtain ⟨u16, hinv⟩ := hinv; obtain ⟨u17, hinv⟩ := hinv; obtain ⟨u18, hinv⟩ := hinv; obtain ⟨u19, hinv⟩ := hinv; obtain ⟨u20, hinv⟩ := hinv; obtain ⟨u21, hinv⟩ := hinv; obtain ⟨u22, hinv⟩ := hinv; obtain ⟨u23, hinv⟩ := hinv; obtain ⟨u24, hinv⟩ := hinv; obtain ⟨u25, hinv⟩ := hinv; obtain ⟨u26, hinv⟩ := hinv; obtain ⟨u27, hinv⟩ := hinv; obtain ⟨u28, hinv⟩ := hinv; obtain ⟨u29, hinv⟩ := hinv; obtain ⟨u30, hinv⟩ := hinv; obtain ⟨u31, hinv⟩ := hinv; obtain ⟨u32, hinv⟩ := hinv; obtain ⟨u33, hinv⟩ := hinv; obtain ⟨u34, hinv⟩ := hinv; obtain ⟨u37, hinv⟩ := hinv; obtain ⟨u38, hinv⟩ := hinv; obtain ⟨u39, hinv⟩ := hinv; obtain ⟨u40, hinv⟩ := hinv; obtain ⟨u41, hinv⟩ := hinv; obtain ⟨u42, hinv⟩ := hinv; obtain ⟨u43, hinv⟩ := hinv; obtain ⟨u44, hinv⟩ := hinv; obtain ⟨u45, hinv⟩ := hinv; obtain ⟨u46, hinv⟩ := hinv; obtain ⟨u47, hinv⟩ := hinv; obtain ⟨u48, hinv⟩ := hinv; obtain ⟨u49, hinv⟩ := hinv; obtain ⟨u50, hinv⟩ := hinv; obtain ⟨u51, hinv⟩ := hinv; obtain ⟨u52, hinv⟩ := hinv; obtain ⟨u53, hinv⟩ := hinv; obtain ⟨u54, hinv⟩ := hinv; obtain ⟨u55, hinv⟩ := hinv; obtain ⟨u56, hinv⟩ := hinv; obtain ⟨u57, hinv⟩ := hinv; obtain ⟨u58, hinv⟩ := hinv; obtain ⟨u59, hinv⟩ := hinv; obtain ⟨u60, hinv⟩ := hinv; obtain ⟨u61, hinv⟩ := hinv; obtain ⟨u62, hinv⟩ := hinv; obtain ⟨u63, hinv⟩ := hinv; obtain ⟨u64, hinv⟩ := hinv; obtain ⟨u65, hinv⟩ := hinv; obtain ⟨u66, hinv⟩ := hinv; obtain ⟨u67, hinv⟩ := hinv; obtain ⟨u68, hinv⟩ := hinv; obtain ⟨u69, hinv⟩ := hinv; obtain ⟨u70, hinv⟩ := hinv; obtain ⟨u71, hinv⟩ := hinv; obtain ⟨u72, hinv⟩ := hinv; obtain ⟨u73, hinv⟩ := hinv; obtain ⟨u74, hinv⟩ := hinv; obtain ⟨u75, hinv⟩ := hinv; obtain ⟨u76, hinv⟩ := hinv; obtain ⟨u77, hinv⟩ := hinv; obtain ⟨u78, hinv⟩ := hinv
              obtain ⟨⟨h', t, b15, rfl, hF, hP, B13, B15, htt, hte, hPt, hle, hb15⟩, ha⟩ := hinv
              subst ha
              have HFh := Lib.hid hF
              have HP := Lib.hid hP
              have HPt := Lib.hid hPt
              have HMs2 := Lib.hid (ptrNum_at B15)
              have B9 := hF.B9
              have hbx := (hF.rel HR.out).box
              have HEn : Hid (∀ W, Below wh.heap.size wh W → Calls Tryz.prog 20 #[.pointer (some ⟨r.bw, 0, none⟩)] W (Ret (.int .i64 L.sn.length) W)) := fun W hb => end_any W (hbx.later hb)
              have hsz := hF.T.size
              clear hF hP hPt hbx
              have c9 := B9.cell; have t9 := B9.lt; have c15 := B15.cell; have t15 := B15.lt
              by_cases hlt' : t < L.sn.length
              · have r6 : (0 : Int) ≤ (t : Int) := by omega
                have r7 : (t : Int) < (L.sn.length : Int) := by omega
                by_cases hao : (a : Int) = out
                · have hne : ((a : Int) != out) = false := by simp [hao]
                  gi_upto_region 13 with fail
                  refine Fat.wpIn_region_tail 9 (by kernel_rfl) (by kernel_rfl) ?_
                  simp only [List.take_succ_cons, List.drop_succ_cons, List.take_nil, List.drop_nil]
                  repeat (go_big_quiet_step (exact Calls.regrown_of (HEn.out _ (below_regrown _ _ _))))
                  refine wpQuiet_nil ?_
                  intro wl hbl
                  have HFl := Lib.hid (HFh.out.later hbl)
                  have B13l := B13.later hbl
                  have HPs := Lib.hid (HP.out.succ (HTle.out) HPt.out (.inl hao))
                  clear c9 t9 c15 t15 B9 B13 B15 hbl HFh HP HPt
                  gi_wp2
                  go_roundw
                  case rel =>
                    (repeat apply Exists.intro)
                    refine ⟨?_, rfl⟩
                    exact ⟨a + 1, h', by omega, by go_num, HFl.out, HPs.out, B13l⟩
                  case measure => simp [intOf]; omega
                · have hne : ((a : Int) != out) = true := by simp [hao]
                  gi_upto_region 13 with fail
                  refine Fat.wpIn_region_tail 9 (by kernel_rfl) (by kernel_rfl) ?_
                  simp only [List.take_succ_cons, List.drop_succ_cons, List.take_nil, List.drop_nil]
                  repeat (go_big_quiet_step (exact Calls.regrown_of (HEn.out _ (below_regrown _ _ _))))
                  refine wpQuiet_nil ?_
                  intro wl hbl
                  have HFl := Lib.hid (HFh.out.later hbl)
                  replace B13 := B13.later hbl
                  replace B15 := B15.later hbl
                  have hszl := hbl.size
                  clear c9 t9 B9 c15 t15 HFh hbl HEn
                  have c15 := B15.cell; have t15 := B15.lt
                  gi_wp2
                  refine ⟨trivial, ?_⟩
                  refine (callsIn_wide.2 (from_any r q L k a t wl (HFl.out.rel HR.out) HC.out hal hk hlt')).mono ?_
                  rintro e w4 ⟨rfl, hT4, hR4⟩
                  have HF4 := Lib.hid (HFl.out.turned hT4 hR4.kn)
                  replace B13 := hT4.box0 B13
                  replace B15 := hT4.box0 B15
                  have hsz4 := hT4.size
                  clear HFl hT4 hR4 c15 t15
                  gi_wp2
                  refine ⟨trivial, ?_⟩
                  refine (callsIn_wide.2 (each_mk _ w4)).mono ?_
                  rintro e w6 ⟨b1, rfl, hb6, hb1, B1⟩
                  have HF6 := Lib.hid (HF4.out.later hb6)
                  replace B13 := B13.later hb6
                  replace B15 := B15.later hb6
                  have k1 := B1.lt
                  have t13 := B13.lt
                  have t15 := B15.lt
                  have tH := HF6.out.H.lt
                  have HB13 := Lib.hid B13
                  have HB15 := Lib.hid B15
                  have HB9 := Lib.hid HF6.out.B9
                  have tH4 := HF4.out.H.lt
                  have hn1 : b1 ≠ w.heap.size + 1 + 1 := by omega
                  have HSq := Lib.hid (each_stops 4 b1 (fun j => L.can a j k t) L.st.length w6 B1 n6)
                  have HNx : Hid (NextH L f s k out w6 (w.heap.size + 1 + 1) h' t [] w6) := ⟨World.grownBy.refl _ _, h', HF6.out.H, HF6.out.tb, fun _ _ => Int.le_refl _, by simp⟩
                  clear HF4 hb6 B13 B15 B1
                  gi_wp2
                  refine wpIn_rangeFunc_ownG (α := Mem (fun j => L.can a j k t) L.st.length) rfl (by omega) (gf := 71) (lb := #[.pointer (some ⟨b1, 0, none⟩)]) rfl trivial enters_each HSq.out (fun h k => k.trans h) (keep_one k1) (Below.refl _ _) (fun _ => rfl)
                    (fun pre W => NextH L f s k out w6 (w.heap.size + 1 + 1) h' t (pre.map (·.1)) W) (fun _ _ _ => False) (nextH_own tH) (fun _ _ _ _ _ h _ _ => h) HNx.out ?a1 ?assign ?body ?done ?stop
                  case assign =>
                    intro l z W K hK
                    gi_wp2
                    exact hK
                  case body =>
                    rintro l pre z W ⟨hg, h2, hH, hTb, hl2, hd⟩ hlen
                    obtain ⟨zn, hzn⟩ : ∃ zn : Nat, zn = z.1 := ⟨_, rfl⟩
                    obtain ⟨hz1, hz2⟩ := z.2
                    have B9 := grown_box hg HB9.out (by omega)
                    have B15 := grown_box hg HB15.out (by omega)
                    rw [← hzn] at hz1 hz2 ⊢
                    have HZn := Lib.hid hzn
                    have HZ2 := Lib.hid hz2
                    have HG := Lib.hid hg
                    have HH := Lib.hid hH
                    have HTb := Lib.hid hTb
                    have HL2 := Lib.hid hl2
                    have HD := Lib.hid hd
                    clear hzn hz2 hg hH hTb hl2 hd
                    have c9 := B9.cell; have t9 := B9.lt; have c15 := B15.cell; have t15 := B15.lt
                    by_cases hzo : (zn : Int) = out
                    · have hne2 : ((zn : Int) != out) = false := by simp [hzo]
                      gi_wp2
                      refine ⟨(KeepsOthers.refl W).from _, rfl, HG.out, h2, HH.out, HTb.out, HL2.out, fun y hy hyo => ?_⟩
                      rcases mem_snoc hy with hy | hy
                      · exact HD.out y hy hyo
                      · rw [hy, ← HZn.out] at hyo; exact absurd hzo hyo
                    · have hne2 : ((zn : Int) != out) = true := by simp [hzo]
                      gi_upto_region 18 with fail
                      have hz6 : zn < 6 := by omega
                      have r8 : (0 : Int) ≤ (zn : Int) := by omega
                      have r9 : (zn : Int) < 6 := by omega
                      have eH := HH.out.cell hz6
                      have fH := Box.frozen HH.out zn
                      have tH2 := HH.out.lt
                      refine Fat.R.wpIn_region0 9 [6, 7, 8] (fun i => if i = 6 then twoSpec 3 (.int .i64 (h2 zn)) (.int .i64 ((t : Int) + 1)) else if i = 7 then isSpec (.int .i64 (min (h2 zn) ((t : Int) + 1))) else isSpec (.pointer (some ⟨w.heap.size + 1 + 1, zn, none⟩))) (fun i => by (repeat' split) <;> first | exact twoSpec_lasting _ _ _ | exact isSpec_lasting _) (by kernel_rfl) (by kernel_rfl) (by kernel_rfl) ?_
                      simp only [List.take_succ_cons, List.take_zero, Fat.pick, List.contains_cons, List.contains_nil, Nat.reduceAdd, Nat.reduceBEq]
                      repeat (first | simp only [Bool.or_false] | simp only [Bool.or_true] | simp only [Bool.true_or] | simp only [Bool.false_eq_true] | simp only [if_true] | simp only [if_false])
                      repeat (go_big_quiet_step (fail))
                      refine wpQuiet_nil ?_
                      refine ⟨?_, ?_, ?_⟩
                      · intro i o hi hown ho vals lo hi' W hW hdep
                        simp only [List.contains_cons, List.contains_nil, Bool.or_false] at hi
                        (try simp only [Bool.or_eq_true] at hi)
                        simp only [beq_iff_eq] at hi
                        rcases hi with rfl | rfl | rfl
                        all_goals first
                          | exact absurd hown (by decide)
                          | (simp only [List.getElem?_cons_succ, List.getElem?_cons_zero, Option.some.injEq] at ho; subst ho; refine .inl ⟨rfl, ?_⟩; simp only [Fat.putN, Fat.dstOf, Act.put, List.getElem?_toArray, List.getElem?_cons_succ, List.getElem?_cons_zero, Option.bind_some, List.setIfInBounds_toArray, List.set_cons_succ, List.set_cons_zero])
                        · go_simp
                          exact twoSpec_new _ _ _
                        · obtain ⟨_, _, _, (hv : vals 6 = _), _, hB⟩ := hdep 6 rfl (by kernel_rfl)
                          rw [hv]
                          go_simp
                          exact (smallest_any _ _ _ W hB).mono fun e w'' ⟨he, h⟩ => ⟨_, he, h, rfl⟩
                        · obtain ⟨_, _, _, (hv : vals 7 = _)⟩ := hdep 7 rfl (by kernel_rfl)
                          rw [hv]
                          go_simp
                          exact ⟨Below.refl _ _, rfl⟩
                      · intro i o hi hown ho vals lo hi' W hW hdep
                        simp only [List.contains_cons, List.contains_nil, Bool.or_false] at hi
                        (try simp only [Bool.or_eq_true] at hi)
                        simp only [beq_iff_eq] at hi
                        rcases hi with rfl | rfl | rfl
                        all_goals first
                          | exact absurd (by decide) hown
                          | (simp only [List.getElem?_cons_succ, List.getElem?_cons_zero, Option.some.injEq] at ho; subst ho; refine ⟨rfl, ?_⟩; simp only [Fat.putN, Fat.dstOf, Act.put, List.getElem?_toArray, List.getElem?_cons_succ, List.getElem?_cons_zero, Option.bind_some, List.setIfInBounds_toArray, List.set_cons_succ, List.set_cons_zero]; (try simp only [Option.bind_none]))
                      · intro vals lo hi' w9 hb9 hphi hdis htied
                        obtain ⟨_, _, _, (q7 : vals 7 = _)⟩ := hphi 7 rfl
                        obtain ⟨_, _, _, (q8 : vals 8 = _)⟩ := hphi 8 rfl
                        simp only [Fat.putN, Fat.dstOf, Act.put, List.getElem?_toArray, List.getElem?_cons_succ, List.getElem?_cons_zero, Option.bind_some, List.setIfInBounds_toArray, List.set_cons_succ, List.set_cons_zero, List.drop_succ_cons, List.drop_zero]
                        rw [q7, q8]
                        clear q7 q8 hphi hdis htied c9 t9 c15 t15 eH fH tH2
                        generalize vals 6 = x6
                        have hH9 := HH.out.later hb9
                        have e9 := hH9.cell hz6
                        have f9 := Box.frozen hH9 zn
                        have t9 := hH9.lt
                        have hg9 := grown_on HG.out (Below.grown hb9 none) (fun r e => by cases e)
                        have hk9 : KeepsOthers W w9 := ⟨hb9.size, fun k _ hk _ => (hb9.block k (Array.getElem?_eq_some_iff.1 hk).1).trans hk⟩
                        have hbut := setCell_but w9 (w.heap.size + 1 + 1) zn (.int .i64 (min (h2 zn) ((t : Int) + 1)))
                        have HS9 := Lib.hid (hH9.upd hz6 ((t : Int) + 1))
                        have HK9 := Lib.hid ((hk9.trans (KeepsOthers.setCell w9 ⟨w.heap.size + 1 + 1, zn, none⟩ (.int .i64 (min (h2 zn) ((t : Int) + 1))))).from w6.heap.size)
                        have HG9 := Lib.hid (grown_but hg9 hbut)
                        have HT9 := Lib.hid (HTb.out.upd (r := L.rel k out) hs hal hz1 hao hzo (Int.le_trans (HL2.out a (by omega)) (Int.le_trans hle (by omega))) hlt' HZ2.out)
                        have HB1 : Hid ((w9.setCell ⟨w.heap.size + 1 + 1, zn, none⟩ (.int .i64 (min (h2 zn) ((t : Int) + 1)))).heap[b1]? = W.heap[b1]?) := (hbut.block b1 hn1).trans (hb9.block b1 (Nat.lt_of_lt_of_le k1 HG.out.size))
                        clear hH9 hg9 hk9 hbut hb9
                        gi_wp2
                        refine ⟨HK9.out, HB1.out, HG9.out, _, HS9.out, HT9.out, fun x hx => Int.le_trans (upd_le _ _ _ _) (HL2.out x hx), fun y hy hyo => ?_⟩
                        rcases mem_snoc hy with hy | hy
                        · exact Int.le_trans (upd_le _ _ _ _) (HD.out y hy hyo)
                        · rw [hy, ← HZn.out]; exact upd_at _ _ _
                  case done =>
                    rintro D ys W1 hD hys ⟨hg, h2, hH, hTb, hl2, hd⟩ hK
                    have HFd : Hid (Fill r q L f s k out w (markOf D :: ds) h2 W1) := by
                      have hF6 := HF6.out
                      refine ⟨hF6.T.grown hg (fun r e => by cases e; omega), hF6.K.same (fun kk es c _ hm => ?_), grown_box hg hF6.B9 (by omega), grown_box hg hF6.B10 (by omega), hH, ?_, hTb⟩
                      · refine (hg.block kk (Array.getElem?_eq_some_iff.1 hm).1 fun e => ?_).trans hm
                        cases e
                        rw [show w6.heap[w.heap.size + 1 + 1]? = _ from hF6.H] at hm; cases hm
                      · have hm1 : Marks w.heap.size ds W1 := hF6.M.keep fun E hE => hg.block E (Array.getElem?_eq_some_iff.1 hE).1 fun e => by
                          injection e with e
                          rw [e, show w6.heap[w.heap.size + 1 + 1]? = _ from hF6.H] at hE; cases hE
                        refine hm1.cons (by omega) hK fun d hd => ?_
                        obtain ⟨Ds, h1, _, h3⟩ := hF6.M
                        rw [h1] at hd
                        obtain ⟨E, hE, rfl⟩ := List.mem_map.1 hd
                        intro e
                        have h4 := (Array.getElem?_eq_some_iff.1 (h3 E hE).2).1
                        have := markOf_inj e
                        omega
                    have HP2 := Lib.hid (HP.out.less n6 hl2)
                    have HPt2 : Hid (Part (L.rel k out) h2 a t0 ((t + 1 : Nat) : Int)) := (HPt.out.less n6 hl2).succ fun b hb hbo hcb => hd b (by rw [hys]; exact selN_mem.2 ⟨hb, hcb⟩) hbo
                    have HLe2 : Hid (h2 a ≤ t0) := Int.le_trans (hl2 a (by omega)) hle
                    have hbb := HBb.out
                    have B13 := grown_box hg HB13.out (by omega)
                    have B15 := grown_box hg HB15.out (by omega)
                    have hg2 := hg.size
                    have c15 := B15.cell; have t15 := B15.lt
                    clear hg hH hTb hl2 hd hys hK
                    gi_upto_region 14 with fail
                    refine named1 (p := Code.wpIn _ _ _ _ _ _) ?_
                    intro W5 hb5 B16
                    have c16 := B16.cell
                    have t16 := B16.lt
                    have f16 := B16.frozen
                    have HF5 := Lib.hid (HFd.out.later hb5)
                    have HB13 := Lib.hid (B13.later hb5)
                    have hbut := setCell_but W5 W1.heap.size 0 (.int .i64 ((t : Int) + 1))
                    have HB16 := Lib.hid (setCell_box B16 0 (.int .i64 ((t : Int) + 1)))
                    have HF7 := Lib.hid (HF5.out.but' hbut B16 (by omega))
                    have HB17 := Lib.hid (hbut.box HB13.out (by omega))
                    clear c15 t15 B13 B15 hb5 hbut HF5
                    gi_wp2
                    go_roundw
                    case rel =>
                      (repeat apply Exists.intro)
                      refine ⟨?_, rfl⟩
                      exact ⟨h2, t + 1, W1.heap.size, rfl, HF7.out, HP2.out, HB17.out, HB16.out, by omega, by omega, HPt2.out, HLe2.out, by omega⟩
                    case measure =>
                      have h1 := ptrNum_at HB16.out
                      have h2 := HMs2.out
                      show L.sn.length + 2 - ptrNum (.pointer (some ⟨W1.heap.size, 0, none⟩)) _ < L.sn.length + 2 - ptrNum (.pointer (some ⟨b15, 0, none⟩)) _
                      rw [h1, h2]
                      omega
                  case stop =>
                    rintro D c pre W1 hD _ h
                    exact h.elim
              · have hd : decide ((t : Int) < (L.sn.length : Int)) = false := by simp; omega
                gi_upto_region 13 with fail
                refine Fat.wpIn_region_tail 9 (by kernel_rfl) (by kernel_rfl) ?_
                simp only [List.take_succ_cons, List.drop_succ_cons, List.take_nil, List.drop_nil]
                repeat (go_big_quiet_step (exact Calls.regrown_of (HEn.out _ (below_regrown _ _ _))))
                refine wpQuiet_nil ?_
                intro wl hbl
                have HFl := Lib.hid (HFh.out.later hbl)
                have B13l := B13.later hbl
                have HPs := Lib.hid (HP.out.succ (HTle.out) HPt.out (.inr (by show (L.sn.length : Int) ≤ t; omega)))
                clear c9 t9 c15 t15 B9 B13 B15 hbl HFh HP HPt
                gi_wp2
                go_roundw
                case rel =>
                  (repeat apply Exists.intro)
                  refine ⟨?_, rfl⟩
                  exact ⟨a + 1, h', by omega, by go_num, HFl.out, HPs.out, B13l⟩
                case measure => simp [intOf]; omega
          · obtain rfl : a = L.st.length := by omega
            have B10 := HFa.out.B10
            have HHa := Lib.hid HFa.out.H
            have HMs3 := Lib.hid (msr_at HFa.out.H)
            have heq := fun w => hours_equal w h g0
            simp only [hrsc] at heq
            clear hIx
            have c13 := B13.cell; have t13 := B13.lt; have c10 := B10.cell; have t10 := B10.lt
            have f10 := B10.frozen
            cases hsm : same6 h g0 with
            | true =>
              have HSm := Lib.hid (same6_iff.1 hsm)
              rw [hsm] at heq
              clear hsm
              have hrel : (L.rel k out).e = L.sn.length := rfl
              have hV := hrs_congr (pass_end HFa.out.tb HP.out HSm.out n6 hf (by rw [hrel]; exact hs))
              have HV : Hid (Value.agg (hrsc h) = .agg (hrsc (L.tab f s k out))) := by show _ = _; rw [hV]; rfl
              have hset := setCells_box (cells := hrsc h) B10 rfl
              have HSet := Lib.hid hset
              clear hV hset
              gi_wp2
              change bodyPostM _ _ _ _ _ _ _ (wa.setCells (w.heap.size + 1) 0 (hrsc h).toList)
              obtain ⟨hSB, hSBut⟩ := HSet.out
              generalize wa.setCells (w.heap.size + 1) 0 (hrsc h).toList = Wf at hSB hSBut ⊢
              have hF := HFa.out
              have hMf : Marks w.heap.size ds Wf := hF.M.but B10 hSBut
              have hTf : Turn r.ex none w Wf := hF.T.but hSBut (.inl (by omega))
              have hKf : KnAt Wf r L := hF.K.but B10 hSBut
              refine marks_leave hMf (fun W' hb hk => ?_) hTf.size
              have hB' : Box W' (w.heap.size + 1) (hrsc h) 104 := marks_turn hk hSB
              have hT' : Turn r.ex none w W' := hTf.out hb
              have hK' : KnAt W' r L := hKf.same fun kk es c _ hm => (hk kk (by rw [hm]; exact fun e => by injection e with e; cases e)).trans hm
              refine ⟨_, results_cell_row rfl _ _ (w.heap.size + 1) 104 (hrsc h) (0, 0) _ rfl hB' Tryz.underlying104 rfl (by kernel_rfl), ?_, hT', HR.out.turn hT' hK'⟩
              rw [HV.out]
            | false =>
              have HSm : Hid (¬ ∀ x, x < 6 → h x = g0 x) := fun hx => by rw [same6_iff.2 hx] at hsm; cases hsm
              rw [hsm] at heq
              clear hsm
              gi_wp2
              go_roundw
              case rel =>
                (repeat apply Exists.intro)
                refine ⟨?_, rfl⟩
                exact ⟨h, HFa.out⟩
              case measure =>
                rw [HMs3.out, HMs.out]
                exact sum6_less HP.out.le HFa.out.tb.ge HSm.out
end Go.Proofs.YtingfmdbihbamaaGreat
