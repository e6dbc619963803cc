/- The arguments of the statements: a land that came in, opened; what came in reads as it read. -/
import Derived.Test.YtingfmdbihbamaaGreatWC
import Derived.Deep.Slices
import Derived.Deep.Fields
import Derived.ChangeSame
import Derived.Carry
import Derived.ProofKit
open Go.RowKit Go.ChangeShapes Go.WideShapes Go.ChangeAt Go.Deep
namespace Go.Proofs.YtingfmdbihbamaaGreat
open Go.Hill

instance : Inhabited Stn := ⟨⟨0, 0, 0, 0⟩⟩
instance : Inhabited Wl := ⟨⟨0, 0, 0, 0, 0, 0⟩⟩
instance : Inhabited Cd := ⟨⟨default, 0, 0⟩⟩
instance : Inhabited Sn := ⟨⟨0, 0, 0⟩⟩
instance : Inhabited CV := ⟨⟨none, 0, []⟩⟩

section
variable {H : Type} {enc : TypeId × Value → H} {w : World} {base : Nat} {spare : Nat → Bool} {held : Bool}

/-- A slice that came in, its elements told. -/
theorem row_of {α : Type} [Inhabited α] {t E : TypeId} {size : Nat} {f : α → List Value} {Q : α → Prop} {fuel : Nat} {cs : List Value} {x : DataW H × List MemPlace} (ht : Tryz.prog.underlying t = some (.slice E)) (hC : Tryz.prog.cellsOf E = size) (h0 : 0 < size)
    (hE : ∀ n cs x, DataW.trod enc Tryz.prog w base spare held n E cs = some x → ∃ y : α, cs = f y ∧ Q y) (h : DataW.trod enc Tryz.prog w base spare held fuel t cs = some x) :
    ∃ (l : List α) (a : Option Addr) (c : Nat), cs = [.slice a l.length c] ∧ l.length ≤ c ∧ c ≤ maxLen ∧ RowAt w a size (l.map f) ∧ ∀ y ∈ l, Q y := by
  rcases open_slice ht h with ⟨rfl, _⟩ | ⟨a, len, cap, m, n, D, Pl, rfl, hb, hl, hm, hmm, rfl, hx⟩
  · exact ⟨[], none, 0, rfl, Nat.le_refl _, Nat.zero_le _, .inl rfl, by simp⟩
  · have hlm : len ≤ m := by rw [hmm]; split <;> omega
    rw [hC] at hx
    obtain ⟨Y, hY⟩ := choose_lt (α := α) (n := len) (p := fun i y => w.cells? base (a.add (i * size)) size = some (f y) ∧ Q y) (fun i hi => by
      obtain ⟨cs', h1, h2⟩ := hx i (by omega)
      obtain ⟨y, rfl, hq⟩ := hE _ _ _ h2
      exact ⟨y, h1, hq⟩)
    refine ⟨(List.range len).map Y, some a, cap, by simp, by simpa using hl, hm, ?_, fun y hy => ?_⟩
    · by_cases hz : len = 0
      · subst hz; exact .inl rfl
      · obtain ⟨b, o, spot⟩ := a
        have hcell : ∀ i, i < len → ∀ j, j < size → w.cell? (Addr.add ⟨b, o, spot⟩ (i * size + j)) = (f (Y i))[j]? := fun i hi j hj => by
          have := (World.cells?_some (hY i hi).1).2.2 j hj
          rw [← this, add_add]
        have hlen : ∀ i, i < len → (f (Y i)).length = size := fun i hi => (World.cells?_some (hY i hi).1).2.1
        have h00 := hcell 0 (by omega) 0 h0
        have hspot : spot = none := by
          have hs : (f (Y 0))[0]? = some ((f (Y 0))[0]'(by rw [hlen 0 (by omega)]; exact h0)) := List.getElem?_eq_getElem _
          rw [hs] at h00
          simpa [Addr.add] using World.cell?_spot h00
        subst hspot
        refine .inr ⟨b, o, rfl, fun i x hx j v hv => ?_⟩
        rw [List.getElem?_map, List.getElem?_map] at hx
        by_cases hi : i < len
        · rw [List.getElem?_range hi] at hx
          simp only [Option.map_some, Option.some.injEq] at hx
          subst hx
          have hj : j < size := by rw [← hlen i hi]; exact (List.getElem?_eq_some_iff.1 hv).1
          have e : (⟨b, o + i * size + j, none⟩ : Addr) = Addr.add ⟨b, o, none⟩ (i * size + j) := by
            unfold Addr.add
            by_cases hij : i * size + j = 0
            · rw [if_pos hij, Nat.add_assoc, hij, Nat.add_zero]
            · rw [if_neg hij, Nat.add_assoc]
          rw [e, hcell i hi j hj]
          exact hv
        · rw [List.getElem?_eq_none (by simpa using hi)] at hx; cases hx
    · simp only [List.mem_map, List.mem_range] at hy
      obtain ⟨i, hi, rfl⟩ := hy
      exact (hY i hi).2

theorem len2 {α : Type} {l : List α} (h : l.length = 2) : ∃ a b, l = [a, b] := by
  match l, h with
  | [a, b], _ => exact ⟨a, b, rfl⟩
theorem len3 {α : Type} {l : List α} (h : l.length = 3) : ∃ a b c, l = [a, b, c] := by
  match l, h with
  | [a, b, c], _ => exact ⟨a, b, c, rfl⟩
theorem len4 {α : Type} {l : List α} (h : l.length = 4) : ∃ a b c d, l = [a, b, c, d] := by
  match l, h with
  | [a, b, c, d], _ => exact ⟨a, b, c, d, rfl⟩
theorem len6 {α : Type} {l : List α} (h : l.length = 6) : ∃ a b c d e f, l = [a, b, c, d, e, f] := by
  match l, h with
  | [a, b, c, d, e, f], _ => exact ⟨a, b, c, d, e, f, rfl⟩
theorem len8 {α : Type} {l : List α} (h : l.length = 8) : ∃ a b c d e f g i, l = [a, b, c, d, e, f, g, i] := by
  match l, h with
  | [a, b, c, d, e, f, g, i], _ => exact ⟨a, b, c, d, e, f, g, i, rfl⟩
theorem int_of {n : Nat} {v : Value} {x : DataW H × List MemPlace} (h : DataW.trod enc Tryz.prog w base spare held n 3 [v] = some x) : ∃ z, v = .int .i64 z := by
  obtain ⟨z, hz, _⟩ := DataW.trod_int Tryz.underlying3 h
  exact ⟨z, by simpa using hz⟩

theorem three_of {t : TypeId} {f0 f1 f2 : Field} (hs : Tryz.prog.underlying t = some (.struct #[f0, f1, f2])) (hC : Tryz.prog.cellsOf t = 3) (hf : (f0.type == 3 && f1.type == 3 && f2.type == 3 && f0.offset == 0 && f1.offset == 1 && f2.offset == 2) = true) (h1 : Tryz.prog.cellsOf 3 = 1)
    {n : Nat} {cs : List Value} {x : DataW H × List MemPlace} (h : DataW.trod enc Tryz.prog w base spare held n t cs = some x) : ∃ a b c, cs = [.int .i64 a, .int .i64 b, .int .i64 c] := by
  simp only [Bool.and_eq_true, beq_iff_eq] at hf
  obtain ⟨⟨⟨⟨⟨t0, t1⟩, t2⟩, o0⟩, o1⟩, o2⟩ := hf
  obtain ⟨xs, m, _, _, hl, hxl, hg⟩ := DataW.trod_struct hs h
  rw [hC] at hl
  obtain ⟨c0, c1, c2, rfl⟩ := len3 hl
  obtain ⟨y0, y1, y2, rfl⟩ := len3 (show xs.length = 3 from hxl)
  obtain ⟨a, rfl⟩ := int_of (by simpa [o0, t0, h1] using hg 0 f0 rfl)
  obtain ⟨b, rfl⟩ := int_of (by simpa [o1, t1, h1] using hg 1 f1 rfl)
  obtain ⟨c, rfl⟩ := int_of (by simpa [o2, t2, h1] using hg 2 f2 rfl)
  exact ⟨a, b, c, rfl⟩
theorem sn_of {n : Nat} {cs : List Value} {x : DataW H × List MemPlace} (h : DataW.trod enc Tryz.prog w base spare held n 85 cs = some x) : ∃ y : Sn, cs = y.vs ∧ True := by
  obtain ⟨a, b, c, rfl⟩ := three_of Tryz.underlying85 (by kernel_rfl) (by kernel_rfl) (by kernel_rfl) h
  exact ⟨⟨a, b, c⟩, rfl, trivial⟩
theorem st_of {n : Nat} {cs : List Value} {x : DataW H × List MemPlace} (h : DataW.trod enc Tryz.prog w base spare held n 77 cs = some x) : ∃ y : Stn, cs = y.vs ∧ True := by
  have h1 : Tryz.prog.cellsOf 3 = 1 := by kernel_rfl
  have hC : Tryz.prog.cellsOf 77 = 4 := by kernel_rfl
  obtain ⟨xs, m, _, _, hl, hxl, hg⟩ := DataW.trod_struct Tryz.underlying77 h
  rw [hC] at hl
  obtain ⟨c0, c1, c2, c3, rfl⟩ := len4 hl
  obtain ⟨y0, y1, y2, y3, rfl⟩ := len4 (show xs.length = 4 from hxl)
  obtain ⟨a, rfl⟩ := int_of (by simpa [h1] using hg 0 _ rfl)
  obtain ⟨b, rfl⟩ := int_of (by simpa [h1] using hg 1 _ rfl)
  obtain ⟨c, rfl⟩ := int_of (by simpa [h1] using hg 2 _ rfl)
  obtain ⟨d, rfl⟩ := int_of (by simpa [h1] using hg 3 _ rfl)
  exact ⟨⟨a, b, c, d⟩, rfl, trivial⟩
theorem wl_of {n : Nat} {cs : List Value} {x : DataW H × List MemPlace} (h : DataW.trod enc Tryz.prog w base spare held n 81 cs = some x) : ∃ y : Wl, cs = y.vs ∧ True := by
  have h1 : Tryz.prog.cellsOf 3 = 1 := by kernel_rfl
  have hC : Tryz.prog.cellsOf 81 = 6 := by kernel_rfl
  obtain ⟨xs, m, _, _, hl, hxl, hg⟩ := DataW.trod_struct Tryz.underlying81 h
  rw [hC] at hl
  obtain ⟨c0, c1, c2, c3, c4, c5, rfl⟩ := len6 hl
  obtain ⟨y0, y1, y2, y3, y4, y5, rfl⟩ := len6 (show xs.length = 6 from hxl)
  obtain ⟨a, rfl⟩ := int_of (by simpa [h1] using hg 0 _ rfl)
  obtain ⟨b, rfl⟩ := int_of (by simpa [h1] using hg 1 _ rfl)
  obtain ⟨c, rfl⟩ := int_of (by simpa [h1] using hg 2 _ rfl)
  obtain ⟨d, rfl⟩ := int_of (by simpa [h1] using hg 3 _ rfl)
  obtain ⟨e, rfl⟩ := int_of (by simpa [h1] using hg 4 _ rfl)
  obtain ⟨f, rfl⟩ := int_of (by simpa [h1] using hg 5 _ rfl)
  exact ⟨⟨a, b, c, d, e, f⟩, rfl, trivial⟩
theorem cd_of {n : Nat} {cs : List Value} {x : DataW H × List MemPlace} (h : DataW.trod enc Tryz.prog w base spare held n 83 cs = some x) : ∃ y : Cd, cs = y.vs ∧ True := by
  have h1 : Tryz.prog.cellsOf 3 = 1 := by kernel_rfl
  have h6 : Tryz.prog.cellsOf 81 = 6 := by kernel_rfl
  have hC : Tryz.prog.cellsOf 83 = 8 := by kernel_rfl
  obtain ⟨xs, m, _, _, hl, hxl, hg⟩ := DataW.trod_struct Tryz.underlying83 h
  rw [hC] at hl
  obtain ⟨c0, c1, c2, c3, c4, c5, c6, c7, rfl⟩ := len8 hl
  obtain ⟨y0, y1, y2, rfl⟩ := len3 (show xs.length = 3 from hxl)
  obtain ⟨s, hs, _⟩ := wl_of (by simpa [h6] using hg 0 _ rfl)
  obtain ⟨e, rfl⟩ := int_of (by simpa [h1] using hg 1 _ rfl)
  obtain ⟨f, rfl⟩ := int_of (by simpa [h1] using hg 2 _ rfl)
  simp only [Wl.vs, List.cons.injEq, and_true] at hs
  obtain ⟨rfl, rfl, rfl, rfl, rfl, rfl⟩ := hs
  exact ⟨⟨s, e, f⟩, rfl, trivial⟩
theorem cv_of {n : Nat} {cs : List Value} {x : DataW H × List MemPlace} (h : DataW.trod enc Tryz.prog w base spare held n 75 cs = some x) :
    ∃ y : CV, cs = [.slice y.a y.cs.length y.c] ∧ (RowAt w y.a 8 (y.cs.map Cd.vs) ∧ y.cs.length ≤ 9223372036854775807) := by
  obtain ⟨l, a, c, rfl, h1, h2, h3, _⟩ := row_of (size := 8) (f := Cd.vs) (Q := fun _ => True) Tryz.underlying75 (by kernel_rfl) (by omega) (fun _ _ _ => cd_of) h
  unfold maxLen at h2
  exact ⟨⟨a, c, l⟩, rfl, h3, by simp only; omega⟩
theorem rows_cv {n : Nat} {cs : List Value} {x : DataW H × List MemPlace} (h : DataW.trod enc Tryz.prog w base spare held n 24 cs = some x) :
    ∃ (css : List (List Cd)) (a : Option Addr) (c : Nat), cs = [.slice a css.length c] ∧ css.length ≤ c ∧ c ≤ maxLen ∧ CasesAt w a css ∧ ∀ l ∈ css, l.length ≤ 9223372036854775807 := by
  obtain ⟨l, a, c, rfl, h1, h2, h3, h4⟩ := row_of (size := 1) (f := fun y : CV => [.slice y.a y.cs.length y.c]) (Q := fun y => RowAt w y.a 8 (y.cs.map Cd.vs) ∧ y.cs.length ≤ 9223372036854775807) Tryz.underlying24 (by kernel_rfl) (by omega) (fun _ _ _ => cv_of) h
  refine ⟨l.map (·.cs), a, c, by simp, by simpa using h1, h2, ⟨l, rfl, h3, fun x hx => (h4 x hx).1⟩, fun x hx => ?_⟩
  obtain ⟨y, hy, rfl⟩ := List.mem_map.1 hx
  exact (h4 y hy).2

set_option maxRecDepth 100000 in
/-- A land that came in. -/
theorem open_land {r : Reach} {b0 : Nat} {v : Value} {d : DataW H} {p : List MemPlace} (hv : Value.okWide Tryz.prog w r b0 27 v) (h : DataW.Trod enc Tryz.prog w base spare held 27 v d p) :
    ∃ (q : LV) (L : Land), v = .agg #[.slice q.a1 L.st.length q.c1, .slice q.a2 L.rd.length q.c2, .slice q.a3 L.cs.length q.c3, .slice q.a4 L.sn.length q.c4] ∧ LandAt w q L ∧ Sane L := by
  have hC : Tryz.prog.cellsOf 27 = 4 := by kernel_rfl
  have s1 : Tryz.prog.cellsOf 22 = 1 := by kernel_rfl
  have s2 : Tryz.prog.cellsOf 23 = 1 := by kernel_rfl
  have s3 : Tryz.prog.cellsOf 24 = 1 := by kernel_rfl
  have s4 : Tryz.prog.cellsOf 25 = 1 := by kernel_rfl
  obtain ⟨cs, rfl, hsz⟩ := okWide_struct Tryz.underlying27 hv
  rw [hC] at hsz
  clear hv hC
  obtain ⟨l⟩ := cs
  obtain ⟨c0, c1, c2, c3, rfl⟩ := len4 (l := l) (by simpa using hsz)
  obtain ⟨fuel, hf⟩ := h
  obtain ⟨xs, n, _, _, _, hlen, hg⟩ := DataW.trod_struct Tryz.underlying27 hf
  obtain ⟨y0, y1, y2, y3, rfl⟩ := len4 (show xs.length = 4 from hlen)
  obtain ⟨l1, a1, k1, e1, g1, m1, r1, _⟩ := row_of (size := 4) (f := Stn.vs) (Q := fun _ => True) Tryz.underlying22 (by kernel_rfl) (by omega) (fun _ _ _ => st_of) (by simpa [Value.cells, s1] using hg 0 _ rfl)
  obtain ⟨l2, a2, k2, e2, g2, m2, r2, _⟩ := row_of (size := 6) (f := Wl.vs) (Q := fun _ => True) Tryz.underlying23 (by kernel_rfl) (by omega) (fun _ _ _ => wl_of) (by simpa [Value.cells, s2] using hg 1 _ rfl)
  obtain ⟨l3, a3, k3, e3, g3, m3, r3, q3⟩ := rows_cv (by simpa [Value.cells, s3] using hg 2 _ rfl)
  obtain ⟨l4, a4, k4, e4, g4, m4, r4, _⟩ := row_of (size := 3) (f := Sn.vs) (Q := fun _ => True) Tryz.underlying25 (by kernel_rfl) (by omega) (fun _ _ _ => sn_of) (by simpa [Value.cells, s4] using hg 3 _ rfl)
  cases e1; cases e2; cases e3; cases e4
  unfold maxLen at m1 m2 m3 m4
  exact ⟨⟨a1, k1, a2, k2, a3, k3, a4, k4⟩, ⟨l1, l2, l3, l4⟩, rfl, ⟨r1, r2, r3, r4, g1, g2, g3, g4⟩, ⟨by simp only; omega, by simp only; omega, by simp only; omega, by simp only; omega, q3⟩⟩
end

section
variable {H : Type} {enc : TypeId × Value → H} {P : Program}
theorem trodAll_none {w : World} {base : Nat} {spare : Nat → Bool} {held : Bool} {vs : List Value} {ds : List (DataW H)} {ps : List MemPlace} (h : DataW.TrodAll enc P w base spare held [] vs ds ps) : vs = [] ∧ ds = [] ∧ ps = [] := by
  cases vs <;> cases ds <;> simp [DataW.TrodAll] at h
  exact ⟨rfl, rfl, h⟩
/-- What came in reads as it read, where nothing that was there has turned. -/
theorem trodAll_stays (hl : laidOutB P = true) {W W' : World} (hb : Below W.heap.size W W') {sp : Nat → Bool} : ∀ {ts : List TypeId} {vs : List Value} {ds : List (DataW H)} {ps : List MemPlace},
    (ts.all fun t => P.readableRec t && decide (t < P.types.size)) = true → DataW.TrodAll enc P W 0 (fun _ => true) true ts vs ds ps → (∀ x ∈ ps, x.block < W.heap.size) → (∀ x ∈ ps, sp x.block = true) → DataW.TrodAll enc P W' 0 sp true ts vs ds ps
  | [], [], [], _, _, h, _, _ => h
  | [], _ :: _, _, _, _, h, _, _ => h.elim
  | [], [], _ :: _, _, _, h, _, _ => h.elim
  | _ :: _, [], _, _, _, h, _, _ => h.elim
  | _ :: _, _ :: _, [], _, _, h, _, _ => h.elim
  | t :: ts, v :: vs, d :: ds, ps, hr, h, hlt, hs => by
    obtain ⟨p, q, h1, h2, rfl⟩ := h
    simp only [List.all_cons, Bool.and_eq_true, decide_eq_true_eq] at hr
    exact ⟨p, q, WideElems.Trod_stays hl hr.1.1 hr.1.2 h1 (fun x hx => hb.same (hlt x (List.mem_append_left _ hx))) (fun x hx => hs x (List.mem_append_left _ hx)),
      trodAll_stays hl hb hr.2 h2 (fun x hx => hlt x (List.mem_append_right _ hx)) (fun x hx => hs x (List.mem_append_right _ hx)), rfl⟩

theorem post_of_below {f : Func} {s : ChangeSpec} {apart fresh handsOn again : Bool} {W W' : World} {args : Array Value} {v : Value} {ds gs : List (DataW H)} {before pa pv : List MemPlace}
    (hW : DataW.Whole enc P f.params.toList s.vars apart W args.toList ds gs before)
    (hres : ∀ (b : Nat) (sp : Nat → Bool) (hd : Bool), DataW.TrodAll enc P W' b sp hd f.resultTypes.toList (v.resultList f.resultTypes.size) (s.fn H (ds ++ gs)).results [])
    (hargs : ∀ sp : Nat → Bool, (∀ p ∈ before, sp p.block = true) → DataW.TrodAll enc P W' 0 sp true f.params.toList args.toList (s.fn H (ds ++ gs)).args pa)
    (hvars : ∀ sp : Nat → Bool, (∀ p ∈ before, sp p.block = true) → DataW.TrodVars enc P W' sp s.vars (s.fn H (ds ++ gs)).vars pv)
    (hps : before = pa ++ pv) (hb : Below W.heap.size W W')
    (hok : ∀ (j : Nat) (t : TypeId) (r : Value), f.resultTypes[j]? = some t → (v.resultList f.resultTypes.size)[j]? = some r → Value.okWide P W' .any 0 t r) :
    s.post enc P f apart fresh handsOn again W args v W' := by
  have hlt : ∀ p ∈ before, p.block < W.heap.size := fun p hp => hW.lt p hp
  have hold : ∀ p ∈ before, (fun b => decide (b < W.heap.size)) p.block = true := fun p hp => by simpa using hlt p hp
  refine ⟨ds, gs, before, [], pa, pv, hW, hres _ _ _, hargs _ hold, hvars _ hold, World.keptBut_mono (fun p hp => ⟨hp, ?_⟩) (hb.frame (· ∈ before)), fun _ => ?_⟩
  · rw [hps, List.mem_append] at hp
    exact Or.inr hp
  · obtain ⟨_, _, _, _, _, hz, hn⟩ := hW
    refine ⟨hok, _, _, ([] ++ pa) ++ pv, ⟨[] ++ pa, pv, trodAll_append (hargs _ (fun _ _ => rfl)) (hres _ _ _), hvars _ (fun _ _ => rfl), rfl, ?_, ?_⟩, ?_⟩
    · intro b off hp
      have hin : MemPlace.cell b off ∈ before := by rw [hps]; simpa using hp
      rw [hb.frozen (hlt _ hin)]
      exact hz b off hin
    · intro ha
      have := hn ha
      rw [hps] at this
      simpa using this
    · intro p hp _
      rw [hps]
      simpa using hp
end
end Go.Proofs.YtingfmdbihbamaaGreat
