/- Layer 3, the walks: the exported function ProveTable. -/
import Derived.Test.YtfihdaoakfdlpaaRB
import Derived.Test.YtfihdaoakfdlpaaRC
import Derived.Test.YtfihdaoakfdlpaaRPlain7
import Derived.Deep.LoopGhost
import Derived.Sort.CutIn
open Go.RowKit Go.Shelf
namespace Go.Proofs.Ytfihdaoakfdlpaa
open Go.Hill
attribute [local go_sem] Oper.semAt_some

theorem ptab_any {bw : Nat} {q : LV} {L : Land} {v : Value} (n : Int) (b1 : Nat) (w : World) (B1 : Box w b1 #[.pointer (some ⟨bw, 0, none⟩)] 71) (B2 : Box w bw (rel5 q L v) 114) (hl : L.sn.length ≤ 1000) :
    Calls Try.prog 40 #[.int .i64 n, .pointer (some ⟨b1, 0, none⟩)] w (Ret (.bool (inB n 0 ((L.sn.length : Int) + 1))) w) := by
  obtain ⟨b, hb⟩ : ∃ b, b = inB n 0 ((L.sn.length : Int) + 1) := ⟨_, rfl⟩
  rw [← hb]
  have HC : Hid (∀ w, Calls Try.prog 41 #[.int .i64 n, .int .i64 0, .int .i64 ((L.sn.length : Int) + 1)] w (Ret (.bool b) w)) := fun w => by rw [hb]; exact rwithin_any _ _ _ _
  clear hb
  have c1 := B1.cell; have t1 := B1.lt
  go_enter Try.func40, Try.ntmps40
  go_wp2_with fail
  refine (end_any w B2).mono ?_
  rintro e w1 ⟨rfl, hb⟩
  clear c1 t1
  go_wp2_with fail
  refine (HC.out _).mono ?_
  rintro e w2 ⟨rfl, hb2⟩
  replace hb := over hb hb2
  go_wp2_with fail
  go_ret
  exact ⟨rfl, hb⟩
def Land.prvE (L : Land) (fr st k : Int) (l : List Int) : Bool := decide (L.askr fr fr st k = 0) && L.prvB fr.toNat st.toNat k.toNat l
/-- How it returns. -/
theorem prove_end {m : Nat} {b10 : Nat} {v : Bool} {ds : List Deferred} {tmps : Array Value} {w W : World} (hB : Box W b10 #[.bool v] 4) (hm : Marks w.heap.size ds W) (hb : Below w.heap.size w W) (ht : tmps.getD 10 undef = .pointer (some ⟨b10, 0, none⟩)) :
    LeavesInM Fence.wide m Try.prog Try.f23 tmps (Ret (.bool v) w) ds .returning W := by
  refine marks_leave hm (fun W' hb' hk' => ?_) hb.size
  have hB' : Box W' b10 #[.bool v] 4 := marks_turn hk' hB
  have hc : W'.cell? ⟨b10, 0, none⟩ = some (.bool v) := hB'.cell 0
  have ht' : tmps[10]?.getD undef = .pointer (some ⟨b10, 0, none⟩) := by simpa using ht
  exact ⟨.bool v, by simp [results, Try.results23, asAddr, ht', go_sem, hc], rfl, hb.trans hb'⟩
/-- What holds on the way. -/
structure PT (r : RV) (L : Land) (n0 : Nat) (w1 : World) (ds : List Deferred) (W : World) : Prop where
  T : Turn r.ex none w1 W
  K : KnAt W r L
  M : Marks n0 ds W
section
variable {r : RV} {q : LV} {L : Land} {n0 : Nat} {w1 W W' : World} {ds : List Deferred}
theorem PT.later (h : PT r L n0 w1 ds W) (hb : Below W.heap.size W W') : PT r L n0 w1 ds W' := ⟨h.T.next hb, h.K.later hb, h.M.later hb⟩
theorem PT.turned (h : PT r L n0 w1 ds W) (ht : Turn r.ex none W W') (hk : KnAt W' r L) : PT r L n0 w1 ds W' := ⟨h.T.trans ht, hk, ht.marks h.M (by simp)⟩
theorem PT.but {b : Nat} {cs : Array Value} {T : TypeId} (h : PT r L n0 w1 ds W) (hb : But b W W') (hB : Box W b cs T) (hn : w1.heap.size ≤ b) : PT r L n0 w1 ds W' := ⟨h.T.but hb (.inl hn), h.K.but hB hb, h.M.but hB hb⟩
theorem PT.cons {D : Nat} {w6 : World} (h : PT r L n0 w1 ds w6) (hb : Below w6.heap.size w6 W) (h0 : n0 ≤ D) (hD : w6.heap.size ≤ D) (hK : W.heap[D]? = some (.deferred (some []))) : PT r L n0 w1 (markOf D :: ds) W := by
  refine ⟨h.T.next hb, h.K.later hb, (h.M.later hb).cons h0 hK fun d hd => ?_⟩
  obtain ⟨Ds, h1, _, h3⟩ := h.M
  rw [h1] at hd
  obtain ⟨E, hE, rfl⟩ := List.mem_map.1 hd
  intro e
  have h4 := (Array.getElem?_eq_some_iff.1 (h3 E hE).2).1
  have := markOf_inj e
  omega
end
/-- Between two rounds over a set of stations. -/
def NextP (tb : Nat → Int) (t : Nat) (w6 : World) (pre : List Nat) (W : World) : Prop := Below w6.heap.size w6 W ∧ ∀ z ∈ pre, tb z ≤ t + 1
def StopP (c : Nat → Bool) (n : Nat) (tb : Nat → Int) (t b10 : Nat) (w6 : World) (W : World) : Prop := ∃ W1 z, Below w6.heap.size w6 W1 ∧ Below w6.heap.size (W1.setCell ⟨b10, 0, none⟩ (.bool false)) W ∧ z < n ∧ c z = true ∧ ¬ tb z ≤ t + 1
theorem nextP_own {α : Type} {tb : Nat → Int} {t : Nat} {w6 : World} {g : List α → List Nat} : OwnFrom w6.heap.size (fun pre W => NextP tb t w6 (g pre) W) := fun _ _ _ _ ⟨h, h2⟩ hg hr =>
  ⟨h.grown hg h.size (fun k e => (hr k e).1), h2⟩
theorem stopP_own {α : Type} {c : Nat → Bool} {n : Nat} {tb : Nat → Int} {t b10 : Nat} {w6 : World} (cd : Code) : OwnFrom w6.heap.size (fun (_ : List α) W => cd = .ret ∧ StopP c n tb t b10 w6 W) := fun _ _ _ _ ⟨hc, W1, z, h1, h2, h3⟩ hg hr =>
  ⟨hc, W1, z, h1, h2.grown hg (Nat.le_trans h1.size (by simpa [World.setCell] using h2.size)) (fun k e => (hr k e).1), h3⟩
theorem named_five {w : World} {c1 c2 c3 c4 c5 : Array Value} {t1 t2 t3 t4 t5 : TypeId} {p : World → Prop} (h : ∀ W, Below w.heap.size w W → Box W w.heap.size c1 t1 → Box W (w.heap.size + 1) c2 t2 → Box W (w.heap.size + 1 + 1) c3 t3 → Box W (w.heap.size + 1 + 1 + 1) c4 t4 → Box W (w.heap.size + 1 + 1 + 1 + 1) c5 t5 → p W) :
    p (((((w.alloc (.cells c1 t1)).alloc (.cells c2 t2)).alloc (.cells c3 t3)).alloc (.cells c4 t4)).alloc (.cells c5 t5)) := by
  refine h _ (al (al (al (al (al (Below.refl _ _) _) _) _) _) _) ?_ ?_ ?_ ?_ ?_
  all_goals repeat (first | exact Box.newAt _ _ (by simp) | refine Box.alloc ?_ _)
set_option maxRecDepth 100000 in
set_option maxHeartbeats 8000000 in
theorem ProveTable_any (q : LV) (L : Land) (fr st kk : Int) (tl : List Int) (ta : Option Addr) (tc : Nat) (w : World) (hL : LandAt w q L) (hs : Small L) (hT : IntsAt w ta tl) (hl : tl.length ≤ 1000) :
    Calls Try.prog 23 #[landV q L, .int .i64 fr, .int .i64 st, .int .i64 kk, .slice ta tl.length tc] w (Ret (.bool (Land.prvE L fr st kk tl)) w) := by
  have HL := Lib.hid hL
  have HT := Lib.hid hT
  clear hL hT
  by_cases hc : L.chk = 0
  case neg =>
    have h1 : Land.prvE L fr st kk tl = false := by unfold Land.prvE; rw [askr_bad hc, decide_eq_false hc]; rfl
    rw [h1]
    clear h1
    refine (callsIn_wide (n := 6)).1 ?_
    refine callsIn_of_wp_marks Try.func23 rfl trivial ?_ rfl
    simp only [Try.ntmps23, List.size_toArray, List.length_cons, List.length_nil, Nat.reduceAdd, Nat.reduceSub, Array.replicate_succ, Array.replicate_zero, List.push_toArray, List.append_toArray, List.nil_append, List.cons_append]
    gi_wp2
    refine ⟨trivial, ?_⟩
    refine named_five (p := fun W => CallsIn _ _ _ _ _ W _) ?_
    intro W hW B5 B9 B10 B20 B22
    have HNo := Lib.hid (open_bad q L (.slice (some ⟨w.heap.size + 1 + 1 + 1, 0, none⟩) 1 1) (.slice (some ⟨w.heap.size + 1 + 1 + 1 + 1, 0, none⟩) 1 1) kk W (HL.out.later hW) hs hc)
    have hcb : (L.chk != 0) = true := by simpa using hc
    generalize L.chk = c at *
    clear hc
    refine (callsIn_wide.2 HNo.out).mono ?_
    rintro e w1 ⟨rfl, hb1⟩
    replace hW := over hW hb1
    replace B10 := B10.later hb1
    clear B5 B9 B20 B22 hb1 HNo
    gi_upto_region 2 with fail
    refine named1 (p := Code.wpIn _ _ _ _ _ _) ?_
    intro W2 hb2 B11
    replace B10 := B10.later hb2
    have HW := Lib.hid ((setCell_but W2 (w.heap.size + 1 + 1) 0 (.bool false)).below (over hW hb2) (by omega))
    have HS := Lib.hid (setCell_box B10 0 (.bool false))
    have c10 := B10.cell; have t10 := B10.lt
    have f10 := B10.frozen
    clear hW hb2 B11
    gi_wp2
    refine ⟨trivial, ?_⟩
    gi_wp2
    change bodyPostM _ _ _ _ _ _ _ (World.setCell W2 ⟨w.heap.size + 1 + 1, 0, none⟩ (.bool false))
    exact prove_end HS.out (Marks.nil _ _) HW.out rfl
  have HC := Lib.hid hc
  obtain ⟨v, hv⟩ : ∃ v, v = Land.prvE L fr st kk tl := ⟨_, rfl⟩
  rw [← hv]
  rw [Land.prvE, askr_one hc] at hv
  have HV := Lib.hid hv
  obtain ⟨n6, n0, e12, e0, m4, m0⟩ := st_six hc
  clear hv hc hs
  refine (callsIn_wide (n := 6)).1 ?_
  refine callsIn_of_wp_marks Try.func23 rfl trivial ?_ rfl
  simp only [Try.ntmps23, List.size_toArray, List.length_cons, List.length_nil, Nat.reduceAdd, Nat.reduceSub, Array.replicate_succ, Array.replicate_zero, List.push_toArray, List.append_toArray, List.nil_append, List.cons_append]
  gi_wp2
  refine ⟨trivial, ?_⟩
  refine named_five (p := fun W => CallsIn _ _ _ _ _ W _) ?_
  intro W hW B5 B9 B10 B20 B22
  have hB20 : Box W (w.heap.size + 1 + 1 + 1) #[.int .i64 fr] 3 := B20
  have hB22 : Box W (w.heap.size + 1 + 1 + 1 + 1) #[.int .i64 st] 3 := B22
  have hsz0 := hW.size
  refine (callsIn_wide.2 (open_any q L [fr] [st] _ _ 1 1 kk W (HL.out.later hW) HC.out (ints_one_box hB20) (ints_one_box hB22) (by simp) (by simp))).mono ?_
  rintro e w1 (⟨hno, rfl, hb1⟩ | ⟨hyes, r, rfl, hb1, hR1, hn0⟩)
  · have h1 := HV.out
    rw [hno] at h1
    have h2 : v = false := h1
    subst h2
    replace hW := over hW hb1
    replace B10 := B10.later hb1
    clear B5 B9 B20 B22 hB20 hB22 hb1 hno h1 HV
    gi_upto_region 2 with fail
    refine named1 (p := Code.wpIn _ _ _ _ _ _) ?_
    intro W2 hb2 B11
    replace B10 := B10.later hb2
    have HW := Lib.hid ((setCell_but W2 (w.heap.size + 1 + 1) 0 (.bool false)).below (over hW hb2) (by omega))
    have HS := Lib.hid (setCell_box B10 0 (.bool false))
    have c10 := B10.cell; have t10 := B10.lt
    have f10 := B10.frozen
    clear hW hb2 B11
    gi_wp2
    refine ⟨trivial, ?_⟩
    gi_wp2
    change bodyPostM _ _ _ _ _ _ _ (World.setCell W2 ⟨w.heap.size + 1 + 1, 0, none⟩ (.bool false))
    exact prove_end HS.out (Marks.nil _ _) HW.out rfl
  obtain ⟨f, s, k, rfl, rfl, rfl, hf, hs, hk⟩ := okr_one hyes
  have h1 := HV.out
  rw [hyes] at h1
  replace h1 : v = L.prvB f s k tl := h1
  have HV1 := Lib.hid h1
  have HW1 := Lib.hid (over hW hb1)
  have HN0 : Hid (w.heap.size ≤ r.n0) := by show _ ≤ _; rw [hn0]; exact hsz0
  replace B5 := B5.later hb1
  replace B9 := B9.later hb1
  replace B10 := B10.later hb1
  clear B20 B22 hB20 hB22 hyes h1 HV hn0 hsz0
  gi_upto_region 2 with fail
  refine named1 (p := Code.wpIn _ _ _ _ _ _) ?_
  intro W2 hb2 B11
  have HR2 := Lib.hid (hR1.later hb2)
  have HT2 := Lib.hid (((HT.out.later hW).later hb1).later hb2)
  have HW2 := Lib.hid (over HW1.out hb2)
  have t1w : w.heap.size + 1 + 1 < w1.heap.size := B10.lt
  obtain ⟨b11, hb11⟩ : ∃ b, b = w1.heap.size := ⟨_, rfl⟩
  rw [← hb11] at B11 ⊢
  rw [← hb11] at t1w
  replace B5 := B5.later hb2
  replace B9 := B9.later hb2
  replace B10 := B10.later hb2
  clear hb2 hb1 hR1 HW1 hb11 hW
  by_cases hlen : tl.length = L.st.length
  case neg =>
    have hne : ((tl.length : Int) != (L.st.length : Int)) = true := by simp; omega
    have HE : Hid (v = false) := by show _ = _; rw [HV1.out, prv_len hlen]
    have HW := Lib.hid ((setCell_but W2 (w.heap.size + 1 + 1) 0 (.bool false)).below HW2.out (by omega))
    have HS := Lib.hid (setCell_box B10 0 (.bool false))
    have c5 := B5.cell; have t5 := B5.lt; have c9 := B9.cell; have t9 := B9.lt; have c10 := B10.cell; have t10 := B10.lt
    have f10 := B10.frozen
    clear hlen HV1
    gi_wp2
    refine ⟨trivial, ?_⟩
    gi_wp2
    change bodyPostM _ _ _ _ _ _ _ (World.setCell W2 ⟨w.heap.size + 1 + 1, 0, none⟩ (.bool false))
    rw [HE.out]
    exact prove_end HS.out (Marks.nil _ _) HW.out rfl
  have hne : ((tl.length : Int) != (L.st.length : Int)) = false := by simp; omega
  have HLen := Lib.hid hlen
  have HAll := Lib.hid (rall_int tl ta tc W2 HT2.out 40 #[] #[.pointer (some ⟨b11, 0, none⟩)] (fun x => inB x 0 ((L.sn.length : Int) + 1)) (fun _ _ => by kernel_rfl) (by omega) fun x _ w' hb' => ptab_any x _ w' (B11.later hb') (HR2.out.later hb').box (by omega))
  obtain ⟨av, hav⟩ : ∃ av, av = tl.all fun x => inB x 0 ((L.sn.length : Int) + 1) := ⟨_, rfl⟩
  rw [← hav] at HAll
  have HAv := Lib.hid hav
  have c5 := B5.cell; have t5 := B5.lt; have c9 := B9.cell; have t9 := B9.lt
  clear hlen hav
  gi_wp2
  refine ⟨trivial, ?_⟩
  refine (callsIn_wide.2 HAll.out).mono ?_
  rintro e w3 ⟨rfl, hb3⟩
  have HR3 := Lib.hid (HR2.out.later hb3)
  have HT3 := Lib.hid (HT2.out.later hb3)
  have HW3 := Lib.hid (over HW2.out hb3)
  replace B9 := B9.later hb3
  replace B10 := B10.later hb3
  replace B11 := B11.later hb3
  clear HAll HR2 HT2 HW2 B5 c5 t5 c9 t9 hb3 hne
  cases av with
  | false =>
    have HE : Hid (v = false) := by show _ = _; rw [HV1.out, prv_all HAv.out.symm]
    have HW := Lib.hid ((setCell_but w3 (w.heap.size + 1 + 1) 0 (.bool false)).below HW3.out (by omega))
    have HS := Lib.hid (setCell_box B10 0 (.bool false))
    have c10 := B10.cell; have t10 := B10.lt
    have f10 := B10.frozen
    clear HV1 B9 B11
    gi_wp2
    change bodyPostM _ _ _ _ _ _ _ (World.setCell w3 ⟨w.heap.size + 1 + 1, 0, none⟩ (.bool false))
    rw [HE.out]
    exact prove_end HS.out (Marks.nil _ _) HW.out rfl
  | true =>
    have HBd : Hid (∀ x, x < tl.length → 0 ≤ tbl tl x ∧ tbl tl x ≤ (L.sn.length : Int) + 1) := fun x hx => all_bd HAv.out.symm hx
    have HEnd : Hid (closB (fun a b h => L.can a b k h) L.st.length L.sn.length (tbl tl) = true → v = decide (tbl tl f ≤ s)) := fun h => by rw [HV1.out, prv_end HLen.out HAv.out.symm h]
    have HBad : Hid (∀ a h b : Nat, a < L.st.length → tbl tl a ≤ h → h < L.sn.length → b < L.st.length → L.can a b k h = true → ¬ tbl tl b ≤ h + 1 → v = false) := fun a h b h0 h1 h2 h3 h4 h5 => by
      rw [HV1.out]; exact prv_clos (closB_no h0 h1 h2 h3 h4 h5)
    have HAt : Hid (∀ x, x < tl.length → tl[x]? = some (tbl tl x)) := fun x hx => tbl_at hx
    have HB9 := Lib.hid B9
    have HB10 := Lib.hid B10
    have HB11 := Lib.hid B11
    generalize tbl tl = tb at *
    have c9 := B9.cell; have t9 := B9.lt
    clear HV1 HAv B10 B11
    gi_wp2
    refine wpIn_loop (fun a' w' => ∃ (ds : List Deferred) (u6 u7 u8 u12 u13 u14 u15 u16 u17 u18 u19 u20 u21 u22 u23 u24 u25 u26 u27 u28 u29 u30 u31 u32 u33 u34 u35 u36 u37 u38 u39 u40 u41 u42 u45 u46 u47 u48 u49 u50 u51 u52 u53 u54 u55 u56 u57 u58 u59 u60 u61 u62 u63 u64 u65 u66 u67 u68 u69 u70 u71 u72 u73 u74 u75 u76 u77 u78 u79 : Value), (∃ a : Nat, a ≤ tl.length ∧ u45 = .int .i64 a ∧ PT r L w.heap.size w3 ds w' ∧ ∀ x, x < a → okA (fun a b h => L.can a b k h) L.st.length L.sn.length tb x) ∧
        a' = { tmps := List.toArray ((landV q L) :: (.int .i64 f) :: (.int .i64 s) :: (.int .i64 k) :: (.slice ta tl.length tc) :: (.pointer (some ⟨w.heap.size, 0, none⟩)) :: u6 :: u7 :: u8 :: (.pointer (some ⟨w.heap.size + 1, 0, none⟩)) :: (.pointer (some ⟨w.heap.size + 1 + 1, 0, none⟩)) :: (.pointer (some ⟨b11, 0, none⟩)) :: u12 :: u13 :: u14 :: u15 :: u16 :: u17 :: u18 :: u19 :: u20 :: u21 :: u22 :: u23 :: u24 :: u25 :: u26 :: u27 :: u28 :: u29 :: u30 :: u31 :: u32 :: u33 :: u34 :: u35 :: u36 :: u37 :: u38 :: u39 :: u40 :: u41 :: u42 :: (.slice ta tl.length tc) :: (.int .i64 tl.length) :: u45 :: u46 :: u47 :: u48 :: u49 :: u50 :: u51 :: u52 :: u53 :: u54 :: u55 :: u56 :: u57 :: u58 :: u59 :: u60 :: u61 :: u62 :: u63 :: u64 :: u65 :: u66 :: u67 :: u68 :: u69 :: u70 :: u71 :: u72 :: u73 :: u74 :: u75 :: u76 :: u77 :: u78 :: u79 :: []), defers := ds })
      (fun a' _ => tl.length - (intOf (a'.tmps.getD 45 undef)).toNat) ?_ ?_
    · (repeat apply Exists.intro)
      refine ⟨?_, rfl⟩
      exact ⟨0, Nat.zero_le _, rfl, ⟨Turn.refl _ _ _, HR3.out.kn, Marks.nil _ _⟩, fun x hx => by omega⟩
    · intro _ wo hinv
      clear B9 c9 t9
      obtain ⟨ds, hinv⟩ := hinv
      obtain ⟨u6, hinv⟩ := hinv; obtain ⟨u7, hinv⟩ := hinv; obtain ⟨u8, hinv⟩ := hinv; obtain ⟨u12, hinv⟩ := hinv; obtain ⟨u13, hinv⟩ := hinv; obtain ⟨u14, hinv⟩ := hinv; obtain ⟨u15, hinv⟩ := hinv; obtain ⟨u16, hinv⟩ := hinv; obtain ⟨u17, hinv⟩ := hinv; obtain ⟨u18, hinv⟩ := hinv; obtain ⟨u19, hinv⟩ := hinv; obtain ⟨u20, hinv⟩ := hinv; obtain ⟨u21, hinv⟩ := hinv; obtain ⟨u22, hinv⟩ := hinv; obtain ⟨u23, hinv⟩ := hinv; obtain ⟨u24, hinv⟩ := hinv; obtain ⟨u25, hinv⟩ := hinv; obtain ⟨u26, hinv⟩ := hinv; obtain ⟨u27, hinv⟩ := hinv; obtain ⟨u28, hinv⟩ := hinv; obtain ⟨u29, hinv⟩ := hinv; obtain ⟨u30, hinv⟩ := hinv; obtain ⟨u31, hinv⟩ := hinv; obtain ⟨u32, hinv⟩ := hinv; obtain ⟨u33, hinv⟩ := hinv; obtain ⟨u34, hinv⟩ := hinv; obtain ⟨u35, hinv⟩ := hinv; obtain ⟨u36, hinv⟩ := hinv; obtain ⟨u37, hinv⟩ := hinv; obtain ⟨u38, hinv⟩ := hinv; obtain ⟨u39, hinv⟩ := hinv; obtain ⟨u40, hinv⟩ := hinv; obtain ⟨u41, hinv⟩ := hinv; obtain ⟨u42, hinv⟩ := hinv; obtain ⟨u45, hinv⟩ := hinv; obtain ⟨u46, hinv⟩ := hinv; obtain ⟨u47, hinv⟩ := hinv; obtain ⟨u48, hinv⟩ := hinv; obtain ⟨u49, hinv⟩ := hinv; obtain ⟨u50, hinv⟩ := hinv; obtain ⟨u51, hinv⟩ := hinv; obtain ⟨u52, hinv⟩ := hinv; obtain ⟨u53, hinv⟩ := hinv; obtain ⟨u54, hinv⟩ := hinv; obtain ⟨u55, hinv⟩ := hinv; obtain ⟨u56, hinv⟩ := hinv; obtain ⟨u57, hinv⟩ := hinv; obtain ⟨u58, hinv⟩ := hinv; obtain ⟨u59, hinv⟩ := hinv; obtain ⟨u60, hinv⟩ := hinv; obtain ⟨u61, hinv⟩ := hinv; obtain ⟨u62, hinv⟩ := hinv; obtain ⟨u63, hinv⟩ := hinv; obtain ⟨u64, hinv⟩ := hinv; obtain ⟨u65, hinv⟩ := hinv; obtain ⟨u66, hinv⟩ := hinv; obtain ⟨u67, hinv⟩ := hinv; obtain ⟨u68, hinv⟩ := hinv; obtain ⟨u69, hinv⟩ := hinv; obtain ⟨u70, hinv⟩ := hinv; obtain ⟨u71, hinv⟩ := hinv; obtain ⟨u72, hinv⟩ := hinv; obtain ⟨u73, hinv⟩ := hinv; obtain ⟨u74, hinv⟩ := hinv; obtain ⟨u75, hinv⟩ := hinv; obtain ⟨u76, hinv⟩ := hinv; obtain ⟨u77, hinv⟩ := hinv; obtain ⟨u78, hinv⟩ := hinv; obtain ⟨u79, hinv⟩ := hinv
      obtain ⟨⟨a, ha, rfl, hP, hOk⟩, hact⟩ := hinv
      subst hact
      have HP := Lib.hid hP
      have HOk := Lib.hid hOk
      have B9 := hP.T.box0 HB9.out
      have hRow := hP.T.row HT3.out
      have hsz := hP.T.size
      clear hP hOk
      by_cases hal : a < tl.length
      · obtain ⟨p1, o1, rfl, hC1⟩ := RowAt.at hRow hal
        have HRow := Lib.hid hRow
        have e0 := cells_one hC1 (HAt.out a hal)
        have z1 := block_lt_of_cell e0
        have han : a < L.st.length := by have := HLen.out; omega
        have r3 : (0 : Int) ≤ (a : Int) := by omega
        have r4 : (a : Int) < (tl.length : Int) := by omega
        obtain ⟨t0, ht0⟩ : ∃ t0 : Nat, (t0 : Int) = tb a := ⟨(tb a).toNat, by have := (HBd.out a hal).1; omega⟩
        have ht0e : t0 ≤ L.sn.length + 1 := by have := (HBd.out a hal).2; omega
        have HT0 := Lib.hid ht0
        rw [← ht0] at e0
        clear hC1 hRow ht0 B9
        gi_upto_region 8 with fail
        refine named1 (p := Code.wpIn _ _ _ _ _ _) ?_
        intro W3 hb3 B15
        have HP3 := Lib.hid (HP.out.later hb3)
        have hb15w : w3.heap.size ≤ wo.heap.size := hsz
        clear e0 z1 hb3 HP HRow hsz
        refine wpIn_loop (fun a' w' => ∃ (ds : List Deferred) (u6 u7 u8 u12 u14 u15 u16 u17 u18 u19 u20 u21 u22 u23 u24 u25 u26 u27 u28 u29 u30 u31 u32 u33 u34 u35 u36 u37 u38 u39 u40 u41 u42 u46 u47 u48 u49 u50 u51 u52 u53 u54 u55 u56 u57 u58 u59 u60 u61 u62 u63 u64 u65 u66 u67 u68 u69 u70 u71 u72 u73 u74 u75 u76 u77 u78 u79 : Value), (∃ (t b15 : Nat), u15 = .pointer (some ⟨b15, 0, none⟩) ∧ PT r L w.heap.size w3 ds w' ∧ Box w' b15 #[.int .i64 t] 3 ∧ t0 ≤ t ∧ t ≤ L.sn.length + 1 ∧ w3.heap.size ≤ b15 ∧ ∀ h, t0 ≤ h → h < t → ∀ b, b < L.st.length → L.can a b k h = true → tb b ≤ (h : Int) + 1) ∧
            a' = { tmps := List.toArray ((landV q L) :: (.int .i64 f) :: (.int .i64 s) :: (.int .i64 k) :: (.slice (some ⟨p1, o1, none⟩) tl.length tc) :: (.pointer (some ⟨w.heap.size, 0, none⟩)) :: u6 :: u7 :: u8 :: (.pointer (some ⟨w.heap.size + 1, 0, none⟩)) :: (.pointer (some ⟨w.heap.size + 1 + 1, 0, none⟩)) :: (.pointer (some ⟨b11, 0, none⟩)) :: u12 :: (.int .i64 a) :: u14 :: u15 :: u16 :: u17 :: u18 :: u19 :: u20 :: u21 :: u22 :: u23 :: u24 :: u25 :: u26 :: u27 :: u28 :: u29 :: u30 :: u31 :: u32 :: u33 :: u34 :: u35 :: u36 :: u37 :: u38 :: u39 :: u40 :: u41 :: u42 :: (.slice (some ⟨p1, o1, none⟩) tl.length tc) :: (.int .i64 tl.length) :: (.int .i64 a) :: u46 :: u47 :: u48 :: u49 :: u50 :: u51 :: u52 :: u53 :: u54 :: u55 :: u56 :: u57 :: u58 :: u59 :: u60 :: u61 :: u62 :: u63 :: u64 :: u65 :: u66 :: u67 :: u68 :: u69 :: u70 :: u71 :: u72 :: u73 :: u74 :: u75 :: u76 :: u77 :: u78 :: u79 :: []), defers := ds })
          (fun a' w' => L.sn.length + 2 - ptrNum (a'.tmps.getD 15 undef) w') ?_ ?_
        · (repeat apply Exists.intro)
          refine ⟨?_, rfl⟩
          exact ⟨t0, wo.heap.size, rfl, HP3.out, B15, Nat.le_refl _, ht0e, hb15w, fun h h1 h2 => by omega⟩
        · intro _ wh hinv
          clear HP3 B15 W3 hb15w
          obtain ⟨ds, hinv⟩ := hinv
          obtain ⟨u6, hinv⟩ := hinv; obtain ⟨u7, hinv⟩ := hinv; obtain ⟨u8, hinv⟩ := hinv; obtain ⟨u12, hinv⟩ := hinv; obtain ⟨u14, hinv⟩ := hinv; obtain ⟨u15, hinv⟩ := hinv; obtain ⟨u16, hinv⟩ := hinv; obtain ⟨u17, hinv⟩ := hinv; obtain ⟨u18, hinv⟩ := hinv; obtain ⟨u19, hinv⟩ := hinv; obtain ⟨u20, hinv⟩ := hinv; obtain ⟨u21, hinv⟩ := hinv; obtain ⟨u22, hinv⟩ := hinv; obtain ⟨u23, hinv⟩ := hinv; obtain ⟨u24, hinv⟩ := hinv; obtain ⟨u25, hinv⟩ := hinv; obtain ⟨u26, hinv⟩ := hinv; obtain ⟨u27, hinv⟩ := hinv; obtain ⟨u28, hinv⟩ := hinv; obtain ⟨u29, hinv⟩ := hinv; obtain ⟨u30, hinv⟩ := hinv; obtain ⟨u31, hinv⟩ := hinv; obtain ⟨u32, hinv⟩ := hinv; obtain ⟨u33, hinv⟩ := hinv; obtain ⟨u34, hinv⟩ := hinv; obtain ⟨u35, hinv⟩ := hinv; obtain ⟨u36, hinv⟩ := hinv; obtain ⟨u37, hinv⟩ := hinv; obtain ⟨u38, hinv⟩ := hinv; obtain ⟨u39, hinv⟩ := hinv; obtain ⟨u40, hinv⟩ := hinv; obtain ⟨u41, hinv⟩ := hinv; obtain ⟨u42, hinv⟩ := hinv; obtain ⟨u46, hinv⟩ := hinv; obtain ⟨u47, hinv⟩ := hinv; obtain ⟨u48, hinv⟩ := hinv; obtain ⟨u49, hinv⟩ := hinv; obtain ⟨u50, hinv⟩ := hinv; obtain ⟨u51, hinv⟩ := hinv; obtain ⟨u52, hinv⟩ := hinv; obtain ⟨u53, hinv⟩ := hinv; obtain ⟨u54, hinv⟩ := hinv; obtain ⟨u55, hinv⟩ := hinv; obtain ⟨u56, hinv⟩ := hinv; obtain ⟨u57, hinv⟩ := hinv; obtain ⟨u58, hinv⟩ := hinv; obtain ⟨u59, hinv⟩ := hinv; obtain ⟨u60, hinv⟩ := hinv; obtain ⟨u61, hinv⟩ := hinv; obtain ⟨u62, hinv⟩ := hinv; obtain ⟨u63, hinv⟩ := hinv; obtain ⟨u64, hinv⟩ := hinv; obtain ⟨u65, hinv⟩ := hinv; obtain ⟨u66, hinv⟩ := hinv; obtain ⟨u67, hinv⟩ := hinv; obtain ⟨u68, hinv⟩ := hinv; obtain ⟨u69, hinv⟩ := hinv; obtain ⟨u70, hinv⟩ := hinv; obtain ⟨u71, hinv⟩ := hinv; obtain ⟨u72, hinv⟩ := hinv; obtain ⟨u73, hinv⟩ := hinv; obtain ⟨u74, hinv⟩ := hinv; obtain ⟨u75, hinv⟩ := hinv; obtain ⟨u76, hinv⟩ := hinv; obtain ⟨u77, hinv⟩ := hinv; obtain ⟨u78, hinv⟩ := hinv; obtain ⟨u79, hinv⟩ := hinv
          obtain ⟨⟨t, b15, rfl, hP, B15, htt, hte, hb15, hOk2⟩, hact⟩ := hinv
          subst hact
          have HP := Lib.hid hP
          have HOk2 := Lib.hid hOk2
          have HMs2 := Lib.hid (ptrNum_at B15)
          have B11 := hP.T.box0 HB11.out
          have hRel := HR3.out.turn hP.T hP.K
          have HRel := Lib.hid hRel
          have HEn : Hid (∀ W, Below wh.heap.size wh W → Calls Try.prog 31 #[.pointer (some ⟨r.bw, 0, none⟩)] W (Ret (.int .i64 L.sn.length) W)) := fun W hb => end_any W (hRel.box.later hb)
          have hsz := hP.T.size
          clear hP hOk2 hRel
          have c11 := B11.cell; have t11 := B11.lt; have c15 := B15.cell; have t15 := B15.lt
          by_cases hlt : t < L.sn.length
          · have r6 : (0 : Int) ≤ (t : Int) := by omega
            have r7 : (t : Int) < (L.sn.length : Int) := by omega
            gi_upto_region 8 with fail
            refine Fat.wpIn_region_tail 4 (by kernel_rfl) (by kernel_rfl) ?_
            simp only [List.take_succ_cons, List.drop_succ_cons, List.take_nil, List.drop_nil]
            repeat (go_big_quiet_step (exact Calls.regrown_of (HEn.out _ (below_regrown _ _ _))))
            refine wpQuiet_nil ?_
            intro wl hbl
            have HPl := Lib.hid (HP.out.later hbl)
            have HRl := Lib.hid (HRel.out.later hbl)
            replace B11 := B11.later hbl
            replace B15 := B15.later hbl
            have hszl := hbl.size
            clear c11 t11 c15 t15 HP HRel hbl HEn
            have c11 := B11.cell; have t11 := B11.lt; have c15 := B15.cell; have t15 := B15.lt
            gi_wp2
            refine ⟨trivial, ?_⟩
            refine (callsIn_wide.2 (from_any r q L k a t wl HRl.out HC.out han hk hlt)).mono ?_
            rintro e w4 ⟨rfl, hT4, hR4⟩
            have HP4 := Lib.hid (HPl.out.turned hT4 hR4.kn)
            replace B15 := hT4.box0 B15
            have hsz4 := hT4.size
            clear c11 t11 c15 t15 B11 hT4 hR4 HPl HRl
            gi_wp2
            refine ⟨trivial, ?_⟩
            refine (callsIn_wide.2 (each_mk _ w4)).mono ?_
            rintro e w6 ⟨b1, rfl, hb6, hb1, BE⟩
            have HP6 := Lib.hid (HP4.out.later hb6)
            have HB15 := Lib.hid (B15.later hb6)
            have k1 := BE.lt
            have hsz6 := hb6.size
            have HB96 := Lib.hid (HP6.out.T.box0 HB9.out)
            have HB106 := Lib.hid (HP6.out.T.box0 HB10.out)
            have HT6 := Lib.hid (HP6.out.T.row HT3.out)
            have h10 := HB106.out.lt
            have h36 := HP6.out.T.size
            have HSq := Lib.hid (each_stops 4 b1 (fun j => L.can a j k t) L.st.length w6 BE n6)
            have HNx : Hid (NextP tb t w6 [] w6) := ⟨Below.refl _ _, by simp⟩
            clear HP4 hb6 B15 BE
            gi_wp2
            refine wpIn_rangeFunc_ownG (α := Mem (fun j => L.can a j k t) L.st.length) rfl (by omega) (gf := 54) (lb := #[.pointer (some ⟨b1, 0, none⟩)]) rfl trivial enters_each HSq.out (fun h k => k.trans h) (keep_one k1) (Below.refl _ _) (fun _ => rfl)
              (fun pre W => NextP tb t w6 (pre.map (·.1)) W) (fun cd (_ : List (Mem (fun j => L.can a j k t) L.st.length)) W => cd = .ret ∧ StopP (fun j => L.can a j k t) L.st.length tb t (w.heap.size + 1 + 1) w6 W) nextP_own (fun cd => stopP_own cd) HNx.out ?a1 ?assign ?body ?done ?stop
            case assign =>
              intro l z W K hK
              gi_wp2
              exact hK
            case body =>
              rintro l pre z W ⟨hbW, hall⟩ hlen
              obtain ⟨zn, hzn⟩ : ∃ zn : Nat, zn = z.1 := ⟨_, rfl⟩
              obtain ⟨hz1, hz2⟩ := z.2
              rw [← hzn] at hz1 hz2 ⊢
              have HZn := Lib.hid hzn
              have HZ2 := Lib.hid hz2
              have HbW := Lib.hid hbW
              have HAll := Lib.hid hall
              have hztl : zn < tl.length := by have := HLen.out; omega
              have B9 := HB96.out.later hbW
              have B10 := HB106.out.later hbW
              have B15 := HB15.out.later hbW
              obtain ⟨p2, o2, hp2, hC2⟩ := RowAt.at (RowAt.later HT6.out hbW) hztl
              cases hp2
              have ez := cells_one hC2 (HAt.out zn hztl)
              have tz := block_lt_of_cell ez
              have r8 : (0 : Int) ≤ (zn : Int) := by omega
              have r9 : (zn : Int) < (tl.length : Int) := by omega
              have c9 := B9.cell; have t9 := B9.lt; have c10 := B10.cell; have t10 := B10.lt; have c15 := B15.cell; have t15 := B15.lt
              have f10 := B10.frozen
              have HB10W := Lib.hid B10
              clear hzn hz2 hbW hall hC2 B9 B10 B15
              by_cases hle : tb zn ≤ (t : Int) + 1
              · gi_upto_region 12 with fail
                refine Fat.R.wpIn_region_tail 7 (by kernel_rfl) (by kernel_rfl) (by kernel_rfl) ?_
                simp only [List.take_succ_cons, List.drop_succ_cons, List.take_nil, List.drop_nil]
                repeat (go_big_quiet_step (fail))
                refine wpQuiet_nil ?_
                intro W4 hb4
                have hk4 : KeepsOthers W W4 := ⟨hb4.size, fun k _ hk _ => (hb4.block k (Array.getElem?_eq_some_iff.1 hk).1).trans hk⟩
                have HK4 := Lib.hid (hk4.from w6.heap.size)
                have HB1 : Hid (W4.heap[b1]? = W.heap[b1]?) := hb4.block b1 (Nat.lt_of_lt_of_le k1 HbW.out.size)
                have HN4 := Lib.hid (over HbW.out hb4)
                clear hk4 hb4 c9 t9 c10 t10 c15 t15 f10 ez tz
                gi_wp2
                refine ⟨HK4.out, HB1.out, HN4.out, fun y hy => ?_⟩
                rcases mem_snoc hy with hy | hy
                · exact HAll.out y hy
                · rw [hy, ← HZn.out]; exact hle
              · gi_upto_region 12 with fail
                refine Fat.R.wpIn_region_tail 7 (by kernel_rfl) (by kernel_rfl) (by kernel_rfl) ?_
                simp only [List.take_succ_cons, List.drop_succ_cons, List.take_nil, List.drop_nil]
                repeat (go_big_quiet_step (fail))
                refine wpQuiet_nil ?_
                intro W4 hb4
                have hk4 : KeepsOthers W W4 := ⟨hb4.size, fun k _ hk _ => (hb4.block k (Array.getElem?_eq_some_iff.1 hk).1).trans hk⟩
                have HK4 := Lib.hid ((hk4.trans (KeepsOthers.setCell W4 ⟨w.heap.size + 1 + 1, 0, none⟩ (.bool false))).from w6.heap.size)
                have HN4 := Lib.hid (over HbW.out hb4)
                have HNle := Lib.hid hle
                have B10 := HB10W.out.later hb4
                clear hk4 hb4 c9 t9 c10 t10 c15 t15 f10 ez tz hle
                have c10 := B10.cell; have t10 := B10.lt
                have f10 := B10.frozen
                gi_wp2
                exact ⟨HK4.out, rfl, W4, zn, HN4.out, Below.refl _ _, hz1, HZ2.out, by have := HNle.out; omega⟩
            case done =>
              rintro D ys W1 hD hys ⟨hbW, hall⟩ hK
              have HPd := Lib.hid (HP6.out.cons hbW (by omega) hD hK)
              have HOk3 : Hid (∀ h, t0 ≤ h → h < t + 1 → ∀ b, b < L.st.length → L.can a b k h = true → tb b ≤ (h : Int) + 1) := fun h h1 h2 b h3 h4 => by
                rcases Nat.lt_succ_iff_lt_or_eq.1 h2 with h5 | rfl
                · exact HOk2.out h h1 h5 b h3 h4
                · exact hall b (by rw [hys]; exact selN_mem.2 ⟨h3, h4⟩)
              have B15 := HB15.out.later hbW
              have hs1 := hbW.size
              clear hbW hall hys hK HOk2
              have c15 := B15.cell; have t15 := B15.lt
              gi_upto_region 9 with fail
              refine named1 (p := Code.wpIn _ _ _ _ _ _) ?_
              intro W5 hb5 B16
              have c16 := B16.cell
              have t16 := B16.lt
              have f16 := B16.frozen
              have HP5 := Lib.hid (HPd.out.later hb5)
              have hbut := setCell_but W5 W1.heap.size 0 (.int .i64 ((t : Int) + 1))
              have HB16 := Lib.hid (setCell_box B16 0 (.int .i64 ((t : Int) + 1)))
              have HP7 := Lib.hid (HP5.out.but hbut B16 (by omega))
              clear c15 t15 B15 hb5 hbut HP5 HPd
              gi_wp2
              go_roundw
              case rel =>
                (repeat apply Exists.intro)
                refine ⟨?_, rfl⟩
                exact ⟨t + 1, W1.heap.size, rfl, HP7.out, HB16.out, by omega, by omega, by omega, HOk3.out⟩
              case measure =>
                have h1 := ptrNum_at HB16.out
                have h2 := HMs2.out
                show L.sn.length + 2 - ptrNum (.pointer (some ⟨W1.heap.size, 0, none⟩)) _ < L.sn.length + 2 - ptrNum (.pointer (some ⟨b15, 0, none⟩)) _
                rw [h1, h2]
                omega
            case stop =>
              rintro D c pre W1 hD _ ⟨rfl, W4, z, h1, h2, h3, h4, h5⟩ hK
              have hv : v = false := HBad.out a t z han (by rw [← HT0.out]; omega) hlt h3 h4 (by omega)
              subst hv
              have hB : Box W1 (w.heap.size + 1 + 1) #[.bool false] 4 := (h2.block _ h10).trans (setCell_box (HB106.out.later h1) 0 (.bool false))
              have hm1 : Marks w.heap.size ds W1 := HP6.out.M.keep fun E hE => by
                have hlt := (Array.getElem?_eq_some_iff.1 hE).1
                have hne : E ≠ w.heap.size + 1 + 1 := fun e => by
                  rw [e, show w6.heap[w.heap.size + 1 + 1]? = _ from HB106.out] at hE; cases hE
                exact ((h2.block E hlt).trans ((setCell_but W4 (w.heap.size + 1 + 1) 0 (.bool false)).block E hne)).trans (h1.block E hlt)
              have hm2 : Marks w.heap.size (markOf D :: ds) W1 := hm1.cons (by omega) hK fun d hd => by
                obtain ⟨Ds, g1, _, g3⟩ := HP6.out.M
                rw [g1] at hd
                obtain ⟨E, hE, rfl⟩ := List.mem_map.1 hd
                intro e
                have g4 := (Array.getElem?_eq_some_iff.1 (g3 E hE).2).1
                have := markOf_inj e
                omega
              have hb6 := over_turn HW3.out HP6.out.T HP6.out.K HN0.out
              have hb7 := (setCell_but W4 (w.heap.size + 1 + 1) 0 (.bool false)).below (over hb6 h1) (by omega)
              have hb8 : Below w.heap.size w W1 := hb7.trans (h2.mono (by omega))
              gi_wp2
              exact prove_end hB hm2 hb8 rfl
          · have hd : decide ((t : Int) < (L.sn.length : Int)) = false := by simp; omega
            gi_upto_region 8 with fail
            refine Fat.wpIn_region_tail 4 (by kernel_rfl) (by kernel_rfl) ?_
            simp only [List.take_succ_cons, List.drop_succ_cons, List.take_nil, List.drop_nil]
            repeat (go_big_quiet_step (exact Calls.regrown_of (HEn.out _ (below_regrown _ _ _))))
            refine wpQuiet_nil ?_
            intro wl hbl
            have HPl := Lib.hid (HP.out.later hbl)
            have HOk3 : Hid (∀ x, x < a + 1 → okA (fun a b h => L.can a b k h) L.st.length L.sn.length tb x) := fun x hx => by
              rcases Nat.lt_succ_iff_lt_or_eq.1 hx with h | rfl
              · exact HOk.out x h
              · intro h b h1 h2 h3 h4
                rw [← HT0.out] at h1
                exact HOk2.out h (by omega) (by omega) b h3 h4
            clear c11 t11 c15 t15 B11 B15 HP HRel hbl HEn HOk2 HOk
            gi_wp2
            go_roundw
            case rel =>
              (repeat apply Exists.intro)
              refine ⟨?_, rfl⟩
              exact ⟨a + 1, by omega, by go_num, HPl.out, HOk3.out⟩
            case measure => simp [intOf]; omega
      · obtain rfl : a = tl.length := by omega
        have hfl : f < tl.length := by have := HLen.out; omega
        obtain ⟨p1, o1, rfl, hC1⟩ := RowAt.at hRow hfl
        have e0 := cells_one hC1 (HAt.out f hfl)
        have z1 := block_lt_of_cell e0
        have r3 : (0 : Int) ≤ (f : Int) := by omega
        have r4 : (f : Int) < (tl.length : Int) := by omega
        have hv := HEnd.out (closB_iff.2 fun x hx => HOk.out x (by have := HLen.out; omega))
        have HVv := Lib.hid hv
        have B10 := HP.out.T.box0 HB10.out
        have HM := Lib.hid (HP.out.M.but B10 (setCell_but wo (w.heap.size + 1 + 1) 0 (.bool (decide (tb f ≤ (s : Int))))))
        have HS := Lib.hid (setCell_box B10 0 (.bool (decide (tb f ≤ (s : Int)))))
        have HW := Lib.hid ((setCell_but wo (w.heap.size + 1 + 1) 0 (.bool (decide (tb f ≤ (s : Int))))).below (over_turn HW3.out HP.out.T HP.out.K HN0.out) (by omega))
        have c9 := B9.cell; have t9 := B9.lt; have c10 := B10.cell; have t10 := B10.lt
        have f10 := B10.frozen
        clear hRow hC1 hv HP HOk B9 B10
        gi_wp2
        rw [HVv.out]
        exact prove_end HS.out HM.out HW.out rfl
end Go.Proofs.Ytfihdaoakfdlpaa
