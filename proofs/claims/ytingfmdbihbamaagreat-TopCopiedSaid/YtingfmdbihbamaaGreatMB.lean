import Derived.Test.YtingfmdbihbamaaGreatMA
import Derived.WalkMore
import Derived.Deep.LoopGhost
section
/- A land at work, the walks: the first case in which a station cannot flash. -/
open Go.RowKit
namespace Go.Proofs.YtingfmdbihbamaaGreat
open Go.Hill


/-! ### A list of hours -/
/-- As wpList_grow, and where the new row lies. -/
theorem wpList_grow2 {P : Program} {ops : Array Oper} {rest : List Oper} {o : Oper} {a : Act} {W : World} {Q : Exit → Act → World → Prop} (hgd : o.guard = none) (s x : Operand) (t : TypeId)
    (ho : o.op = .call { callee := .builtin .append, args := #[s, x], argTypes := #[t, t] })
    {base : Nat} {E : TypeId} {size bytes : Nat} (he : Elem P t E size bytes) {v : Value} {xs : List (List Value)} (hs : a.eval s = v) (hown : Own W base E size v xs)
    {g c : Nat} {cells : Array Value} (hx : a.eval x = .slice (some ⟨g, 0, none⟩) 1 c) (hB : Box W g cells E) (hsz : cells.size = size) (h0 : 0 < size) (h1 : cells.toList.all (·.oneCell') = true)
    {n : Nat} (hnn : xs.length = n) (hn : n ≤ 1000) (hby : bytes ≤ 1000) (hbase : base ≤ W.heap.size)
    (h : ∀ a' c' W', Own W' base E size (.slice a' (n + 1) c') (xs ++ [cells.toList]) → Below base W W' → W.grownBy W' v.ownBlock → (∀ g, (Value.slice a' (n + 1) c').ownBlock = some g → v.ownBlock = some g ∨ W.heap.size ≤ g) →
      wpList P ops Q rest (a.put o.dst (.slice a' (n + 1) c')) W') : wpList P ops Q (o :: rest) a W := by
  subst hnn
  obtain ⟨i, z, hi, hz, i1, i2, i3⟩ := he.get
  refine wpList_append_lies W hgd s x t ho base E i z size bytes he.ht hi hz i1 i2 i3 h0 v xs.length xs.flatten hs hown.1 ⟨g, 0, none⟩ 1 c cells.toList hx (by simp [hsz]) (World.news_of_block hB) (fun u hu => List.all_eq_true.1 h1 u hu) (by omega) (by unfold maxLen; omega) ?_ hbase _ rfl ?_
  · have : (xs.length + 1) * bytes ≤ 1001 * 1000 := Nat.mul_le_mul (by omega) hby
    omega
  · intro g' cap w' h2 h3 h4 h5
    refine h _ _ _ ⟨?_, ?_⟩ (below_grown h3 hbase fun k hk => (hown.1.lt k hk).1) h3 (fun k hk => ?_)
    · simpa using h2
    · intro y hy
      rcases List.mem_append.1 hy with hy | hy
      · exact hown.2 y hy
      · simp at hy; subst hy; simpa using hsz
    · cases hk
      rcases h4 with h4 | h4
      · exact .inl h4
      · exact .inr (show W.heap.size ≤ g' by omega)
end Go.Proofs.YtingfmdbihbamaaGreat
end

section
/- A land at work, the walks: the hours for which a test is true; the tests. -/
open Go.RowKit
namespace Go.Proofs.YtingfmdbihbamaaGreat
open Go.Hill

theorem Own.grown {W W' : World} {bm base : Nat} {E : TypeId} {size : Nat} {v : Value} {xs : List (List Value)} {es : Array MapEntry} {clock : Nat} (h : Own W base E size v xs) (hm : MapIs W bm es clock) (hg : W.grownBy W' (some bm)) : Own W' base E size v xs := by
  refine h.turn fun k hk => hg.block k (h.1.lt k hk).2 fun he => ?_
  simp only [Option.some.injEq] at he
  subst he
  rcases h.1.2 with ⟨hv, _⟩ | ⟨g, cap, cur, hv, _, h3, _⟩
  · rw [hv] at hk; cases hk
  · rw [hv] at hk; cases hk
    have h4 : W.heap[g]? = some (.map es clock) := hm
    rw [h3] at h4; cases h4
theorem WorkAt.own {W W' : World} {bw bm : Nat} {q : LV} {L : Land} {av : Nat → Prop} (h : WorkAt W bw bm q L av) {base : Nat} {E : TypeId} {size : Nat} {v : Value} {xs : List (List Value)} (ho : Own W base E size v xs) (hg : W.grownBy W' (some bm)) : Own W' base E size v xs := by
  obtain ⟨es, clock, h1, _⟩ := h.memo
  exact ho.grown h1 hg
theorem Own.noMap {W : World} {bm base : Nat} {E : TypeId} {size : Nat} {v : Value} {xs : List (List Value)} {es : Array MapEntry} {clock : Nat} (h : Own W base E size v xs) (hm : MapIs W bm es clock) : v.ownBlock ≠ some bm := by
  intro hk
  rcases h.1.2 with ⟨hv, _⟩ | ⟨g, cap, cur, hv, _, h3, _⟩
  · rw [hv] at hk; cases hk
  · rw [hv] at hk; cases hk
    have h4 : W.heap[g]? = some (.map es clock) := hm
    rw [h3] at h4; cases h4

/-- A list of the call's own grows beside the work. -/
theorem work_grow {W w6 W' : World} {bw bm : Nat} {q : LV} {L : Land} {av av0 : Nat → Prop} {E : TypeId} {size : Nat} {v v' : Value} {xs : List (List Value)} (h0 : WorkAt W bw bm q L av0) (hg : W.grownBy w6 (some bm))
    (hw6 : WorkAt w6 bw bm q L (fun b => av b ∨ v.ownBlock = some b)) (hO : Own w6 W.heap.size E size v xs) (hg' : w6.grownBy W' v.ownBlock) (hnew : ∀ g, v'.ownBlock = some g → v.ownBlock = some g ∨ w6.heap.size ≤ g) :
    W.grownBy W' (some bm) ∧ WorkAt W' bw bm q L (fun b => av b ∨ v'.ownBlock = some b) := by
  obtain ⟨es, clock, hm, _⟩ := hw6.memo
  have hnm := hO.noMap hm
  have hbase : ∀ k, v.ownBlock = some k → W.heap.size ≤ k := fun k hk => (hO.1.lt k hk).1
  have hgr : W.grownBy W' (some bm) := ⟨hg'.os.trans hg.os, hg'.tape.trans hg.tape, hg'.output.trans hg.output, Nat.le_trans hg.size hg'.size, fun k hk hne => by
    rw [hg'.block k (Nat.lt_of_lt_of_le hk hg.size) (fun e => by have := hbase k e.symm; omega)]
    exact hg.block k hk hne⟩
  refine ⟨hgr, h0.grown hgr ?_⟩
  have h1 : Memo w6 bm L (fun b => (av b ∨ v.ownBlock = some b) ∨ v'.ownBlock = some b) := hw6.memo.more _ fun b hb => by
    rcases hb with hb | hb
    · exact .inl hb
    · rcases hnew b hb with h | h
      · exact .inl (.inr h)
      · exact .inr h
  refine (h1.same (W' := W') fun k hk hor => hg'.block k hk fun e => ?_).more _ fun b hb => ?_
  · rcases hor with h | h
    · exact h (.inl (.inr e.symm))
    · subst h; exact hnm e.symm
  · rcases hb with hb | hb
    · exact .inl (.inl (.inl hb))
    · exact .inl (.inr hb)

def RetList (l : List Int) (bm : Nat) (w : World) (e : Ending) (w' : World) : Prop :=
  ∃ a c, e = .returned (.slice a l.length c) ∧ w.grownBy w' (some bm) ∧ IntsAt w' a l


end Go.Proofs.YtingfmdbihbamaaGreat
end

section
/- A land at work, the walks: the test of Always. -/
open Go.RowKit
namespace Go.Proofs.YtingfmdbihbamaaGreat
open Go.Hill

end Go.Proofs.YtingfmdbihbamaaGreat
end

section
/- The exported functions of the program, the walks: why; where it sticks; how many mirrors. -/
open Go.RowKit
namespace Go.Proofs.YtingfmdbihbamaaGreat
open Go.Hill

/-- The answers, or the error. -/
def Land.ask2 (L : Land) (fr to k t : Int) : Int := askd L.st.length L.cs.length L.sn.length fr to k t
def Land.whyE (L : Land) (fr to k t : Int) : Int × Int × Int := if L.chk = 0 then (if Land.ask2 L fr to k t = 0 then ((L.why fr.toNat to.toNat k.toNat t.toNat).1, (L.why fr.toNat to.toNat k.toNat t.toNat).2, 0) else (0, 0, Land.ask2 L fr to k t)) else (0, 0, L.chk)
def Land.stickE (L : Land) (fr to t : Int) : Int × Int :=
  if L.chk = 0 then (if Land.ask2 L fr to 0 t = 0 then (if L.stick fr.toNat to.toNat t.toNat = L.cs.length then (0, 7) else ((L.stick fr.toNat to.toNat t.toNat : Nat), 0)) else (0, Land.ask2 L fr to 0 t)) else (0, L.chk)
def Land.mirE (L : Land) (fr to t : Int) : Int × Int :=
  if L.chk = 0 then (if Land.ask2 L fr to 0 t = 0 then (if L.up t.toNat = false then (0, 7) else (L.need fr.toNat to.toNat t.toNat, 0)) else (0, Land.ask2 L fr to 0 t)) else (0, L.chk)





end Go.Proofs.YtingfmdbihbamaaGreat
end

section
/- The exported functions of the program, the walks: the hours; whom it reaches. -/
open Go.RowKit
namespace Go.Proofs.YtingfmdbihbamaaGreat
open Go.Hill

def Land.hrsE (L : Land) (fr to k : Int) : List Int × Int :=
  if L.chk = 0 then (if Land.ask2 L fr to k 0 = 0 then (L.hrs fr.toNat to.toNat k.toNat, 0) else ([], Land.ask2 L fr to k 0)) else ([], L.chk)
def Land.alwE (L : Land) (fr to : Int) : List Int × Int :=
  if L.chk = 0 then (if Land.ask2 L fr to 0 0 = 0 then (L.alw fr.toNat to.toNat, 0) else ([], Land.ask2 L fr to 0 0)) else ([], L.chk)
def Land.rchE (L : Land) (fr k t : Int) : List Int × Int :=
  if L.chk = 0 then (if Land.ask2 L fr fr k t = 2 then ([], 2) else (L.rch fr.toNat k.toNat t.toNat, 0)) else ([], L.chk)
/-- It returns a list, and an error. -/
def RetL (r : List Int × Int) (w : World) (e : Ending) (w' : World) : Prop :=
  ∃ a c, e = .returned (.tuple #[.slice a r.1.length c, .int .i64 r.2]) ∧ Below w.heap.size w w' ∧ IntsAt w' a r.1


theorem askd_same {n m h : Nat} {fr k t : Int} (e : askd n m h fr fr k t ≠ 2) : ∃ i c d : Nat, fr = i ∧ k = c ∧ t = d ∧ i < n ∧ c < m ∧ d < h := by
  unfold askd at e
  split at e
  · rename_i hh
    simp [inB] at hh
    exact ⟨fr.toNat, k.toNat, t.toNat, by omega, by omega, by omega, by omega, by omega, by omega⟩
  · exact absurd rfl e

set_option maxRecDepth 100000 in
set_option maxHeartbeats 2000000 in
theorem Reach_any (q : LV) (L : Land) (fr k t : Int) (w : World) (hL : LandAt w q L) (hs : Small L) :
    Calls Tryz.prog 70 #[landV q L, .int .i64 fr, .int .i64 k, .int .i64 t] w (RetL (Land.rchE L fr k t) w) := by
  have HL := Lib.hid hL
  clear hL
  by_cases hc : L.chk = 0
  case neg =>
    rw [show Land.rchE L fr k t = ([], L.chk) by unfold Land.rchE; rw [if_neg hc]]
    go_enter Tryz.func70, Tryz.ntmps70
    go_wp2_with fail
    refine named1 (p := fun W => Calls _ _ _ W _) ?_
    intro W hW B1
    have HNo := Lib.hid (work_no q L W (HL.out.later hW) hs hc)
    have hcb : (L.chk != 0) = true := by simpa using hc
    generalize L.chk = c at *
    clear hc
    refine HNo.out.mono ?_
    rintro e w1 ⟨rfl, hb1⟩
    replace hW := over hW hb1
    clear hb1 HNo B1
    go_wp2_with fail
    go_ret2
    exact ⟨none, 0, rfl, hW, .inl rfl⟩
  obtain ⟨r, hr⟩ : ∃ r, r = Land.rchE L fr k t := ⟨_, rfl⟩
  rw [← hr]
  rw [Land.rchE, if_pos hc] at hr
  have HR := Lib.hid hr
  have HC := Lib.hid hc
  clear hr
  have l1 := hs.l1
  go_enter Tryz.func70, Tryz.ntmps70
  go_wp2_with fail
  refine named1 (p := fun W => Calls _ _ _ W _) ?_
  intro W hW B1
  refine (work_yes q L (fun _ => False) W (HL.out.later hW) hs hc).mono ?_
  rintro e w1 ⟨bw, bm, rfl, hb1, hw1, hbw, hbm⟩
  have HBw := Lib.hid (show w.heap.size ≤ bm from Nat.le_trans hW.size hbm)
  replace hW := over hW hb1
  (try clear c1 t1); replace B1 := B1.later hb1; have c1 := B1.cell; have t1 := B1.lt
  have HW1 := Lib.hid hw1
  clear hw1 hb1 hbw hbm
  go_wp2_with fail
  obtain ⟨ak, hak⟩ : ∃ ak, ak = Land.ask2 L fr fr k t := ⟨_, rfl⟩
  have HAsk : Hid (∀ w', Calls Tryz.prog 102 #[landV q L, .agg #[.int .i64 fr, .int .i64 fr], .int .i64 k, .int .i64 t] w' (Ret (.int .i64 ak) w')) := fun w' => by rw [hak]; exact asked_any q _ _ _ _ fr fr k t w' hs.l1 hs.l3 hs.l4
  have HAk := Lib.hid hak
  clear hak
  refine (HAsk.out _).mono ?_
  rintro e w3 ⟨rfl, hb3⟩
  replace hW := over hW hb3
  (try clear c1 t1); replace B1 := B1.later hb3; have c1 := B1.cell; have t1 := B1.lt
  have HW3 := Lib.hid (HW1.out.later hb3)
  clear hb3 HW1 HAsk
  by_cases h0 : ak = 2
  · subst h0
    have HR2 := Lib.hid (HR.out.trans (if_pos HAk.out.symm))
    go_wp2_with fail
    go_ret2
    obtain rfl := HR2.out
    exact ⟨none, 0, rfl, hW, .inl rfl⟩
  · have h1 : askd L.st.length L.cs.length L.sn.length fr fr k t ≠ 2 := fun e => h0 (HAk.out.trans e)
    obtain ⟨i, c, d, rfl, rfl, rfl, hi, hk, ht⟩ := askd_same h1
    have HR2 := Lib.hid (HR.out.trans (if_neg (by rw [← HAk.out]; exact h0)))
    simp only [Int.toNat_natCast] at HR2
    have h0b : (ak == 2) = false := by simpa using h0
    clear h1 HR h0
    obtain ⟨W, rfl⟩ : ∃ W : World, W = w3 := ⟨_, rfl⟩
    go_wp2_with fail
    go_loopw [13, 36] (fun v i' wr => ∃ n : Nat, n ≤ L.st.length ∧ i' = .int .i64 n ∧ W.grownBy wr (some bm) ∧ WorkAt wr bw bm q L (fun b => False ∨ v.ownBlock = some b) ∧ Own wr W.heap.size 3 1 v (ivs (sel (fun j => L.can i j c d) n))) (fun _ i' _ => L.st.length - (intOf i').toNat)
    case atStart => exact ⟨0, Nat.zero_le _, rfl, Below.grown (Below.refl _ _) _, HW3.out.more _ (fun b hb => by rcases hb with hb | hb; exact hb.elim; cases hb), Own.nil _ _ _ _⟩
    case round =>
      obtain ⟨n, hn, rfl, hg, hwr, ho⟩ := hrel
      have HWr := Lib.hid hwr
      have HG := Lib.hid hg
      have HO := Lib.hid ho
      have hsz := hg.size
      by_cases hlt : n < L.st.length
      · obtain ⟨pv, hpv⟩ : ∃ pv, pv = L.can i n c d := ⟨_, rfl⟩
        have HPv := Lib.hid hpv
        have hcall := can_any bw bm q L _ i n c d wr hwr (fun b hb => by
          rcases hb with hb | hb
          · exact hb.elim
          · exact (ho.1.lt b hb).2) HC.out hi hlt hk ht
        rw [← hpv] at hcall
        have HCall := Lib.hid hcall
        clear hcall hpv hg hwr ho
        go_wp2_with fail
        refine HCall.out.mono ?_
        rintro e w2 ⟨rfl, hg2, hw2⟩
        have HG2 := Lib.hid (grown_trans HG.out hg2)
        have HW2 := Lib.hid hw2
        have HO2 := Lib.hid (HWr.out.own HO.out hg2)
        have hb2 := HG2.out.size
        clear hg2 hw2 HCall
        cases pv with
        | false =>
          go_wp2_with fail
          go_roundw
          case rel => exact ⟨n + 1, by omega, by go_num, HG2.out, HW2.out, by rw [sel_no (p := fun j => L.can i j c d) (n := n) HPv.out.symm]; exact HO2.out⟩
          case measure => simp [intOf]; omega
        | true =>
          have hnl := sel_len (fun j => L.can i j c d) n
          go_wp2_with (at_builtin; refine named1 (p := wpList _ _ _ _ _) ?_; intro w6 hb6 B53; have hO := HO2.out.later hb6; refine wpList_grow2 rfl (.tmp 46) (.tmp 48) 41 rfl elem_int rfl hO rfl B53 rfl (by omega) rfl (n := (sel (fun j => L.can i j c d) n).length) (by simp) (by omega) (by omega) (Nat.le_trans hb2 hb6.size) ?_; intro a' c' W' hO' hb' hg' hnew; have hfin := work_grow HW3.out (grown_trans HG2.out (Below.grown hb6 _)) (HW2.out.later hb6) hO hg' hnew; have HFin := Lib.hid hfin; clear hfin hg' hnew hO B53 hb' hb6)
          have HN : Hid (Own W' W.heap.size 3 1 (.slice a' ((sel (fun j => L.can i j c d) n).length + 1) c') (ivs (sel (fun j => L.can i j c d) (n + 1)))) := by
            rw [Hid, sel_yes (p := fun j => L.can i j c d) (n := n) HPv.out.symm, ivs, List.map_append]; exact hO'
          clear hO'
          go_roundw
          case rel => exact ⟨n + 1, by omega, by go_num, HFin.out.1, HFin.out.2, HN.out⟩
          case measure => simp [intOf]; omega
      · obtain rfl : n = L.st.length := by omega
        obtain ⟨ra, rc, rfl, _, hr⟩ := ho.row
        rw [List.length_map]
        have HRr := Lib.hid hr
        clear hr ho HO hwr HWr hg
        go_wp2_with fail
        go_ret2
        obtain rfl := HR2.out
        exact ⟨ra, rc, rfl, hW.trans (below_grown HG.out hW.size (fun k hk => by cases hk; exact HBw.out)), HRr.out⟩
end Go.Proofs.YtingfmdbihbamaaGreat
end
