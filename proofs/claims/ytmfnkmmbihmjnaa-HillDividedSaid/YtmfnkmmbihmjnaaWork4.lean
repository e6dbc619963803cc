/- A land at work, the walks: the hours for which a test is true; the tests. -/
import Derived.Test.YtmfnkmmbihmjnaaWork3
open Go.RowKit
namespace Go.Proofs.Ytmfnkmmbihmjnaa
open Go.Hill

theorem Own.grown {W W' : World} {bm base : Nat} {E : TypeId} {size : Nat} {v : Value} {xs : List (List Value)} {es : Array MapEntry} {clock : Nat} (h : Own W base E size v xs) (hm : MapIs W bm es clock) (hg : W.grownBy W' (some bm)) : Own W' base E size v xs := by
  refine h.turn fun k hk => hg.block k (h.1.lt k hk).2 fun he => ?_
  simp only [Option.some.injEq] at he
  subst he
  rcases h.1.2 with ⟨hv, _⟩ | ⟨g, cap, cur, hv, _, h3, _⟩
  · rw [hv] at hk; cases hk
  · rw [hv] at hk; cases hk
    have h4 : W.heap[g]? = some (.map es clock) := hm
    rw [h3] at h4; cases h4
theorem WorkAt.own {W W' : World} {bw bm : Nat} {q : LV} {L : Land} {av : Nat → Prop} (h : WorkAt W bw bm q L av) {base : Nat} {E : TypeId} {size : Nat} {v : Value} {xs : List (List Value)} (ho : Own W base E size v xs) (hg : W.grownBy W' (some bm)) : Own W' base E size v xs := by
  obtain ⟨es, clock, h1, _⟩ := h.memo
  exact ho.grown h1 hg
theorem Own.noMap {W : World} {bm base : Nat} {E : TypeId} {size : Nat} {v : Value} {xs : List (List Value)} {es : Array MapEntry} {clock : Nat} (h : Own W base E size v xs) (hm : MapIs W bm es clock) : v.ownBlock ≠ some bm := by
  intro hk
  rcases h.1.2 with ⟨hv, _⟩ | ⟨g, cap, cur, hv, _, h3, _⟩
  · rw [hv] at hk; cases hk
  · rw [hv] at hk; cases hk
    have h4 : W.heap[g]? = some (.map es clock) := hm
    rw [h3] at h4; cases h4

/-- A list of the call's own grows beside the work. -/
theorem work_grow {W w6 W' : World} {bw bm : Nat} {q : LV} {L : Land} {av av0 : Nat → Prop} {E : TypeId} {size : Nat} {v v' : Value} {xs : List (List Value)} (h0 : WorkAt W bw bm q L av0) (hg : W.grownBy w6 (some bm))
    (hw6 : WorkAt w6 bw bm q L (fun b => av b ∨ v.ownBlock = some b)) (hO : Own w6 W.heap.size E size v xs) (hg' : w6.grownBy W' v.ownBlock) (hnew : ∀ g, v'.ownBlock = some g → v.ownBlock = some g ∨ w6.heap.size ≤ g) :
    W.grownBy W' (some bm) ∧ WorkAt W' bw bm q L (fun b => av b ∨ v'.ownBlock = some b) := by
  obtain ⟨es, clock, hm, _⟩ := hw6.memo
  have hnm := hO.noMap hm
  have hbase : ∀ k, v.ownBlock = some k → W.heap.size ≤ k := fun k hk => (hO.1.lt k hk).1
  have hgr : W.grownBy W' (some bm) := ⟨hg'.os.trans hg.os, hg'.tape.trans hg.tape, hg'.output.trans hg.output, Nat.le_trans hg.size hg'.size, fun k hk hne => by
    rw [hg'.block k (Nat.lt_of_lt_of_le hk hg.size) (fun e => by have := hbase k e.symm; omega)]
    exact hg.block k hk hne⟩
  refine ⟨hgr, h0.grown hgr ?_⟩
  have h1 : Memo w6 bm L (fun b => (av b ∨ v.ownBlock = some b) ∨ v'.ownBlock = some b) := hw6.memo.more _ fun b hb => by
    rcases hb with hb | hb
    · exact .inl hb
    · rcases hnew b hb with h | h
      · exact .inl (.inr h)
      · exact .inr h
  refine (h1.same (W' := W') fun k hk hor => hg'.block k hk fun e => ?_).more _ fun b hb => ?_
  · rcases hor with h | h
    · exact h (.inl (.inr e.symm))
    · subst h; exact hnm e.symm
  · rcases hb with hb | hb
    · exact .inl (.inl (.inl hb))
    · exact .inl (.inr hb)

def RetList (l : List Int) (bm : Nat) (w : World) (e : Ending) (w' : World) : Prop :=
  ∃ a c, e = .returned (.slice a l.length c) ∧ w.grownBy w' (some bm) ∧ IntsAt w' a l

set_option maxRecDepth 100000 in
set_option maxHeartbeats 1000000 in
theorem hours_any (bw bm : Nat) (q : LV) (L : Land) (av : Nat → Prop) (p : Nat → Bool) (f : Nat) (cap : Array Value) (w : World) (hw : WorkAt w bw bm q L av) (hav : ∀ b, av b → b < w.heap.size) (l4 : L.sn.length ≤ 1000)
    (hf : ∀ args w, (callFunc f args).run Try.prog w = .ok (.enter f args) w)
    (hp : ∀ t, t < L.sn.length → ∀ av' W, w.grownBy W (some bm) → WorkAt W bw bm q L av' → (∀ b, av' b → b < W.heap.size) → Calls Try.prog f ((#[] : Array Value).push (.int .i64 (t : Nat)) ++ cap) W (RetW (.bool (p t)) bw bm q L av' W)) :
    Calls Try.prog 59 #[landV q L, .func (.func f) #[] cap] w (RetList (sel p L.sn.length) bm w) := by
  have HW := Lib.hid hw
  have HAv := Lib.hid hav
  have HP := Lib.hid hp
  clear hw hav hp
  go_enter Try.func59, Try.ntmps59
  have hW : Below w.heap.size w (w.alloc (.cells #[.slice q.a1 L.st.length q.c1, .slice q.a2 L.rd.length q.c2, .slice q.a3 L.cs.length q.c3, .slice q.a4 L.sn.length q.c4] 39)) := (by repeat (first | exact Below.refl _ _ | refine al ?_ _ | refine Below.drew ?_ | refine sc ?_ (by simp) _))
  clear hW
  go_wp2_with fail
  refine named1 (p := Code.wp _ _ _ _) ?_
  intro W hW B2
  have HW1 := Lib.hid (HW.out.later hW)
  have hS := hW.size
  have HG0 := Lib.hid (Below.grown hW (some bm))
  clear hW
  go_loopw [4, 9] (fun v i' wr => ∃ n : Nat, n ≤ L.sn.length ∧ i' = .int .i64 n ∧ W.grownBy wr (some bm) ∧ WorkAt wr bw bm q L (fun b => av b ∨ v.ownBlock = some b) ∧ Own wr W.heap.size 3 1 v (ivs (sel p n))) (fun _ i' _ => L.sn.length - (intOf i').toNat)
  case atStart => exact ⟨0, Nat.zero_le _, rfl, Below.grown (Below.refl _ _) _, HW1.out.more _ (fun b hb => by rcases hb with hb | hb; exact .inl hb; cases hb), Own.nil _ _ _ _⟩
  case round =>
    obtain ⟨n, hn, rfl, hg, hwr, ho⟩ := hrel
    have HWr := Lib.hid hwr
    have HG := Lib.hid hg
    have HO := Lib.hid ho
    have hsz := hg.size
    by_cases hlt : n < L.sn.length
    · obtain ⟨pv, hpv⟩ : ∃ pv, pv = p n := ⟨_, rfl⟩
      have HPv := Lib.hid hpv
      have hcall := HP.out n hlt _ wr (grown_trans HG0.out hg) hwr (fun b hb => by
        rcases hb with hb | hb
        · have := HAv.out b hb; omega
        · exact (ho.1.lt b hb).2)
      rw [← hpv] at hcall
      have HCall := Lib.hid hcall
      clear hcall hpv hg hwr ho
      go_wp2_with fail
      refine HCall.out.mono ?_
      rintro e w2 ⟨rfl, hg2, hw2⟩
      have HG2 := Lib.hid (grown_trans HG.out hg2)
      have HW2 := Lib.hid hw2
      have HO2 := Lib.hid (HWr.out.own HO.out hg2)
      have hb2 := HG2.out.size
      clear hg2 hw2 HCall
      cases pv with
      | false =>
        go_wp2_with fail
        go_roundw
        case rel => exact ⟨n + 1, by omega, by go_num, HG2.out, HW2.out, by rw [sel_no HPv.out.symm]; exact HO2.out⟩
        case measure => simp [intOf]; omega
      | true =>
        have hnl := sel_len p n
        go_wp2_with (at_builtin; refine named1 (p := wpList _ _ _ _ _) ?_; intro w6 hb6 B53; have hO := HO2.out.later hb6; refine wpList_grow2 rfl (.tmp 15) (.tmp 17) 30 rfl elem_int rfl hO rfl B53 rfl (by omega) rfl (n := (sel p n).length) (by simp) (by omega) (by omega) (Nat.le_trans hb2 hb6.size) ?_; intro a' c' W' hO' hb' hg' hnew; have hfin := work_grow HW1.out (grown_trans HG2.out (Below.grown hb6 _)) (HW2.out.later hb6) hO hg' hnew; have HFin := Lib.hid hfin; clear hfin hg' hnew hO B53 hb' hb6)
        have HN : Hid (Own W' W.heap.size 3 1 (.slice a' ((sel p n).length + 1) c') (ivs (sel p (n + 1)))) := by
          rw [Hid, sel_yes HPv.out.symm, ivs, List.map_append]; exact hO'
        clear hO'
        go_roundw
        case rel => exact ⟨n + 1, by omega, by go_num, HFin.out.1, HFin.out.2, HN.out⟩
        case measure => simp [intOf]; omega
    · obtain rfl : n = L.sn.length := by omega
      obtain ⟨ra, rc, rfl, _, hr⟩ := ho.row
      rw [List.length_map]
      have HR := Lib.hid hr
      clear hr ho HO hwr HWr hg
      go_wp2_with fail
      go_ret
      exact ⟨ra, rc, rfl, grown_trans HG0.out HG.out, HR.out⟩

theorem hours1_any (bw bm b10 b12 b7 : Nat) (q : LV) (L : Land) (av : Nat → Prop) (i j k t : Nat) (w : World) (hw : WorkAt w bw bm q L av) (hav : ∀ b, av b → b < w.heap.size) (hc : L.chk = 0) (hi : i < L.st.length) (hj : j < L.st.length) (hk : k < L.cs.length) (ht : t < L.sn.length)
    (B10 : Box w b10 #[.pointer (some ⟨bw, 0, none⟩)] 90) (B12 : Box w b12 #[.int .i64 i, .int .i64 j] 95) (B7 : Box w b7 #[.int .i64 k] 3) :
    Calls Try.prog 60 #[.int .i64 t, .pointer (some ⟨b10, 0, none⟩), .pointer (some ⟨b12, 0, none⟩), .pointer (some ⟨b7, 0, none⟩)] w (RetW (.bool (L.can i j k t)) bw bm q L av w) := by
  have HC := Lib.hid (can_any bw bm q L av i j k t w hw hav hc hi hj hk ht)
  have c10 := B10.cell
  have c12 := B12.cell
  have c7 := B7.cell
  clear hw hav hc
  generalize L.can i j k t = v at *
  go_enter Try.func60, Try.ntmps60
  go_wp2_with fail
  refine HC.out.mono ?_
  rintro e w1 ⟨rfl, hg, hw1⟩
  have HG := Lib.hid hg
  have HW := Lib.hid hw1
  clear hg hw1
  go_wp2_with fail
  go_ret
  exact ⟨rfl, HG.out, HW.out⟩
end Go.Proofs.Ytmfnkmmbihmjnaa
