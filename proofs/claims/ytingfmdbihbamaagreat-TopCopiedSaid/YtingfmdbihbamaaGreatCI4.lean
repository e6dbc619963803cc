/- Layer 5, the walks: the earliest and the latest hour of one dispatch that goes by one route. -/
import Derived.Test.YtingfmdbihbamaaGreatCI3
open Go.RowKit Go.Shelf
namespace Go.Proofs.YtingfmdbihbamaaGreat
namespace Cp
open Go.Once

theorem WorkAt.later {W W' : World} {bw bm : Nat} {q : PV} {p : Ps} (h : WorkAt W bw bm q p) (hb : Below W.heap.size W W') : WorkAt W' bw bm q p := ⟨h.box.later hb, h.hrs.later hb⟩
/-- What is looked up, in each later world. -/
theorem WorkAt.look {W : World} {bw bm : Nat} {q : PV} {p : Ps} (h : WorkAt W bw bm q p) {i k : Nat} (hi : i < p.sends.length) (hk : k < p.routes.length) {sd : Int} {r : Rt} (hsd : p.sends[i]? = some sd) (hr : p.routes[k]? = some r) :
    ∃ bs s, SetAt W bs s ∧ GoodSet r sd s ∧ (Instr.lookup 116 (.map (some bm)) (pairV i k) false).run Tryz.prog W = .ok (.pointer (some ⟨bs, 0, none⟩)) W := by
  obtain ⟨es, clock, h1, h2, h3⟩ := h.hrs
  obtain ⟨e, he, hke, hrun⟩ := look_map (HrsAt.pairs h2) i k (h3 i k (.inl hi) hk)
  obtain ⟨i', k', g1, _, bs, s, g3, g4, g5⟩ := h2 e he
  rw [hke] at g1
  obtain ⟨rfl, rfl⟩ := pairV_inj g1
  exact ⟨bs, s, g4, g5 sd r hsd hr, by rw [hrun W bm clock h1, g3]⟩
/-- One dispatch, one route that is not lossy, on which nothing sleeps. -/
structure One (p : Ps) (r : Rt) (sd : Int) : Prop where
  sends : p.sends = [sd]
  routes : p.routes = [r]
  lossy : r.lossy = false
  wake : ∀ l ∈ r.legs, l.as = []
def loE (r : Rt) (sd : Int) : Int := sd + sumLo r.legs r.legs.length
def hiE (r : Rt) (sd : Int) : Int := sd + sumHi r.legs r.legs.length
theorem ends_last {s : Nat → Bool} {lo hi : Nat} (h : Ends s lo hi) : ∀ n, hi < n → lastOf s n = hi
  | 0, hn => by omega
  | n + 1, hn => by
    simp only [lastOf]
    by_cases he : hi = n
    · subst he; rw [if_pos ((h.iff _).2 ⟨h.le, Nat.le_refl _⟩)]
    · rw [if_neg fun hs => by have := (h.iff n).1 hs; omega]
      exact ends_last h n (by omega)
theorem ends_none {s : Nat → Bool} {lo hi : Nat} (h : Ends s lo hi) : ∀ n, n ≤ lo → selN s n = []
  | 0, _ => rfl
  | n + 1, hn => by
    have hf : s n = false := by
      cases hs : s n with
      | false => rfl
      | true => have := (h.iff n).1 hs; omega
    rw [selN_no hf]; exact ends_none h n (by omega)
theorem ends_first {s : Nat → Bool} {lo hi : Nat} (h : Ends s lo hi) : ∀ n, lo < n → (selN s n)[0]? = some lo
  | 0, hn => by omega
  | n + 1, hn => by
    by_cases he : lo = n
    · subst he
      rw [selN_yes ((h.iff _).2 ⟨Nat.le_refl _, h.le⟩), ends_none h lo (Nat.le_refl _)]; rfl
    · have ih := ends_first h n (by omega)
      cases hs : s n with
      | false => rw [selN_no hs]; exact ih
      | true => rw [selN_yes hs, List.getElem?_append_left (List.getElem?_eq_some_iff.1 ih).1]; exact ih
theorem one_ends {p : Ps} {r : Rt} {sd : Int} (h1 : One p r sd) (ho : p.Ok) {s : Nat → Bool} (hg : GoodSet r sd s) : ∃ lo hi : Nat, Ends s lo hi ∧ loE r sd = lo ∧ hiE r sd = hi := by
  have hs := ho.sends sd (by rw [h1.sends]; simp)
  have hr := ho.routes r (by rw [h1.routes]; simp)
  have he := goodSet_ends hg hr h1.wake hs
  refine ⟨_, _, he, ?_, ?_⟩
  · have : ∀ i, i ≤ r.legs.length → 0 ≤ sumLo r.legs i := by
      intro i
      induction i with
      | zero => intro _; exact Int.le_refl _
      | succ i ih =>
        intro hi
        have := ih (by omega)
        obtain ⟨m, hm⟩ : ∃ m, r.legs[i]? = some m := ⟨r.legs[i], by simp⟩
        have := (hr.legs m (List.mem_of_getElem? hm)).tk
        simp only [sumLo, hm]; omega
    have := this _ (Nat.le_refl _)
    unfold loE; omega
  · have : ∀ i, i ≤ r.legs.length → 0 ≤ sumHi r.legs i := by
      intro i
      induction i with
      | zero => intro _; exact Int.le_refl _
      | succ i ih =>
        intro hi
        have := ih (by omega)
        obtain ⟨m, hm⟩ : ∃ m, r.legs[i]? = some m := ⟨r.legs[i], by simp⟩
        have := (hr.legs m (List.mem_of_getElem? hm)).tk
        simp only [sumHi, hm]; omega
    have := this _ (Nat.le_refl _)
    unfold hiE; omega

set_option maxRecDepth 100000 in
set_option maxHeartbeats 4000000 in
theorem latest1_any (bw bm : Nat) (q : PV) (p : Ps) (r : Rt) (sd : Int) (w : World) (hw : WorkAt w bw bm q p) (hB : PostAt w q p) (ho : p.Ok) (h1 : One p r sd) :
    Calls Tryz.prog 27 #[.pointer (some ⟨bw, 0, none⟩), .int .i64 0] w (Ret (.int .i64 (hiE r sd)) w) := by
  have HW := Lib.hid hw
  have HB := Lib.hid hB
  have HO := Lib.hid ho
  have hsd : p.sends[0]? = some sd := by rw [h1.sends]; rfl
  have hpr : p.routes[0]? = some r := by rw [h1.routes]; rfl
  have hi : 0 < p.sends.length := by rw [h1.sends]; simp
  have hk : 0 < p.routes.length := by rw [h1.routes]; simp
  have hrl : q.rs.length = 1 := by have : q.rs.length = p.routes.length := by { rw [← hB.eq]; simp }; rw [this, h1.routes]; rfl
  obtain ⟨x, hx⟩ : ∃ x, q.rs[0]? = some x := ⟨q.rs[0], by simp⟩
  have hxr : x.rt = r := by
    have h2 : p.routes[0]? = some x.rt := by rw [← hB.eq]; simp [hx]
    rw [hpr] at h2; cases h2; rfl
  have HSd := Lib.hid hsd
  have HPr := Lib.hid hpr
  have HOne := Lib.hid h1
  have HX := Lib.hid hx
  have HXr := Lib.hid hxr
  have B0 := hw.box
  clear hw hB ho hsd hpr hx hxr h1
  have c0 := B0.cell; have t0 := B0.lt
  go_enter Tryz.func27, Tryz.ntmps27
  go_wp2_with fail
  clear c0 t0 B0
  go_loopw [5, 14] (fun v i' wr => ((i' = .int .i64 0 ∧ v = .int .i64 101) ∨ (i' = .int .i64 1 ∧ v = .int .i64 (hiE r sd))) ∧ Below w.heap.size w wr) (fun _ i' _ => 1 - (intOf i').toNat)
  case atStart => exact ⟨.inl ⟨rfl, rfl⟩, Below.refl _ _⟩
  case round =>
    obtain ⟨⟨rfl, rfl⟩ | ⟨rfl, rfl⟩, hW⟩ := hrel
    · obtain ⟨pb, po, ea, e0, e1, z1, _⟩ := (HB.out.later hW).route HX.out
      rw [ea]
      have r4 : (0 : Int) < (q.rs.length : Int) := by omega
      simp only [Nat.zero_mul, Nat.add_zero] at e0 e1 z1
      clear ea
      go_upto_region 5 with fail
      refine named1 (p := Code.wp _ _ _ _) ?_
      intro W7 hb7 B7
      replace hW := over hW hb7
      clear e0 e1 z1 hb7
      have c7 := B7.cell; have t7 := B7.lt
      have hlv : x.lossy = false := by
        have h2 := HOne.out.lossy
        rw [← HXr.out] at h2
        exact h2
      rw [hlv] at c7
      clear hlv
      have hw7 := HW.out.later hW
      obtain ⟨bs, s, hS, hg, hlook⟩ := hw7.look hi hk HSd.out HPr.out
      have B0 := hw7.box
      have HS := Lib.hid hS
      have HG := Lib.hid hg
      obtain ⟨lo, hi', hE, e8, e9⟩ := one_ends HOne.out HO.out hg
      have hlast := ends_last hE 101 (by have := hE.bd; omega)
      have HLast := Lib.hid hlast
      have HE9 := Lib.hid e9
      have hb49 := hE.bd
      have HSi := Lib.hid ((hE.iff hi').2 ⟨hE.le, Nat.le_refl _⟩)
      clear hw7 hS hg hE e8 e9 hlast
      rw [show (((0 : Nat) : Int)) = 0 from rfl] at hlook
      have c0 := B0.cell; have t0 := B0.lt
      go_wp2_with fail
      refine (last_any 49 bs s _ HS.out (fun n _ h => HG.out.bd n h) (show hi' < 101 by omega) HSi.out).mono ?_
      rintro e w8 ⟨rfl, hb8⟩
      replace hW := over hW hb8
      rw [HLast.out]
      clear hb8 c7 t7 B7 c0 t0 B0 hlook
      go_wp2_with fail
      refine named1 (p := fun W => Calls _ _ _ W _) ?_
      intro w9 hb9 B9
      replace hW := over hW hb9
      refine (smallest_any 101 (hi' : Nat) _ w9 B9).mono ?_
      rw [show min (101 : Int) (hi' : Nat) = hiE r sd by have := HE9.out; omega]
      rintro e w10 ⟨rfl, hb10⟩
      replace hW := over hW hb10
      clear hb9 hb10 B9
      go_wp2_with fail
      go_roundw
      case rel => exact ⟨.inr ⟨rfl, rfl⟩, hW⟩
      case measure => simp [intOf]
    · go_wp2_with fail
      go_ret
      exact ⟨rfl, hW⟩
set_option maxRecDepth 100000 in
set_option maxHeartbeats 4000000 in
theorem earliest1_any (bw bm : Nat) (q : PV) (p : Ps) (r : Rt) (sd : Int) (w : World) (hw : WorkAt w bw bm q p) (hB : PostAt w q p) (ho : p.Ok) (h1 : One p r sd) :
    Calls Tryz.prog 26 #[.pointer (some ⟨bw, 0, none⟩), .int .i64 0] w (Ret (.int .i64 (loE r sd)) w) := by
  have HW := Lib.hid hw
  have HB := Lib.hid hB
  have HO := Lib.hid ho
  have hsd : p.sends[0]? = some sd := by rw [h1.sends]; rfl
  have hpr : p.routes[0]? = some r := by rw [h1.routes]; rfl
  have hi : 0 < p.sends.length := by rw [h1.sends]; simp
  have hk : 0 < p.routes.length := by rw [h1.routes]; simp
  have hrl : q.rs.length = 1 := by have : q.rs.length = p.routes.length := by { rw [← hB.eq]; simp }; rw [this, h1.routes]; rfl
  obtain ⟨x, hx⟩ : ∃ x, q.rs[0]? = some x := ⟨q.rs[0], by simp⟩
  have hxr : x.rt = r := by
    have h2 : p.routes[0]? = some x.rt := by rw [← hB.eq]; simp [hx]
    rw [hpr] at h2; cases h2; rfl
  have HSd := Lib.hid hsd
  have HPr := Lib.hid hpr
  have HOne := Lib.hid h1
  have HX := Lib.hid hx
  have HXr := Lib.hid hxr
  have B0 := hw.box
  clear hw hB ho hsd hpr hx hxr h1
  have c0 := B0.cell; have t0 := B0.lt
  go_enter Tryz.func26, Tryz.ntmps26
  go_wp2_with fail
  clear c0 t0 B0
  go_loopw [5, 13] (fun v i' wr => ((i' = .int .i64 0 ∧ v = .int .i64 101) ∨ (i' = .int .i64 1 ∧ v = .int .i64 (loE r sd))) ∧ Below w.heap.size w wr) (fun _ i' _ => 1 - (intOf i').toNat)
  case atStart => exact ⟨.inl ⟨rfl, rfl⟩, Below.refl _ _⟩
  case round =>
    obtain ⟨⟨rfl, rfl⟩ | ⟨rfl, rfl⟩, hW⟩ := hrel
    · have r4 : (0 : Int) < (q.rs.length : Int) := by omega
      have hw7 := HW.out.later hW
      obtain ⟨bs, s, hS, hg, hlook⟩ := hw7.look hi hk HSd.out HPr.out
      have B0 := hw7.box
      have HS := Lib.hid hS
      have HG := Lib.hid hg
      obtain ⟨lo, hi', hE, e8, e9⟩ := one_ends HOne.out HO.out hg
      have hfirst := ends_first hE 101 (by have := hE.bd; have := hE.le; omega)
      have HFirst : Hid ((hoursOf s)[0]? = some (lo : Int)) := by
        show _ = _
        unfold hoursOf
        rw [List.getElem?_map, hfirst]; rfl
      have HE8 := Lib.hid e8
      have hb49 := hE.bd
      have hle := hE.le
      clear hw7 hS hg hE e8 e9 hfirst
      rw [show (((0 : Nat) : Int)) = 0 from rfl] at hlook
      have c0 := B0.cell; have t0 := B0.lt
      go_wp2_with fail
      refine (list_any 49 bs s _ HS.out (fun n _ h => HG.out.bd n h)).mono ?_
      rintro e w8 ⟨v8, rfl, hb8, hO8⟩
      replace hW := over hW hb8
      have hne : 0 < (hoursOf s).length := (List.getElem?_eq_some_iff.1 HFirst.out).1
      obtain ⟨a8, c8, rfl, hle8, hr8⟩ := hO8.row
      obtain ⟨b8, o8, rfl, hC8⟩ := RowAt.at (k := 0) hr8 (by simpa using hne)
      have e0 := cells_one hC8 HFirst.out
      simp only [Nat.add_zero] at e0
      have z0 := block_lt_of_cell e0
      have r5 : (0 : Int) < ((ivs (hoursOf s)).length : Int) := by simp; omega
      clear hb8 c0 t0 B0 hlook hO8 hr8 hC8
      go_wp2_with fail
      refine named1 (p := fun W => Calls _ _ _ W _) ?_
      intro w9 hb9 B9
      replace hW := over hW hb9
      refine (smallest_any 101 (lo : Nat) _ w9 B9).mono ?_
      rw [show min (101 : Int) (lo : Nat) = loE r sd by have := HE8.out; omega]
      rintro e w10 ⟨rfl, hb10⟩
      replace hW := over hW hb10
      clear hb9 hb10 B9 e0 z0
      go_wp2_with fail
      go_roundw
      case rel => exact ⟨.inr ⟨rfl, rfl⟩, hW⟩
      case measure => simp [intOf]
    · go_wp2_with fail
      go_ret
      exact ⟨rfl, hW⟩
end Cp
end Go.Proofs.YtingfmdbihbamaaGreat
