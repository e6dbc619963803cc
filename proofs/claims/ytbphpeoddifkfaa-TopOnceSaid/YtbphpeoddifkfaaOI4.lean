/- Layer 5, the walks: the latest hour of a dispatch; what is surely delivered. -/
import Derived.Test.YtbphpeoddifkfaaOI3
open Go.RowKit Go.Shelf
namespace Go.Proofs.Ytbphpeoddifkfaa
open Go.Once

theorem WorkAt.later {W W' : World} {bw bm : Nat} {q : PV} {p : Ps} (h : WorkAt W bw bm q p) (hb : Below W.heap.size W W') : WorkAt W' bw bm q p := ⟨h.box.later hb, h.hrs.later hb⟩
/-- What is looked up, in each later world. -/
theorem WorkAt.look {W : World} {bw bm : Nat} {q : PV} {p : Ps} (h : WorkAt W bw bm q p) {i k : Nat} (hi : i < p.sends.length) (hk : k < p.routes.length) {sd : Int} {r : Rt} (hsd : p.sends[i]? = some sd) (hr : p.routes[k]? = some r) :
    ∃ bs s, SetAt W bs s ∧ GoodSet r sd s ∧ (Instr.lookup 103 (.map (some bm)) (pairV i k) false).run Try.prog W = .ok (.pointer (some ⟨bs, 0, none⟩)) W := by
  obtain ⟨es, clock, h1, h2, h3⟩ := h.hrs
  obtain ⟨e, he, hke, hrun⟩ := look_map (HrsAt.pairs h2) i k (h3 i k (.inl hi) hk)
  obtain ⟨i', k', g1, _, bs, s, g3, g4, g5⟩ := h2 e he
  rw [hke] at g1
  obtain ⟨rfl, rfl⟩ := pairV_inj g1
  exact ⟨bs, s, g4, g5 sd r hsd hr, by rw [hrun W bm clock h1, g3]⟩

/-- No hour that a dispatch can have is later, as far as the first k routes are concerned. -/
def LatestTo (p : Ps) (sd : Int) (k : Nat) (n : Int) : Prop := ∀ x : Int, x ≤ 101 → (∀ (k' : Nat) (r : Rt), k' < k → p.routes[k']? = some r → r.lossy = false → ∃ y, Once.Reach r.legs sd r.legs.length y ∧ x ≤ y) → x ≤ n
theorem LatestTo.lossy {p : Ps} {sd : Int} {k : Nat} {n : Int} (h : LatestTo p sd k n) : LatestTo p sd (k + 1) n := fun x hx hy => h x hx fun k' r hk => hy k' r (by omega)
theorem LatestTo.least {p : Ps} (ho : p.Ok) {sd : Int} (hs : 0 ≤ sd ∧ sd ≤ 30) {k : Nat} {n : Int} (h : LatestTo p sd k n) {r : Rt} (hr : p.routes[k]? = some r) (hl : r.lossy = false) {s : Nat → Bool} (hg : GoodSet r sd s) : LatestTo p sd (k + 1) (min n (lastOf s 101)) := fun x hx hy => by
  have h1 := h x hx fun k' r hk => hy k' r (by omega)
  obtain ⟨y, hyr, hxy⟩ := hy k r (by omega) hr hl
  have hro := ho.routes r (List.mem_of_getElem? hr)
  have hb := reach_bd hro.legs hs hyr
  have h3 := hro.l3
  have h2 := lastOf_le s 101 y.toNat (by omega) (hg.all y hyr)
  omega
theorem sure_hour {p : Ps} (ho : p.Ok) {i : Nat} {sd : Int} (hsd : p.sends[i]? = some sd) {n : Int} (h : LatestTo p sd p.routes.length n) (hn : n ≤ sd + p.pat) {t : List (List (List Int))} (ht : Shaped p t) : hourI p t i ≤ deadI p i := by
  have hsb := ho.sends sd (List.mem_of_getElem? hsd)
  have hil : i < t.length := by rw [ht.1]; exact (List.getElem?_eq_some_iff.1 hsd).1
  obtain ⟨row, hrow⟩ : ∃ row, t[i]? = some row := ⟨t[i], by simp⟩
  have hok := ht.2 row (List.mem_of_getElem? hrow)
  have e1 : hourI p t i = hourTo p.routes sd row p.routes.length := by unfold hourI; rw [hsd, hrow]
  have e2 : deadI p i = sd + p.pat := by unfold deadI; rw [hsd]
  have hb := hourTo_bd ho.routes hok hsb p.routes.length (Nat.le_refl _)
  rw [e1, e2]
  refine Int.le_trans (h _ hb.2 fun k r hk hr hl => ?_) hn
  obtain ⟨xs, hxs⟩ : ∃ xs, row[k]? = some xs := ⟨row[k]'(by rw [hok.1]; exact hk), by simp⟩
  have hro := ho.routes r (List.mem_of_getElem? hr)
  have htk := hok.2 k r xs hr hxs
  have hne : ¬ xs = [] := fun e => by
    rcases htk with ⟨h1, _⟩ | ⟨h1, _⟩
    · rw [hl] at h1; cases h1
    · have := hro.l1; rw [← h1, e] at this; cases this
  exact ⟨_, (comesR_reach hro htk hne hsb).1, hourTo_le _ k hk hr hxs⟩

set_option maxRecDepth 100000 in
set_option maxHeartbeats 4000000 in
theorem latest_any (bw bm : Nat) (q : PV) (p : Ps) (i : Nat) (sd : Int) (w : World) (hw : WorkAt w bw bm q p) (hB : PostAt w q p) (ho : p.Ok) (hsd : p.sends[i]? = some sd) :
    Calls Try.prog 42 #[.pointer (some ⟨bw, 0, none⟩), .int .i64 i] w (RetP (fun v _ => ∃ n : Int, v = .int .i64 n ∧ 0 ≤ n ∧ n ≤ 101 ∧ LatestTo p sd p.routes.length n) w) := by
  have HW := Lib.hid hw
  have HB := Lib.hid hB
  have HO := Lib.hid ho
  have HSd := Lib.hid hsd
  have hi : i < p.sends.length := (List.getElem?_eq_some_iff.1 hsd).1
  have hs4 := ho.s4
  have hsb := ho.sends sd (List.mem_of_getElem? hsd)
  have hrl : q.rs.length = p.routes.length := by rw [← hB.eq]; simp
  have hr3 := ho.r3
  have HRl := Lib.hid hrl
  have hq3 : q.rs.length ≤ 3 := by omega
  have B0 := hw.box
  clear hw hB ho hsd hrl hr3
  have c0 := B0.cell; have t0 := B0.lt
  go_enter Try.func42, Try.ntmps42
  go_wp2_with fail
  clear c0 t0 B0
  go_loopw [5, 14] (fun v i' wr => ∃ (k : Nat) (n : Int), k ≤ q.rs.length ∧ i' = .int .i64 k ∧ v = .int .i64 n ∧ 0 ≤ n ∧ n ≤ 101 ∧ Below w.heap.size w wr ∧ LatestTo p sd k n) (fun _ i' _ => q.rs.length - (intOf i').toNat)
  case atStart => exact ⟨0, 101, Nat.zero_le _, rfl, rfl, by omega, by omega, Below.refl _ _, fun x hx _ => hx⟩
  case round =>
    obtain ⟨k, n, hk, rfl, rfl, hn0, hn1, hW, hL⟩ := hrel
    have HL := Lib.hid hL
    clear hL
    by_cases hkt : k < q.rs.length
    · obtain ⟨x, hx⟩ : ∃ x, q.rs[k]? = some x := ⟨q.rs[k], by simp⟩
      obtain ⟨pb, po, ea, e0, e1, z1, _⟩ := (HB.out.later hW).route hx
      have hpr : p.routes[k]? = some x.rt := by rw [← HB.out.eq]; simp [hx]
      have HPr := Lib.hid hpr
      rw [ea]
      have r3 : (0 : Int) ≤ (k : Int) := by omega
      have r4 : (k : Int) < (q.rs.length : Int) := by omega
      clear hx hpr ea
      go_upto_region 5 with fail
      refine named1 (p := Code.wp _ _ _ _) ?_
      intro W7 hb7 B7
      replace hW := over hW hb7
      clear e0 e1 z1 hb7
      have c7 := B7.cell; have t7 := B7.lt
      obtain ⟨lv, hlv⟩ : ∃ lv, x.lossy = lv := ⟨_, rfl⟩
      rw [hlv] at c7
      have HLv := Lib.hid (show x.rt.lossy = lv from hlv)
      clear hlv
      cases lv with
      | true =>
        go_wp2_with fail
        go_roundw
        case rel => exact ⟨k + 1, n, by omega, by go_num, rfl, hn0, hn1, hW, HL.out.lossy⟩
        case measure => first | omega | (simp [intOf]; omega)
      | false =>
        have hw7 := HW.out.later hW
        obtain ⟨bs, s, hS, hg, hlook⟩ := hw7.look hi (by rw [← HRl.out]; exact hkt) HSd.out HPr.out
        have B0 := hw7.box
        have HS := Lib.hid hS
        have HG := Lib.hid hg
        have hro := HO.out.routes x.rt (List.mem_of_getElem? HPr.out)
        obtain ⟨y, hy⟩ := reach_some hro.legs sd x.rt.legs.length (Nat.le_refl _)
        have hyb := reach_bd hro.legs hsb hy
        have hl3 := hro.l3
        have HY := Lib.hid (hg.all y hy)
        have hy101 : y.toNat < 101 := by omega
        have HL2 := Lib.hid (HL.out.least HO.out hsb HPr.out HLv.out hg)
        have hlast := lastOf_lt s 101 (by omega)
        clear hw7 hS hg hro hy
        have c0 := B0.cell; have t0 := B0.lt
        go_wp2_with fail
        refine (last_any 49 bs s _ HS.out (fun n _ h => HG.out.bd n h) hy101 HY.out).mono ?_
        rintro e w8 ⟨rfl, hb8⟩
        replace hW := over hW hb8
        generalize lastOf s 101 = lv at *
        clear hb8 c7 t7 B7 c0 t0 B0 hlook
        go_wp2_with fail
        refine named1 (p := fun W => Calls _ _ _ W _) ?_
        intro w9 hb9 B9
        replace hW := over hW hb9
        refine (smallest_any n lv _ w9 B9).mono ?_
        rintro e w10 ⟨rfl, hb10⟩
        replace hW := over hW hb10
        clear hb9 hb10 B9
        go_wp2_with fail
        go_roundw
        case rel => exact ⟨k + 1, _, by omega, by go_num, rfl, by omega, by omega, hW, HL2.out⟩
        case measure => first | omega | (simp [intOf]; omega)
    · obtain rfl : k = q.rs.length := by omega
      have HL2 := Lib.hid (show LatestTo p sd p.routes.length n by rw [← HRl.out]; exact HL.out)
      clear HL hk hkt
      go_wp2_with fail
      go_ret
      exact ⟨_, rfl, hW, n, rfl, hn0, hn1, HL2.out⟩
end Go.Proofs.Ytbphpeoddifkfaa
