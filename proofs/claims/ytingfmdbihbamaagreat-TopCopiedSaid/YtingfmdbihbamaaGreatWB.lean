import Derived.Test.YtingfmdbihbamaaGreatWA
import Derived.Test.YtingfmdbihbamaaGreatPl0
section
/- Layer 1, the walks: whether all elements of a list pass a test. -/
open Go.RowKit
namespace Go.Proofs.YtingfmdbihbamaaGreat
open Go.Hill

set_option maxHeartbeats 400000 in
theorem index_wl (l : List Wl) (a : Option Addr) (c : Nat) (W : World) (hR : RowAt W a 6 (l.map Wl.vs)) (f : Nat) (first cap : Array Value) (p : Wl → Bool)
    (hf : ∀ args w, (callFunc f args).run Tryz.prog w = .ok (.enter f args) w) (hlen : l.length ≤ 1000)
    (hp : ∀ x ∈ l, ∀ w', Below W.heap.size W w' → Calls Tryz.prog f (first.push (.agg #[.int .i64 x.X1, .int .i64 x.Y1, .int .i64 x.X2, .int .i64 x.Y2, .int .i64 x.B, .int .i64 x.T]) ++ cap) w' (Ret (.bool (p x)) w')) :
    Calls Tryz.prog 116 #[.slice a l.length c, .func (.func f) first cap] W (Ret (.int .i64 (idxI p l)) W) := by
  have HP := Lib.hid hp
  have HR := Lib.hid hR
  clear hp hR
  go_enter Tryz.func116, Tryz.ntmps116
  go_wp2
  go_loopw [8] (fun i wr => ∃ k : Nat, k ≤ l.length ∧ i = .int .i64 k ∧ Below W.heap.size W wr ∧ ∀ j x, j < k → l[j]? = some x → p x = false) (fun i _ => l.length - (intOf i).toNat)
  case atStart => exact ⟨0, Nat.zero_le _, rfl, Below.refl _ _, fun j x hj => by omega⟩
  case round =>
    obtain ⟨k, hk, rfl, hb, hno⟩ := hrel
    have HN := Lib.hid hno
    clear hno
    by_cases hlt : k < l.length
    · obtain ⟨b, o, rfl, hC⟩ := RowAt.at HR.out hlt
      obtain ⟨x, hx⟩ : ∃ x, l[k]? = some x := ⟨l[k], by simp [hlt]⟩
      obtain ⟨e0, e1, e2, e3, e4, e5⟩ := cells_wl (hC.later hb) hx
      have HX := Lib.hid hx
      clear hx hC
      go_wp2_with fail
      refine (HP.out x (List.mem_of_getElem? HX.out) wr hb).mono ?_
      rintro e w' ⟨rfl, hb'⟩
      replace hb := over hb hb'
      clear hb'
      by_cases hpx : p x = true
      · rw [hpx]
        have HT := Lib.hid hpx
        clear hpx
        go_wp2_with fail
        go_ret
        exact ⟨ret_int (idxI_some HX.out HT.out HN.out).symm, hb⟩
      · have hpf : p x = false := by simpa using hpx
        rw [hpf]
        have HT := Lib.hid hpf
        clear hpf hpx
        go_wp2_with fail
        go_roundw
        case rel =>
          refine ⟨k + 1, by omega, by go_num, hb, fun j y hj hy => ?_⟩
          rcases Nat.lt_succ_iff_lt_or_eq.1 hj with h | h
          · exact HN.out j y h hy
          · subst h; rw [HX.out] at hy; cases hy; exact HT.out
        case measure => simp [intOf]; omega
    · go_wp2_with fail
      go_ret
      exact ⟨ret_int (idxI_none fun j y hj => HN.out j y (by omega)).symm, hb⟩

theorem contains_wl (l : List Wl) (a : Option Addr) (c : Nat) (W : World) (hR : RowAt W a 6 (l.map Wl.vs)) (f : Nat) (first cap : Array Value) (p : Wl → Bool)
    (hf : ∀ args w, (callFunc f args).run Tryz.prog w = .ok (.enter f args) w) (hlen : l.length ≤ 1000)
    (hp : ∀ x ∈ l, ∀ w', Below W.heap.size W w' → Calls Tryz.prog f (first.push (.agg #[.int .i64 x.X1, .int .i64 x.Y1, .int .i64 x.X2, .int .i64 x.Y2, .int .i64 x.B, .int .i64 x.T]) ++ cap) w' (Ret (.bool (p x)) w')) :
    Calls Tryz.prog 94 #[.slice a l.length c, .func (.func f) first cap] W (Ret (.bool (l.any p)) W) := by
  have HC := Lib.hid (index_wl l a c W hR f first cap p hf hlen hp)
  have hi := idxI_bd p l
  clear hp hR hf
  go_enter Tryz.func94, Tryz.ntmps94
  go_wp2_with fail
  refine HC.out.mono ?_
  rintro e w' ⟨rfl, hb⟩
  go_wp2_with fail
  go_ret
  exact ⟨ret_bool (idxI_any p l), hb⟩

theorem pass_wl (x : Wl) (b : Nat) (w : World) (f : Nat) (first cap : Array Value) (p : Bool) (B1 : Box w b #[.func (.func f) first cap] 157)
    (hf : ∀ args w, (callFunc f args).run Tryz.prog w = .ok (.enter f args) w)
    (hp : ∀ w', Below w.heap.size w w' → Calls Tryz.prog f (first.push (.agg #[.int .i64 x.X1, .int .i64 x.Y1, .int .i64 x.X2, .int .i64 x.Y2, .int .i64 x.B, .int .i64 x.T]) ++ cap) w' (Ret (.bool p) w')) :
    Calls Tryz.prog 95 #[.agg #[.int .i64 x.X1, .int .i64 x.Y1, .int .i64 x.X2, .int .i64 x.Y2, .int .i64 x.B, .int .i64 x.T], .pointer (some ⟨b, 0, none⟩)] w (Ret (.bool (!p)) w) := by
  have HP := Lib.hid hp
  clear hp
  have c1 := B1.cell; have t1 := B1.lt
  go_enter Tryz.func95, Tryz.ntmps95
  go_wp2_with fail
  refine named1 (p := fun W => Calls _ _ _ W _) ?_; intro w1 hb0 _
  refine (HP.out _ hb0).mono ?_
  rintro e w' ⟨rfl, hb⟩
  replace hb := over hb0 hb
  go_wp2_with fail
  go_ret
  exact ⟨rfl, hb⟩

theorem all_wl (l : List Wl) (a : Option Addr) (c : Nat) (W : World) (hR : RowAt W a 6 (l.map Wl.vs)) (f : Nat) (first cap : Array Value) (p : Wl → Bool)
    (hf : ∀ args w, (callFunc f args).run Tryz.prog w = .ok (.enter f args) w) (hlen : l.length ≤ 1000)
    (hp : ∀ x ∈ l, ∀ w', Below W.heap.size W w' → Calls Tryz.prog f (first.push (.agg #[.int .i64 x.X1, .int .i64 x.Y1, .int .i64 x.X2, .int .i64 x.Y2, .int .i64 x.B, .int .i64 x.T]) ++ cap) w' (Ret (.bool (p x)) w')) :
    Calls Tryz.prog 64 #[.slice a l.length c, .func (.func f) first cap] W (Ret (.bool (l.all p)) W) := by
  have HP := Lib.hid hp
  have HR := Lib.hid hR
  have HF := Lib.hid hf
  clear hp hR hf
  go_enter Tryz.func64, Tryz.ntmps64
  go_wp2_with fail
  refine named1 (p := fun W => Calls _ _ _ W _) ?_
  intro w1 hb1 B1
  refine (contains_wl l a c w1 (HR.out.later hb1) 95 #[] #[.pointer (some ⟨W.heap.size, 0, none⟩)] (fun x => !p x) (fun _ _ => by kernel_rfl) hlen ?_).mono ?_
  · intro x hx w' hb'
    exact pass_wl x _ w' f first cap (p x) (B1.later hb') HF.out (fun w'' hb'' => HP.out x hx w'' (over (over hb1 hb') hb''))
  rintro e w2 ⟨rfl, hb2⟩
  replace hb2 := over hb1 hb2
  clear hb1
  go_wp2_with fail
  go_ret
  exact ⟨ret_bool (not_any_not p l), hb2⟩
set_option maxHeartbeats 400000 in
theorem index_cd (l : List Cd) (a : Option Addr) (c : Nat) (W : World) (hR : RowAt W a 8 (l.map Cd.vs)) (f : Nat) (first cap : Array Value) (p : Cd → Bool)
    (hf : ∀ args w, (callFunc f args).run Tryz.prog w = .ok (.enter f args) w) (hlen : l.length ≤ 1000)
    (hp : ∀ x ∈ l, ∀ w', Below W.heap.size W w' → Calls Tryz.prog f (first.push (.agg #[.int .i64 x.wl.X1, .int .i64 x.wl.Y1, .int .i64 x.wl.X2, .int .i64 x.wl.Y2, .int .i64 x.wl.B, .int .i64 x.wl.T, .int .i64 x.fr, .int .i64 x.to]) ++ cap) w' (Ret (.bool (p x)) w')) :
    Calls Tryz.prog 113 #[.slice a l.length c, .func (.func f) first cap] W (Ret (.int .i64 (idxI p l)) W) := by
  have HP := Lib.hid hp
  have HR := Lib.hid hR
  clear hp hR
  go_enter Tryz.func113, Tryz.ntmps113
  go_wp2
  go_loopw [8] (fun i wr => ∃ k : Nat, k ≤ l.length ∧ i = .int .i64 k ∧ Below W.heap.size W wr ∧ ∀ j x, j < k → l[j]? = some x → p x = false) (fun i _ => l.length - (intOf i).toNat)
  case atStart => exact ⟨0, Nat.zero_le _, rfl, Below.refl _ _, fun j x hj => by omega⟩
  case round =>
    obtain ⟨k, hk, rfl, hb, hno⟩ := hrel
    have HN := Lib.hid hno
    clear hno
    by_cases hlt : k < l.length
    · obtain ⟨b, o, rfl, hC⟩ := RowAt.at HR.out hlt
      obtain ⟨x, hx⟩ : ∃ x, l[k]? = some x := ⟨l[k], by simp [hlt]⟩
      obtain ⟨e0, e1, e2, e3, e4, e5, e6, e7⟩ := cells_cd (hC.later hb) hx
      have HX := Lib.hid hx
      clear hx hC
      go_wp2_with fail
      refine (HP.out x (List.mem_of_getElem? HX.out) wr hb).mono ?_
      rintro e w' ⟨rfl, hb'⟩
      replace hb := over hb hb'
      clear hb'
      by_cases hpx : p x = true
      · rw [hpx]
        have HT := Lib.hid hpx
        clear hpx
        go_wp2_with fail
        go_ret
        exact ⟨ret_int (idxI_some HX.out HT.out HN.out).symm, hb⟩
      · have hpf : p x = false := by simpa using hpx
        rw [hpf]
        have HT := Lib.hid hpf
        clear hpf hpx
        go_wp2_with fail
        go_roundw
        case rel =>
          refine ⟨k + 1, by omega, by go_num, hb, fun j y hj hy => ?_⟩
          rcases Nat.lt_succ_iff_lt_or_eq.1 hj with h | h
          · exact HN.out j y h hy
          · subst h; rw [HX.out] at hy; cases hy; exact HT.out
        case measure => simp [intOf]; omega
    · go_wp2_with fail
      go_ret
      exact ⟨ret_int (idxI_none fun j y hj => HN.out j y (by omega)).symm, hb⟩

theorem contains_cd (l : List Cd) (a : Option Addr) (c : Nat) (W : World) (hR : RowAt W a 8 (l.map Cd.vs)) (f : Nat) (first cap : Array Value) (p : Cd → Bool)
    (hf : ∀ args w, (callFunc f args).run Tryz.prog w = .ok (.enter f args) w) (hlen : l.length ≤ 1000)
    (hp : ∀ x ∈ l, ∀ w', Below W.heap.size W w' → Calls Tryz.prog f (first.push (.agg #[.int .i64 x.wl.X1, .int .i64 x.wl.Y1, .int .i64 x.wl.X2, .int .i64 x.wl.Y2, .int .i64 x.wl.B, .int .i64 x.wl.T, .int .i64 x.fr, .int .i64 x.to]) ++ cap) w' (Ret (.bool (p x)) w')) :
    Calls Tryz.prog 86 #[.slice a l.length c, .func (.func f) first cap] W (Ret (.bool (l.any p)) W) := by
  have HC := Lib.hid (index_cd l a c W hR f first cap p hf hlen hp)
  have hi := idxI_bd p l
  clear hp hR hf
  go_enter Tryz.func86, Tryz.ntmps86
  go_wp2_with fail
  refine HC.out.mono ?_
  rintro e w' ⟨rfl, hb⟩
  go_wp2_with fail
  go_ret
  exact ⟨ret_bool (idxI_any p l), hb⟩

theorem pass_cd (x : Cd) (b : Nat) (w : World) (f : Nat) (first cap : Array Value) (p : Bool) (B1 : Box w b #[.func (.func f) first cap] 150)
    (hf : ∀ args w, (callFunc f args).run Tryz.prog w = .ok (.enter f args) w)
    (hp : ∀ w', Below w.heap.size w w' → Calls Tryz.prog f (first.push (.agg #[.int .i64 x.wl.X1, .int .i64 x.wl.Y1, .int .i64 x.wl.X2, .int .i64 x.wl.Y2, .int .i64 x.wl.B, .int .i64 x.wl.T, .int .i64 x.fr, .int .i64 x.to]) ++ cap) w' (Ret (.bool p) w')) :
    Calls Tryz.prog 87 #[.agg #[.int .i64 x.wl.X1, .int .i64 x.wl.Y1, .int .i64 x.wl.X2, .int .i64 x.wl.Y2, .int .i64 x.wl.B, .int .i64 x.wl.T, .int .i64 x.fr, .int .i64 x.to], .pointer (some ⟨b, 0, none⟩)] w (Ret (.bool (!p)) w) := by
  have HP := Lib.hid hp
  clear hp
  have c1 := B1.cell; have t1 := B1.lt
  go_enter Tryz.func87, Tryz.ntmps87
  go_wp2_with fail
  refine named1 (p := fun W => Calls _ _ _ W _) ?_; intro w1 hb0 _
  refine (HP.out _ hb0).mono ?_
  rintro e w' ⟨rfl, hb⟩
  replace hb := over hb0 hb
  go_wp2_with fail
  go_ret
  exact ⟨rfl, hb⟩

theorem all_cd (l : List Cd) (a : Option Addr) (c : Nat) (W : World) (hR : RowAt W a 8 (l.map Cd.vs)) (f : Nat) (first cap : Array Value) (p : Cd → Bool)
    (hf : ∀ args w, (callFunc f args).run Tryz.prog w = .ok (.enter f args) w) (hlen : l.length ≤ 1000)
    (hp : ∀ x ∈ l, ∀ w', Below W.heap.size W w' → Calls Tryz.prog f (first.push (.agg #[.int .i64 x.wl.X1, .int .i64 x.wl.Y1, .int .i64 x.wl.X2, .int .i64 x.wl.Y2, .int .i64 x.wl.B, .int .i64 x.wl.T, .int .i64 x.fr, .int .i64 x.to]) ++ cap) w' (Ret (.bool (p x)) w')) :
    Calls Tryz.prog 59 #[.slice a l.length c, .func (.func f) first cap] W (Ret (.bool (l.all p)) W) := by
  have HP := Lib.hid hp
  have HR := Lib.hid hR
  have HF := Lib.hid hf
  clear hp hR hf
  go_enter Tryz.func59, Tryz.ntmps59
  go_wp2_with fail
  refine named1 (p := fun W => Calls _ _ _ W _) ?_
  intro w1 hb1 B1
  refine (contains_cd l a c w1 (HR.out.later hb1) 87 #[] #[.pointer (some ⟨W.heap.size, 0, none⟩)] (fun x => !p x) (fun _ _ => by kernel_rfl) hlen ?_).mono ?_
  · intro x hx w' hb'
    exact pass_cd x _ w' f first cap (p x) (B1.later hb') HF.out (fun w'' hb'' => HP.out x hx w'' (over (over hb1 hb') hb''))
  rintro e w2 ⟨rfl, hb2⟩
  replace hb2 := over hb1 hb2
  clear hb1
  go_wp2_with fail
  go_ret
  exact ⟨ret_bool (not_any_not p l), hb2⟩
set_option maxHeartbeats 400000 in
theorem index_st (l : List Stn) (a : Option Addr) (c : Nat) (W : World) (hR : RowAt W a 4 (l.map Stn.vs)) (f : Nat) (first cap : Array Value) (p : Stn → Bool)
    (hf : ∀ args w, (callFunc f args).run Tryz.prog w = .ok (.enter f args) w) (hlen : l.length ≤ 1000)
    (hp : ∀ x ∈ l, ∀ w', Below W.heap.size W w' → Calls Tryz.prog f (first.push (.agg #[.int .i64 x.X, .int .i64 x.Y, .int .i64 x.Z, .int .i64 x.M]) ++ cap) w' (Ret (.bool (p x)) w')) :
    Calls Tryz.prog 115 #[.slice a l.length c, .func (.func f) first cap] W (Ret (.int .i64 (idxI p l)) W) := by
  have HP := Lib.hid hp
  have HR := Lib.hid hR
  clear hp hR
  go_enter Tryz.func115, Tryz.ntmps115
  go_wp2
  go_loopw [8] (fun i wr => ∃ k : Nat, k ≤ l.length ∧ i = .int .i64 k ∧ Below W.heap.size W wr ∧ ∀ j x, j < k → l[j]? = some x → p x = false) (fun i _ => l.length - (intOf i).toNat)
  case atStart => exact ⟨0, Nat.zero_le _, rfl, Below.refl _ _, fun j x hj => by omega⟩
  case round =>
    obtain ⟨k, hk, rfl, hb, hno⟩ := hrel
    have HN := Lib.hid hno
    clear hno
    by_cases hlt : k < l.length
    · obtain ⟨b, o, rfl, hC⟩ := RowAt.at HR.out hlt
      obtain ⟨x, hx⟩ : ∃ x, l[k]? = some x := ⟨l[k], by simp [hlt]⟩
      obtain ⟨e0, e1, e2, e3⟩ := cells_st (hC.later hb) hx
      have HX := Lib.hid hx
      clear hx hC
      go_wp2_with fail
      refine (HP.out x (List.mem_of_getElem? HX.out) wr hb).mono ?_
      rintro e w' ⟨rfl, hb'⟩
      replace hb := over hb hb'
      clear hb'
      by_cases hpx : p x = true
      · rw [hpx]
        have HT := Lib.hid hpx
        clear hpx
        go_wp2_with fail
        go_ret
        exact ⟨ret_int (idxI_some HX.out HT.out HN.out).symm, hb⟩
      · have hpf : p x = false := by simpa using hpx
        rw [hpf]
        have HT := Lib.hid hpf
        clear hpf hpx
        go_wp2_with fail
        go_roundw
        case rel =>
          refine ⟨k + 1, by omega, by go_num, hb, fun j y hj hy => ?_⟩
          rcases Nat.lt_succ_iff_lt_or_eq.1 hj with h | h
          · exact HN.out j y h hy
          · subst h; rw [HX.out] at hy; cases hy; exact HT.out
        case measure => simp [intOf]; omega
    · go_wp2_with fail
      go_ret
      exact ⟨ret_int (idxI_none fun j y hj => HN.out j y (by omega)).symm, hb⟩

theorem contains_st (l : List Stn) (a : Option Addr) (c : Nat) (W : World) (hR : RowAt W a 4 (l.map Stn.vs)) (f : Nat) (first cap : Array Value) (p : Stn → Bool)
    (hf : ∀ args w, (callFunc f args).run Tryz.prog w = .ok (.enter f args) w) (hlen : l.length ≤ 1000)
    (hp : ∀ x ∈ l, ∀ w', Below W.heap.size W w' → Calls Tryz.prog f (first.push (.agg #[.int .i64 x.X, .int .i64 x.Y, .int .i64 x.Z, .int .i64 x.M]) ++ cap) w' (Ret (.bool (p x)) w')) :
    Calls Tryz.prog 90 #[.slice a l.length c, .func (.func f) first cap] W (Ret (.bool (l.any p)) W) := by
  have HC := Lib.hid (index_st l a c W hR f first cap p hf hlen hp)
  have hi := idxI_bd p l
  clear hp hR hf
  go_enter Tryz.func90, Tryz.ntmps90
  go_wp2_with fail
  refine HC.out.mono ?_
  rintro e w' ⟨rfl, hb⟩
  go_wp2_with fail
  go_ret
  exact ⟨ret_bool (idxI_any p l), hb⟩

theorem pass_st (x : Stn) (b : Nat) (w : World) (f : Nat) (first cap : Array Value) (p : Bool) (B1 : Box w b #[.func (.func f) first cap] 155)
    (hf : ∀ args w, (callFunc f args).run Tryz.prog w = .ok (.enter f args) w)
    (hp : ∀ w', Below w.heap.size w w' → Calls Tryz.prog f (first.push (.agg #[.int .i64 x.X, .int .i64 x.Y, .int .i64 x.Z, .int .i64 x.M]) ++ cap) w' (Ret (.bool p) w')) :
    Calls Tryz.prog 91 #[.agg #[.int .i64 x.X, .int .i64 x.Y, .int .i64 x.Z, .int .i64 x.M], .pointer (some ⟨b, 0, none⟩)] w (Ret (.bool (!p)) w) := by
  have HP := Lib.hid hp
  clear hp
  have c1 := B1.cell; have t1 := B1.lt
  go_enter Tryz.func91, Tryz.ntmps91
  go_wp2_with fail
  refine named1 (p := fun W => Calls _ _ _ W _) ?_; intro w1 hb0 _
  refine (HP.out _ hb0).mono ?_
  rintro e w' ⟨rfl, hb⟩
  replace hb := over hb0 hb
  go_wp2_with fail
  go_ret
  exact ⟨rfl, hb⟩

theorem all_st (l : List Stn) (a : Option Addr) (c : Nat) (W : World) (hR : RowAt W a 4 (l.map Stn.vs)) (f : Nat) (first cap : Array Value) (p : Stn → Bool)
    (hf : ∀ args w, (callFunc f args).run Tryz.prog w = .ok (.enter f args) w) (hlen : l.length ≤ 1000)
    (hp : ∀ x ∈ l, ∀ w', Below W.heap.size W w' → Calls Tryz.prog f (first.push (.agg #[.int .i64 x.X, .int .i64 x.Y, .int .i64 x.Z, .int .i64 x.M]) ++ cap) w' (Ret (.bool (p x)) w')) :
    Calls Tryz.prog 61 #[.slice a l.length c, .func (.func f) first cap] W (Ret (.bool (l.all p)) W) := by
  have HP := Lib.hid hp
  have HR := Lib.hid hR
  have HF := Lib.hid hf
  clear hp hR hf
  go_enter Tryz.func61, Tryz.ntmps61
  go_wp2_with fail
  refine named1 (p := fun W => Calls _ _ _ W _) ?_
  intro w1 hb1 B1
  refine (contains_st l a c w1 (HR.out.later hb1) 91 #[] #[.pointer (some ⟨W.heap.size, 0, none⟩)] (fun x => !p x) (fun _ _ => by kernel_rfl) hlen ?_).mono ?_
  · intro x hx w' hb'
    exact pass_st x _ w' f first cap (p x) (B1.later hb') HF.out (fun w'' hb'' => HP.out x hx w'' (over (over hb1 hb') hb''))
  rintro e w2 ⟨rfl, hb2⟩
  replace hb2 := over hb1 hb2
  clear hb1
  go_wp2_with fail
  go_ret
  exact ⟨ret_bool (not_any_not p l), hb2⟩
set_option maxHeartbeats 400000 in
theorem index_sn (l : List Sn) (a : Option Addr) (c : Nat) (W : World) (hR : RowAt W a 3 (l.map Sn.vs)) (f : Nat) (first cap : Array Value) (p : Sn → Bool)
    (hf : ∀ args w, (callFunc f args).run Tryz.prog w = .ok (.enter f args) w) (hlen : l.length ≤ 1000)
    (hp : ∀ x ∈ l, ∀ w', Below W.heap.size W w' → Calls Tryz.prog f (first.push (.agg #[.int .i64 x.E, .int .i64 x.N, .int .i64 x.U]) ++ cap) w' (Ret (.bool (p x)) w')) :
    Calls Tryz.prog 117 #[.slice a l.length c, .func (.func f) first cap] W (Ret (.int .i64 (idxI p l)) W) := by
  have HP := Lib.hid hp
  have HR := Lib.hid hR
  clear hp hR
  go_enter Tryz.func117, Tryz.ntmps117
  go_wp2
  go_loopw [8] (fun i wr => ∃ k : Nat, k ≤ l.length ∧ i = .int .i64 k ∧ Below W.heap.size W wr ∧ ∀ j x, j < k → l[j]? = some x → p x = false) (fun i _ => l.length - (intOf i).toNat)
  case atStart => exact ⟨0, Nat.zero_le _, rfl, Below.refl _ _, fun j x hj => by omega⟩
  case round =>
    obtain ⟨k, hk, rfl, hb, hno⟩ := hrel
    have HN := Lib.hid hno
    clear hno
    by_cases hlt : k < l.length
    · obtain ⟨b, o, rfl, hC⟩ := RowAt.at HR.out hlt
      obtain ⟨x, hx⟩ : ∃ x, l[k]? = some x := ⟨l[k], by simp [hlt]⟩
      obtain ⟨e0, e1, e2⟩ := cells_sn (hC.later hb) hx
      have HX := Lib.hid hx
      clear hx hC
      go_wp2_with fail
      refine (HP.out x (List.mem_of_getElem? HX.out) wr hb).mono ?_
      rintro e w' ⟨rfl, hb'⟩
      replace hb := over hb hb'
      clear hb'
      by_cases hpx : p x = true
      · rw [hpx]
        have HT := Lib.hid hpx
        clear hpx
        go_wp2_with fail
        go_ret
        exact ⟨ret_int (idxI_some HX.out HT.out HN.out).symm, hb⟩
      · have hpf : p x = false := by simpa using hpx
        rw [hpf]
        have HT := Lib.hid hpf
        clear hpf hpx
        go_wp2_with fail
        go_roundw
        case rel =>
          refine ⟨k + 1, by omega, by go_num, hb, fun j y hj hy => ?_⟩
          rcases Nat.lt_succ_iff_lt_or_eq.1 hj with h | h
          · exact HN.out j y h hy
          · subst h; rw [HX.out] at hy; cases hy; exact HT.out
        case measure => simp [intOf]; omega
    · go_wp2_with fail
      go_ret
      exact ⟨ret_int (idxI_none fun j y hj => HN.out j y (by omega)).symm, hb⟩

theorem contains_sn (l : List Sn) (a : Option Addr) (c : Nat) (W : World) (hR : RowAt W a 3 (l.map Sn.vs)) (f : Nat) (first cap : Array Value) (p : Sn → Bool)
    (hf : ∀ args w, (callFunc f args).run Tryz.prog w = .ok (.enter f args) w) (hlen : l.length ≤ 1000)
    (hp : ∀ x ∈ l, ∀ w', Below W.heap.size W w' → Calls Tryz.prog f (first.push (.agg #[.int .i64 x.E, .int .i64 x.N, .int .i64 x.U]) ++ cap) w' (Ret (.bool (p x)) w')) :
    Calls Tryz.prog 96 #[.slice a l.length c, .func (.func f) first cap] W (Ret (.bool (l.any p)) W) := by
  have HC := Lib.hid (index_sn l a c W hR f first cap p hf hlen hp)
  have hi := idxI_bd p l
  clear hp hR hf
  go_enter Tryz.func96, Tryz.ntmps96
  go_wp2_with fail
  refine HC.out.mono ?_
  rintro e w' ⟨rfl, hb⟩
  go_wp2_with fail
  go_ret
  exact ⟨ret_bool (idxI_any p l), hb⟩

theorem pass_sn (x : Sn) (b : Nat) (w : World) (f : Nat) (first cap : Array Value) (p : Bool) (B1 : Box w b #[.func (.func f) first cap] 159)
    (hf : ∀ args w, (callFunc f args).run Tryz.prog w = .ok (.enter f args) w)
    (hp : ∀ w', Below w.heap.size w w' → Calls Tryz.prog f (first.push (.agg #[.int .i64 x.E, .int .i64 x.N, .int .i64 x.U]) ++ cap) w' (Ret (.bool p) w')) :
    Calls Tryz.prog 97 #[.agg #[.int .i64 x.E, .int .i64 x.N, .int .i64 x.U], .pointer (some ⟨b, 0, none⟩)] w (Ret (.bool (!p)) w) := by
  have HP := Lib.hid hp
  clear hp
  have c1 := B1.cell; have t1 := B1.lt
  go_enter Tryz.func97, Tryz.ntmps97
  go_wp2_with fail
  refine named1 (p := fun W => Calls _ _ _ W _) ?_; intro w1 hb0 _
  refine (HP.out _ hb0).mono ?_
  rintro e w' ⟨rfl, hb⟩
  replace hb := over hb0 hb
  go_wp2_with fail
  go_ret
  exact ⟨rfl, hb⟩

theorem all_sn (l : List Sn) (a : Option Addr) (c : Nat) (W : World) (hR : RowAt W a 3 (l.map Sn.vs)) (f : Nat) (first cap : Array Value) (p : Sn → Bool)
    (hf : ∀ args w, (callFunc f args).run Tryz.prog w = .ok (.enter f args) w) (hlen : l.length ≤ 1000)
    (hp : ∀ x ∈ l, ∀ w', Below W.heap.size W w' → Calls Tryz.prog f (first.push (.agg #[.int .i64 x.E, .int .i64 x.N, .int .i64 x.U]) ++ cap) w' (Ret (.bool (p x)) w')) :
    Calls Tryz.prog 66 #[.slice a l.length c, .func (.func f) first cap] W (Ret (.bool (l.all p)) W) := by
  have HP := Lib.hid hp
  have HR := Lib.hid hR
  have HF := Lib.hid hf
  clear hp hR hf
  go_enter Tryz.func66, Tryz.ntmps66
  go_wp2_with fail
  refine named1 (p := fun W => Calls _ _ _ W _) ?_
  intro w1 hb1 B1
  refine (contains_sn l a c w1 (HR.out.later hb1) 97 #[] #[.pointer (some ⟨W.heap.size, 0, none⟩)] (fun x => !p x) (fun _ _ => by kernel_rfl) hlen ?_).mono ?_
  · intro x hx w' hb'
    exact pass_sn x _ w' f first cap (p x) (B1.later hb') HF.out (fun w'' hb'' => HP.out x hx w'' (over (over hb1 hb') hb''))
  rintro e w2 ⟨rfl, hb2⟩
  replace hb2 := over hb1 hb2
  clear hb1
  go_wp2_with fail
  go_ret
  exact ⟨ret_bool (not_any_not p l), hb2⟩
set_option maxHeartbeats 400000 in
theorem index_int (l : List Int) (a : Option Addr) (c : Nat) (W : World) (hR : RowAt W a 1 (l.map fun n => [.int .i64 n])) (f : Nat) (first cap : Array Value) (p : Int → Bool)
    (hf : ∀ args w, (callFunc f args).run Tryz.prog w = .ok (.enter f args) w) (hlen : l.length ≤ 1000)
    (hp : ∀ x ∈ l, ∀ w', Below W.heap.size W w' → Calls Tryz.prog f (first.push (.int .i64 x) ++ cap) w' (Ret (.bool (p x)) w')) :
    Calls Tryz.prog 100 #[.slice a l.length c, .func (.func f) first cap] W (Ret (.int .i64 (idxI p l)) W) := by
  have HP := Lib.hid hp
  have HR := Lib.hid hR
  clear hp hR
  go_enter Tryz.func100, Tryz.ntmps100
  go_wp2
  go_loopw [8] (fun i wr => ∃ k : Nat, k ≤ l.length ∧ i = .int .i64 k ∧ Below W.heap.size W wr ∧ ∀ j x, j < k → l[j]? = some x → p x = false) (fun i _ => l.length - (intOf i).toNat)
  case atStart => exact ⟨0, Nat.zero_le _, rfl, Below.refl _ _, fun j x hj => by omega⟩
  case round =>
    obtain ⟨k, hk, rfl, hb, hno⟩ := hrel
    have HN := Lib.hid hno
    clear hno
    by_cases hlt : k < l.length
    · obtain ⟨b, o, rfl, hC⟩ := RowAt.at HR.out hlt
      obtain ⟨x, hx⟩ : ∃ x, l[k]? = some x := ⟨l[k], by simp [hlt]⟩
      obtain e0 := cells_one (hC.later hb) hx
      have HX := Lib.hid hx
      clear hx hC
      go_wp2_with fail
      refine (HP.out x (List.mem_of_getElem? HX.out) wr hb).mono ?_
      rintro e w' ⟨rfl, hb'⟩
      replace hb := over hb hb'
      clear hb'
      by_cases hpx : p x = true
      · rw [hpx]
        have HT := Lib.hid hpx
        clear hpx
        go_wp2_with fail
        go_ret
        exact ⟨ret_int (idxI_some HX.out HT.out HN.out).symm, hb⟩
      · have hpf : p x = false := by simpa using hpx
        rw [hpf]
        have HT := Lib.hid hpf
        clear hpf hpx
        go_wp2_with fail
        go_roundw
        case rel =>
          refine ⟨k + 1, by omega, by go_num, hb, fun j y hj hy => ?_⟩
          rcases Nat.lt_succ_iff_lt_or_eq.1 hj with h | h
          · exact HN.out j y h hy
          · subst h; rw [HX.out] at hy; cases hy; exact HT.out
        case measure => simp [intOf]; omega
    · go_wp2_with fail
      go_ret
      exact ⟨ret_int (idxI_none fun j y hj => HN.out j y (by omega)).symm, hb⟩

theorem contains_int (l : List Int) (a : Option Addr) (c : Nat) (W : World) (hR : RowAt W a 1 (l.map fun n => [.int .i64 n])) (f : Nat) (first cap : Array Value) (p : Int → Bool)
    (hf : ∀ args w, (callFunc f args).run Tryz.prog w = .ok (.enter f args) w) (hlen : l.length ≤ 1000)
    (hp : ∀ x ∈ l, ∀ w', Below W.heap.size W w' → Calls Tryz.prog f (first.push (.int .i64 x) ++ cap) w' (Ret (.bool (p x)) w')) :
    Calls Tryz.prog 68 #[.slice a l.length c, .func (.func f) first cap] W (Ret (.bool (l.any p)) W) := by
  have HC := Lib.hid (index_int l a c W hR f first cap p hf hlen hp)
  have hi := idxI_bd p l
  clear hp hR hf
  go_enter Tryz.func68, Tryz.ntmps68
  go_wp2_with fail
  refine HC.out.mono ?_
  rintro e w' ⟨rfl, hb⟩
  go_wp2_with fail
  go_ret
  exact ⟨ret_bool (idxI_any p l), hb⟩

theorem pass_int (x : Int) (b : Nat) (w : World) (f : Nat) (first cap : Array Value) (p : Bool) (B1 : Box w b #[.func (.func f) first cap] 125)
    (hf : ∀ args w, (callFunc f args).run Tryz.prog w = .ok (.enter f args) w)
    (hp : ∀ w', Below w.heap.size w w' → Calls Tryz.prog f (first.push (.int .i64 x) ++ cap) w' (Ret (.bool p) w')) :
    Calls Tryz.prog 118 #[.int .i64 x, .pointer (some ⟨b, 0, none⟩)] w (Ret (.bool (!p)) w) := by
  have HP := Lib.hid hp
  clear hp
  have c1 := B1.cell; have t1 := B1.lt
  go_enter Tryz.func118, Tryz.ntmps118
  go_wp2_with fail
  have hb0 := Below.refl w.heap.size w
  refine (HP.out _ hb0).mono ?_
  rintro e w' ⟨rfl, hb⟩
  replace hb := over hb0 hb
  go_wp2_with fail
  go_ret
  exact ⟨rfl, hb⟩

theorem all_int (l : List Int) (a : Option Addr) (c : Nat) (W : World) (hR : RowAt W a 1 (l.map fun n => [.int .i64 n])) (f : Nat) (first cap : Array Value) (p : Int → Bool)
    (hf : ∀ args w, (callFunc f args).run Tryz.prog w = .ok (.enter f args) w) (hlen : l.length ≤ 1000)
    (hp : ∀ x ∈ l, ∀ w', Below W.heap.size W w' → Calls Tryz.prog f (first.push (.int .i64 x) ++ cap) w' (Ret (.bool (p x)) w')) :
    Calls Tryz.prog 98 #[.slice a l.length c, .func (.func f) first cap] W (Ret (.bool (l.all p)) W) := by
  have HP := Lib.hid hp
  have HR := Lib.hid hR
  have HF := Lib.hid hf
  clear hp hR hf
  go_enter Tryz.func98, Tryz.ntmps98
  go_wp2_with fail
  refine named1 (p := fun W => Calls _ _ _ W _) ?_
  intro w1 hb1 B1
  refine (contains_int l a c w1 (HR.out.later hb1) 118 #[] #[.pointer (some ⟨W.heap.size, 0, none⟩)] (fun x => !p x) (fun _ _ => by kernel_rfl) hlen ?_).mono ?_
  · intro x hx w' hb'
    exact pass_int x _ w' f first cap (p x) (B1.later hb') HF.out (fun w'' hb'' => HP.out x hx w'' (over (over hb1 hb') hb''))
  rintro e w2 ⟨rfl, hb2⟩
  replace hb2 := over hb1 hb2
  clear hb1
  go_wp2_with fail
  go_ret
  exact ⟨ret_bool (not_any_not p l), hb2⟩
set_option maxHeartbeats 400000 in
theorem index_cv (l : List CV) (a : Option Addr) (c : Nat) (W : World) (hR : RowAt W a 1 (l.map fun x => [.slice x.a x.cs.length x.c])) (f : Nat) (first cap : Array Value) (p : CV → Bool)
    (hf : ∀ args w, (callFunc f args).run Tryz.prog w = .ok (.enter f args) w) (hlen : l.length ≤ 1000)
    (hp : ∀ x ∈ l, ∀ w', Below W.heap.size W w' → Calls Tryz.prog f (first.push (.slice x.a x.cs.length x.c) ++ cap) w' (Ret (.bool (p x)) w')) :
    Calls Tryz.prog 114 #[.slice a l.length c, .func (.func f) first cap] W (Ret (.int .i64 (idxI p l)) W) := by
  have HP := Lib.hid hp
  have HR := Lib.hid hR
  clear hp hR
  go_enter Tryz.func114, Tryz.ntmps114
  go_wp2
  go_loopw [8] (fun i wr => ∃ k : Nat, k ≤ l.length ∧ i = .int .i64 k ∧ Below W.heap.size W wr ∧ ∀ j x, j < k → l[j]? = some x → p x = false) (fun i _ => l.length - (intOf i).toNat)
  case atStart => exact ⟨0, Nat.zero_le _, rfl, Below.refl _ _, fun j x hj => by omega⟩
  case round =>
    obtain ⟨k, hk, rfl, hb, hno⟩ := hrel
    have HN := Lib.hid hno
    clear hno
    by_cases hlt : k < l.length
    · obtain ⟨b, o, rfl, hC⟩ := RowAt.at HR.out hlt
      obtain ⟨x, hx⟩ : ∃ x, l[k]? = some x := ⟨l[k], by simp [hlt]⟩
      obtain e0 := cells_one (hC.later hb) hx
      have HX := Lib.hid hx
      clear hx hC
      go_wp2_with fail
      refine (HP.out x (List.mem_of_getElem? HX.out) wr hb).mono ?_
      rintro e w' ⟨rfl, hb'⟩
      replace hb := over hb hb'
      clear hb'
      by_cases hpx : p x = true
      · rw [hpx]
        have HT := Lib.hid hpx
        clear hpx
        go_wp2_with fail
        go_ret
        exact ⟨ret_int (idxI_some HX.out HT.out HN.out).symm, hb⟩
      · have hpf : p x = false := by simpa using hpx
        rw [hpf]
        have HT := Lib.hid hpf
        clear hpf hpx
        go_wp2_with fail
        go_roundw
        case rel =>
          refine ⟨k + 1, by omega, by go_num, hb, fun j y hj hy => ?_⟩
          rcases Nat.lt_succ_iff_lt_or_eq.1 hj with h | h
          · exact HN.out j y h hy
          · subst h; rw [HX.out] at hy; cases hy; exact HT.out
        case measure => simp [intOf]; omega
    · go_wp2_with fail
      go_ret
      exact ⟨ret_int (idxI_none fun j y hj => HN.out j y (by omega)).symm, hb⟩

theorem contains_cv (l : List CV) (a : Option Addr) (c : Nat) (W : World) (hR : RowAt W a 1 (l.map fun x => [.slice x.a x.cs.length x.c])) (f : Nat) (first cap : Array Value) (p : CV → Bool)
    (hf : ∀ args w, (callFunc f args).run Tryz.prog w = .ok (.enter f args) w) (hlen : l.length ≤ 1000)
    (hp : ∀ x ∈ l, ∀ w', Below W.heap.size W w' → Calls Tryz.prog f (first.push (.slice x.a x.cs.length x.c) ++ cap) w' (Ret (.bool (p x)) w')) :
    Calls Tryz.prog 88 #[.slice a l.length c, .func (.func f) first cap] W (Ret (.bool (l.any p)) W) := by
  have HC := Lib.hid (index_cv l a c W hR f first cap p hf hlen hp)
  have hi := idxI_bd p l
  clear hp hR hf
  go_enter Tryz.func88, Tryz.ntmps88
  go_wp2_with fail
  refine HC.out.mono ?_
  rintro e w' ⟨rfl, hb⟩
  go_wp2_with fail
  go_ret
  exact ⟨ret_bool (idxI_any p l), hb⟩

theorem pass_cv (x : CV) (b : Nat) (w : World) (f : Nat) (first cap : Array Value) (p : Bool) (B1 : Box w b #[.func (.func f) first cap] 151)
    (hf : ∀ args w, (callFunc f args).run Tryz.prog w = .ok (.enter f args) w)
    (hp : ∀ w', Below w.heap.size w w' → Calls Tryz.prog f (first.push (.slice x.a x.cs.length x.c) ++ cap) w' (Ret (.bool p) w')) :
    Calls Tryz.prog 89 #[.slice x.a x.cs.length x.c, .pointer (some ⟨b, 0, none⟩)] w (Ret (.bool (!p)) w) := by
  have HP := Lib.hid hp
  clear hp
  have c1 := B1.cell; have t1 := B1.lt
  go_enter Tryz.func89, Tryz.ntmps89
  go_wp2_with fail
  have hb0 := Below.refl w.heap.size w
  refine (HP.out _ hb0).mono ?_
  rintro e w' ⟨rfl, hb⟩
  replace hb := over hb0 hb
  go_wp2_with fail
  go_ret
  exact ⟨rfl, hb⟩

theorem all_cv (l : List CV) (a : Option Addr) (c : Nat) (W : World) (hR : RowAt W a 1 (l.map fun x => [.slice x.a x.cs.length x.c])) (f : Nat) (first cap : Array Value) (p : CV → Bool)
    (hf : ∀ args w, (callFunc f args).run Tryz.prog w = .ok (.enter f args) w) (hlen : l.length ≤ 1000)
    (hp : ∀ x ∈ l, ∀ w', Below W.heap.size W w' → Calls Tryz.prog f (first.push (.slice x.a x.cs.length x.c) ++ cap) w' (Ret (.bool (p x)) w')) :
    Calls Tryz.prog 60 #[.slice a l.length c, .func (.func f) first cap] W (Ret (.bool (l.all p)) W) := by
  have HP := Lib.hid hp
  have HR := Lib.hid hR
  have HF := Lib.hid hf
  clear hp hR hf
  go_enter Tryz.func60, Tryz.ntmps60
  go_wp2_with fail
  refine named1 (p := fun W => Calls _ _ _ W _) ?_
  intro w1 hb1 B1
  refine (contains_cv l a c w1 (HR.out.later hb1) 89 #[] #[.pointer (some ⟨W.heap.size, 0, none⟩)] (fun x => !p x) (fun _ _ => by kernel_rfl) hlen ?_).mono ?_
  · intro x hx w' hb'
    exact pass_cv x _ w' f first cap (p x) (B1.later hb') HF.out (fun w'' hb'' => HP.out x hx w'' (over (over hb1 hb') hb''))
  rintro e w2 ⟨rfl, hb2⟩
  replace hb2 := over hb1 hb2
  clear hb1
  go_wp2_with fail
  go_ret
  exact ⟨ret_bool (not_any_not p l), hb2⟩
end Go.Proofs.YtingfmdbihbamaaGreat
end

section
/- Layer 1, the walks: what is valid, the rest. -/
open Go.RowKit
namespace Go.Proofs.YtingfmdbihbamaaGreat
open Go.Hill

theorem sunny_any (n : Int) (w : World) : Calls Tryz.prog 99 #[.int .i64 n] w (Ret (.bool (inB n (-100) 100)) w) := by
  go_enter Tryz.func99, Tryz.ntmps99
  go_wp2_with (go_at_call 85; refine (within_any _ _ _ _).mono ?_; rintro e w' ⟨rfl, hb⟩)
  go_ret
  exact ⟨rfl, hb⟩

theorem sn_valid (s : Sn) (w : World) : Calls Tryz.prog 67 #[.agg #[.int .i64 s.E, .int .i64 s.N, .int .i64 s.U]] w (Ret (.bool s.ok) w) := by
  go_enter Tryz.func67, Tryz.ntmps67
  go_wp2_with fail
  refine named2 (p := fun W => Calls _ _ _ W _) ?_
  intro W hW B1 B2
  refine (all_int [s.E, s.N, s.U] (some ⟨w.heap.size + 1, 0, none⟩) 3 W ?_ 99 #[] #[] (fun n => inB n (-100) 100) (fun _ _ => by kernel_rfl) (by simp) ?_).mono ?_
  · refine .inr ⟨_, _, rfl, ?_⟩
    intro i x hx j v hv
    match i, hx with
    | 0, hx => cases hx; match j, hv with | 0, hv => cases hv; exact B2.cell 0
    | 1, hx => cases hx; match j, hv with | 0, hv => cases hv; exact B2.cell 1
    | 2, hx => cases hx; match j, hv with | 0, hv => cases hv; exact B2.cell 2
  · intro x _ w' _; exact sunny_any x w'
  rintro e w' ⟨rfl, hb⟩
  replace hW := over hW hb
  go_wp2_with fail
  go_ret
  exact ⟨ret_bool (by simp [Sn.ok, Bool.and_assoc]), hW⟩

/-- A land's value. -/
def cloudV (x : Cd) : Value := .agg #[.int .i64 x.wl.X1, .int .i64 x.wl.Y1, .int .i64 x.wl.X2, .int .i64 x.wl.Y2, .int .i64 x.wl.B, .int .i64 x.wl.T, .int .i64 x.fr, .int .i64 x.to]

set_option maxRecDepth 100000 in
theorem cloud_any (q : LV) (n1 n2 n3 n4 : Nat) (x : Cd) (w : World) (_hn : n4 ≤ 1000) :
    Calls Tryz.prog 56 #[.agg #[.slice q.a1 n1 q.c1, .slice q.a2 n2 q.c2, .slice q.a3 n3 q.c3, .slice q.a4 n4 q.c4],
      .agg #[.int .i64 x.wl.X1, .int .i64 x.wl.Y1, .int .i64 x.wl.X2, .int .i64 x.wl.Y2, .int .i64 x.wl.B, .int .i64 x.wl.T, .int .i64 x.fr, .int .i64 x.to]] w (Ret (.bool (x.ok n4)) w) := by
  have HK : Hid (x.ok n4 = (x.wl.ok && inB x.fr 0 x.to && decide (x.to < n4))) := rfl
  go_enter Tryz.func56, Tryz.ntmps56
  go_wp2_with fail
  refine named2 (p := fun W => Calls _ _ _ W _) ?_
  intro W hW B2 B3
  have c2 := B2.cell; have t2 := B2.lt; have c3 := B3.cell; have t3 := B3.lt
  go_wp2_with (first
    | (go_at_call 84; refine (wl_valid x.wl _).mono ?_; rintro e w' ⟨rfl, hb⟩; replace hW := over hW hb; (try clear c2 t2 c3 t3); replace B2 := B2.later hb; replace B3 := B3.later hb; have c2 := B2.cell; have t2 := B2.lt; have c3 := B3.cell; have t3 := B3.lt; clear hb)
    | (go_at_call 85; refine (within_any _ _ _ _).mono ?_; rintro e w' ⟨rfl, hb⟩; replace hW := over hW hb; (try clear c2 t2 c3 t3); replace B2 := B2.later hb; replace B3 := B3.later hb; have c2 := B2.cell; have t2 := B2.lt; have c3 := B3.cell; have t3 := B3.lt; clear hb))
  all_goals
    go_ret
    exact ⟨ret_bool (by rw [HK.out]; simp_all), hW⟩

theorem few_any (a : Option Addr) (n c : Nat) (w : World) (hn : n ≤ 1000) : Calls Tryz.prog 57 #[.slice a n c] w (Ret (.bool (decide (n ≤ 4))) w) := by
  go_enter Tryz.func57, Tryz.ntmps57
  go_wp2_with fail
  go_ret
  exact ⟨ret_bool (by simp; omega), Below.refl _ _⟩

theorem cloudy_any (q : LV) (n1 n2 n3 n4 : Nat) (x : CV) (b : Nat) (w : World) (hn : n4 ≤ 1000) (hl : x.cs.length ≤ 1000) (hR : RowAt w x.a 8 (x.cs.map Cd.vs))
    (B1 : Box w b #[.func (.func 56) #[.agg #[.slice q.a1 n1 q.c1, .slice q.a2 n2 q.c2, .slice q.a3 n3 q.c3, .slice q.a4 n4 q.c4]] #[]] 150) :
    Calls Tryz.prog 58 #[.slice x.a x.cs.length x.c, .pointer (some ⟨b, 0, none⟩)] w (Ret (.bool (x.cs.all (·.ok n4))) w) := by
  have c1 := B1.cell; have t1 := B1.lt
  go_enter Tryz.func58, Tryz.ntmps58
  go_wp2_with fail
  refine (all_cd x.cs x.a x.c w hR 56 _ #[] (·.ok n4) (fun _ _ => by kernel_rfl) hl ?_).mono ?_
  · intro y _ w' _; exact cloud_any q n1 n2 n3 n4 y w' hn
  rintro e w' ⟨rfl, hb⟩
  go_wp2_with fail
  go_ret
  exact ⟨rfl, hb⟩

end Go.Proofs.YtingfmdbihbamaaGreat
end

section
/- Layer 1, the walks: no two stations at one place; the error of a land. -/
open Go.RowKit
namespace Go.Proofs.YtingfmdbihbamaaGreat
open Go.Hill

theorem apartTo_succ (l : List Stn) (k : Nat) : apartTo l (k + 1) = (apartTo l k && (List.range k).all fun j => !sameAt l j k) := by
  simp [apartTo, List.range_succ]
theorem all_range {p : Nat → Bool} {k : Nat} (h : ∀ j, j < k → p j = true) : (List.range k).all p = true := by
  rw [List.all_eq_true]; intro j hj; exact h j (by simpa using hj)
theorem not_apart {l : List Stn} {j k : Nat} (hj : j < k) (hk : k < l.length) (h : sameAt l j k = true) : apartTo l l.length = false := by
  unfold apartTo
  rw [List.all_eq_false]
  refine ⟨k, by simpa using hk, ?_⟩
  rw [Bool.not_eq_true, List.all_eq_false]
  exact ⟨j, by simpa using hj, by simp [h]⟩

set_option maxRecDepth 100000 in
set_option maxHeartbeats 1000000 in
theorem apart_any (q : LV) (n2 n3 n4 : Nat) (l : List Stn) (w : World) (hR : RowAt w q.a1 4 (l.map Stn.vs)) (hk : l.length ≤ q.c1) (hlen : l.length ≤ 1000) :
    Calls Tryz.prog 63 #[.agg #[.slice q.a1 l.length q.c1, .slice q.a2 n2 q.c2, .slice q.a3 n3 q.c3, .slice q.a4 n4 q.c4]] w (Ret (.bool (apartTo l l.length)) w) := by
  have HR := Lib.hid hR
  clear hR
  generalize q.a1 = a1 at *
  generalize q.c1 = cc1 at *
  go_enter Tryz.func63, Tryz.ntmps63
  go_wp2_with fail
  refine named1 (p := Code.wp _ _ _ _) ?_
  intro W hW B1
  have c1 := B1.cell; have t1 := B1.lt
  go_wp2_with fail
  go_loopw [10] (fun i wr => ∃ k : Nat, k ≤ l.length ∧ i = .int .i64 k ∧ Below W.heap.size W wr ∧ apartTo l k = true) (fun i _ => l.length - (intOf i).toNat)
  case atStart => exact ⟨0, Nat.zero_le _, rfl, Below.refl _ _, rfl⟩
  case round =>
    obtain ⟨k, hk', rfl, hb, hap⟩ := hrel
    have HA := Lib.hid hap
    clear hap
    by_cases hlt : k < l.length
    · obtain ⟨b, o, rfl, hC⟩ := RowAt.at HR.out hlt
      replace hC := hC.later hW
      obtain ⟨x, hx⟩ : ∃ x, l[k]? = some x := ⟨l[k], by simp [hlt]⟩
      have HC := Lib.hid hC
      have HX := Lib.hid hx
      obtain ⟨e0, e1, e2, e3⟩ := cells_st (hC.later hb) hx
      clear hx hC
      (try clear c1 t1); replace B1 := B1.later hb; have c1 := B1.cell; have t1 := B1.lt
      go_wp2_with fail
      obtain ⟨wo, rfl⟩ : ∃ wo : World, wo = wr := ⟨_, rfl⟩
      refine named1 (p := Code.wp _ _ _ _) ?_
      intro w1 hb1 B4
      replace hb := over hb hb1
      (try clear c1 t1); replace B1 := B1.later hb1; have c1 := B1.cell; have t1 := B1.lt
      clear e0 e1 e2 e3
      go_loopw [20] (fun i wi => ∃ m : Nat, m ≤ k ∧ i = .int .i64 m ∧ Below w1.heap.size w1 wi ∧ ∀ j, j < m → sameAt l j k = false) (fun i _ => k - (intOf i).toNat)
      case atStart => exact ⟨0, Nat.zero_le _, rfl, Below.refl _ _, fun j hj => by omega⟩
      case round =>
        obtain ⟨m, hm, rfl, hb2, hno⟩ := hrel
        have HN := Lib.hid hno
        clear hno
        (try clear c1 t1 c4 t4); replace B1 := B1.later hb2; replace B4 := B4.later hb2; have c1 := B1.cell; have t1 := B1.lt; have c4 := B4.cell; have t4 := B4.lt
        by_cases hlm : m < k
        · obtain ⟨y, hy⟩ : ∃ y, l[m]? = some y := ⟨l[m]'(by omega), by simp⟩
          obtain ⟨e0, e1, e2, e3⟩ := cells_st (HC.out.later (over hb hb2)) hy
          have HS : Hid (sameAt l m k = (y.X == x.X && y.Y == x.Y)) := by simp [Hid, sameAt, hy, HX.out]
          clear hy
          go_wp2_with fail
          refine named1 (p := Code.wp _ _ _ _) ?_
          intro w3 hb3 B6
          replace hb2 := over hb2 hb3
          (try clear c1 t1 c4 t4); replace B1 := B1.later hb3; replace B4 := B4.later hb3; have c1 := B1.cell; have t1 := B1.lt; have c4 := B4.cell; have t4 := B4.lt
          have c6 := B6.cell; have t6 := B6.lt
          clear hb3 e0 e1 e2 e3
          refine Fat.wp_region_tail 5 (by kernel_rfl) (by kernel_rfl) ?_
          simp only [List.take_succ_cons, List.drop_succ_cons, List.take_nil, List.drop_nil]
          repeat (go_big_quiet_step (exact Calls.regrown_of (place_any _ _)))
          refine wpQuiet_nil ?_
          intro w4 hb4
          replace hb2 := over hb2 hb4
          clear hb4 B6 c6 t6 c1 t1 c4 t4 B1 B4
          go_wp2_with fail
          · rename_i hyx
            go_ret
            exact ⟨ret_bool (not_apart hlm hlt (by rw [HS.out]; simpa using hyx)).symm, over hW (over hb hb2)⟩
          · rename_i hyx
            go_roundw
            case rel =>
              refine ⟨m + 1, by omega, by go_num, hb2, fun j hj => ?_⟩
              rcases Nat.lt_succ_iff_lt_or_eq.1 hj with h | h
              · exact HN.out j h
              · subst h; rw [HS.out]; simp at hyx ⊢; omega
            case measure => simp [intOf]; omega
        · go_wp2_with fail
          go_roundw
          case rel =>
            refine ⟨k + 1, by omega, by go_num, over hb hb2, ?_⟩
            rw [apartTo_succ, HA.out, all_range fun j hj => by rw [HN.out j (by omega)]; rfl]
            rfl
          case measure => simp [intOf]; omega
    · go_wp2_with fail
      go_ret
      obtain rfl : k = l.length := by omega
      exact ⟨ret_bool HA.out.symm, over hW hb⟩

set_option maxRecDepth 100000 in
set_option maxHeartbeats 1000000 in
theorem check_any (q : LV) (L : Land) (w : World) (hL : LandAt w q L) (l1 : L.st.length ≤ 1000) (l2 : L.rd.length ≤ 1000) (l3 : L.cs.length ≤ 1000) (l4 : L.sn.length ≤ 1000) (l5 : ∀ c ∈ L.cs, c.length ≤ 1000) :
    Calls Tryz.prog 35 #[.agg #[.slice q.a1 L.st.length q.c1, .slice q.a2 L.rd.length q.c2, .slice q.a3 L.cs.length q.c3, .slice q.a4 L.sn.length q.c4]] w (Ret (.int .i64 L.chk) w) := by
  obtain ⟨cl, hcl, hrow, hcs⟩ := hL.cs
  have hcll : cl.length = L.cs.length := by rw [← hcl]; simp
  obtain ⟨b1, hb1⟩ : ∃ b, b = L.st.all Stn.ok := ⟨_, rfl⟩
  obtain ⟨b2, hb2⟩ : ∃ b, b = apartTo L.st L.st.length := ⟨_, rfl⟩
  obtain ⟨b3, hb3⟩ : ∃ b, b = L.rd.all Wl.rg := ⟨_, rfl⟩
  obtain ⟨b4, hb4⟩ : ∃ b, b = L.cs.all fun c => c.all (·.ok L.sn.length) := ⟨_, rfl⟩
  obtain ⟨b5, hb5⟩ : ∃ b, b = L.sn.all Sn.ok := ⟨_, rfl⟩
  obtain ⟨b6, hb6⟩ : ∃ b, b = L.cs.all fun c => decide (c.length ≤ 4) := ⟨_, rfl⟩
  have HG : Hid (L.chk = if decide (6 < L.st.length) || decide (6 < L.rd.length) || decide (4 < L.cs.length) || decide (12 < L.sn.length) || !b6 then 3
      else if L.st.length == 0 || L.cs.length == 0 || L.sn.length == 0 || !b1 || !b2 || !b3 || !b4 || !b5 then 1 else 0) := by
    rw [hb1, hb2, hb3, hb4, hb5, hb6]; rfl
  have C1 : Hid (∀ W, Below w.heap.size w W → Calls Tryz.prog 61 #[.slice q.a1 L.st.length q.c1, .func (.func 62) #[] #[]] W (Ret (.bool b1) W)) := fun W hW => by
    rw [hb1]; exact all_st L.st q.a1 q.c1 W (hL.later hW).st _ #[] #[] Stn.ok (fun _ _ => by kernel_rfl) l1 (fun x _ w' _ => stn_valid x w')
  have C2 : Hid (∀ W, Below w.heap.size w W → Calls Tryz.prog 63 #[.agg #[.slice q.a1 L.st.length q.c1, .slice q.a2 L.rd.length q.c2, .slice q.a3 L.cs.length q.c3, .slice q.a4 L.sn.length q.c4]] W (Ret (.bool b2) W)) := fun W hW => by
    rw [hb2]; exact apart_any q _ _ _ L.st W (hL.later hW).st hL.k1 l1
  have C3 : Hid (∀ W, Below w.heap.size w W → Calls Tryz.prog 64 #[.slice q.a2 L.rd.length q.c2, .func (.func 65) #[] #[]] W (Ret (.bool b3) W)) := fun W hW => by
    rw [hb3]; exact all_wl L.rd q.a2 q.c2 W (hL.later hW).rd _ #[] #[] Wl.rg (fun _ _ => by kernel_rfl) l2 (fun x _ w' _ => ridge_any x w')
  have C5 : Hid (∀ W, Below w.heap.size w W → Calls Tryz.prog 66 #[.slice q.a4 L.sn.length q.c4, .func (.func 67) #[] #[]] W (Ret (.bool b5) W)) := fun W hW => by
    rw [hb5]; exact all_sn L.sn q.a4 q.c4 W (hL.later hW).sn _ #[] #[] Sn.ok (fun _ _ => by kernel_rfl) l4 (fun x _ w' _ => sn_valid x w')
  have C6 : Hid (∀ W, Below w.heap.size w W → Calls Tryz.prog 60 #[.slice q.a3 L.cs.length q.c3, .func (.func 57) #[] #[]] W (Ret (.bool b6) W)) := fun W hW => by
    have e4 : (cl.all fun x => decide (x.cs.length ≤ 4)) = L.cs.all fun c => decide (c.length ≤ 4) := by rw [← hcl]; simp [List.all_map, Function.comp_def]
    have h := all_cv cl q.a3 q.c3 W (hrow.later hW) 57 #[] #[] (fun x => decide (x.cs.length ≤ 4)) (fun _ _ => by kernel_rfl) (by omega)
      (fun x hx w' _ => few_any x.a x.cs.length x.c w' (l5 x.cs (by rw [← hcl]; exact List.mem_map_of_mem hx)))
    rw [hcll, e4] at h
    rw [hb6]; exact h
  have C4 : Hid (∀ W b, Below w.heap.size w W → Box W b #[.func (.func 56) #[.agg #[.slice q.a1 L.st.length q.c1, .slice q.a2 L.rd.length q.c2, .slice q.a3 L.cs.length q.c3, .slice q.a4 L.sn.length q.c4]] #[]] 150 →
      Calls Tryz.prog 60 #[.slice q.a3 L.cs.length q.c3, .func (.func 58) #[] #[.pointer (some ⟨b, 0, none⟩)]] W (Ret (.bool b4) W)) := fun W b hW hB => by
    have e4 : (cl.all fun x => x.cs.all (·.ok L.sn.length)) = L.cs.all fun c => c.all (·.ok L.sn.length) := by rw [← hcl]; simp [List.all_map, Function.comp_def]
    have h := all_cv cl q.a3 q.c3 W (hrow.later hW) 58 #[] #[.pointer (some ⟨b, 0, none⟩)] (fun x => x.cs.all (·.ok L.sn.length)) (fun _ _ => by kernel_rfl) (by omega)
      (fun x hx w' hb' => cloudy_any q _ _ _ _ x b w' l4 (l5 x.cs (by rw [← hcl]; exact List.mem_map_of_mem hx)) (((hcs x hx).later hW).later hb') (hB.later hb'))
    rw [hcll, e4] at h
    rw [hb4]; exact h
  clear hb1 hb2 hb3 hb4 hb5 hb6 hL hrow hcs hcl l5 hcll
  go_enter Tryz.func35, Tryz.ntmps35
  go_wp2_with fail
  rotate_left
  iterate 4 (go_ret; exact ⟨ret_int (by rw [HG.out, if_pos (by simp; omega)]), (by repeat (first | exact Below.refl _ _ | refine al ?_ _ | refine Below.drew ?_ | refine sc ?_ (by simp) _))⟩)
  refine named2 (p := fun W => Calls _ _ _ W _) ?_
  intro W hW B1 B3
  refine (C6.out _ hW).mono ?_
  rintro e w1 ⟨rfl, hb1⟩
  replace hW := over hW hb1
  (try clear c1 t1 c3 t3); replace B1 := B1.later hb1; replace B3 := B3.later hb1; have c1 := B1.cell; have t1 := B1.lt; have c3 := B3.cell; have t3 := B3.lt
  clear hb1
  go_wp2_with (first
    | (go_at_call 61; refine (C1.out _ hW).mono ?_; rintro e w' ⟨rfl, hb⟩; replace hW := over hW hb; (try clear c1 t1 c3 t3); replace B1 := B1.later hb; replace B3 := B3.later hb; have c1 := B1.cell; have t1 := B1.lt; have c3 := B3.cell; have t3 := B3.lt; clear hb)
    | (go_at_call 63; refine (C2.out _ hW).mono ?_; rintro e w' ⟨rfl, hb⟩; replace hW := over hW hb; (try clear c1 t1 c3 t3); replace B1 := B1.later hb; replace B3 := B3.later hb; have c1 := B1.cell; have t1 := B1.lt; have c3 := B3.cell; have t3 := B3.lt; clear hb)
    | (go_at_call 64; refine (C3.out _ hW).mono ?_; rintro e w' ⟨rfl, hb⟩; replace hW := over hW hb; (try clear c1 t1 c3 t3); replace B1 := B1.later hb; replace B3 := B3.later hb; have c1 := B1.cell; have t1 := B1.lt; have c3 := B3.cell; have t3 := B3.lt; clear hb)
    | (go_at_call 60; refine (C4.out _ _ hW B3).mono ?_; rintro e w' ⟨rfl, hb⟩; replace hW := over hW hb; (try clear c1 t1 c3 t3); replace B1 := B1.later hb; replace B3 := B3.later hb; have c1 := B1.cell; have t1 := B1.lt; have c3 := B3.cell; have t3 := B3.lt; clear hb)
    | (go_at_call 66; refine (C5.out _ hW).mono ?_; rintro e w' ⟨rfl, hb⟩; replace hW := over hW hb; (try clear c1 t1 c3 t3); replace B1 := B1.later hb; replace B3 := B3.later hb; have c1 := B1.cell; have t1 := B1.lt; have c3 := B3.cell; have t3 := B3.lt; clear hb))
  · rename_i h
    go_ret
    refine ⟨ret_int ?_, hW⟩
    rw [HG.out, if_pos]
    rcases h with h | h
    · exfalso; omega
    · simp at h; simp [h]
  all_goals
    go_ret
    refine ⟨ret_int ?_, hW⟩
    rw [HG.out]
    simp_all
  all_goals omega
end Go.Proofs.YtingfmdbihbamaaGreat
end

section
/- Layer 1, the walks: what blocks (the reference's); stations, a case and an hour that are asked for; whether the sun is behind. -/
open Go.RowKit
namespace Go.Proofs.YtingfmdbihbamaaGreat
open Go.Hill


set_option maxRecDepth 100000 in
set_option maxHeartbeats 400000 in
theorem asked_any (q : LV) (n n2 m h : Nat) (fr to k t : Int) (w : World) (hn : n ≤ 1000) (hm : m ≤ 1000) (hh : h ≤ 1000) :
    Calls Tryz.prog 102 #[.agg #[.slice q.a1 n q.c1, .slice q.a2 n2 q.c2, .slice q.a3 m q.c3, .slice q.a4 h q.c4], .agg #[.int .i64 fr, .int .i64 to], .int .i64 k, .int .i64 t] w (Ret (.int .i64 (askd n m h fr to k t)) w) := by
  obtain ⟨b1, h1⟩ : ∃ b, b = inB fr 0 ((n : Int) - 1) := ⟨_, rfl⟩
  obtain ⟨b2, h2⟩ : ∃ b, b = inB to 0 ((n : Int) - 1) := ⟨_, rfl⟩
  obtain ⟨b3, h3⟩ : ∃ b, b = inB k 0 ((m : Int) - 1) := ⟨_, rfl⟩
  obtain ⟨b4, h4⟩ : ∃ b, b = inB t 0 ((h : Int) - 1) := ⟨_, rfl⟩
  have HG : Hid (askd n m h fr to k t = if b1 && b2 && b3 && b4 then (if fr = to then 6 else 0) else 2) := by rw [h1, h2, h3, h4]; rfl
  have C1 : Hid (∀ w, Calls Tryz.prog 85 #[.int .i64 fr, .int .i64 0, .int .i64 ((n : Int) - 1)] w (Ret (.bool b1) w)) := fun w => by rw [h1]; exact within_any _ _ _ _
  have C2 : Hid (∀ w, Calls Tryz.prog 85 #[.int .i64 to, .int .i64 0, .int .i64 ((n : Int) - 1)] w (Ret (.bool b2) w)) := fun w => by rw [h2]; exact within_any _ _ _ _
  have C3 : Hid (∀ w, Calls Tryz.prog 85 #[.int .i64 k, .int .i64 0, .int .i64 ((m : Int) - 1)] w (Ret (.bool b3) w)) := fun w => by rw [h3]; exact within_any _ _ _ _
  have C4 : Hid (∀ w, Calls Tryz.prog 85 #[.int .i64 t, .int .i64 0, .int .i64 ((h : Int) - 1)] w (Ret (.bool b4) w)) := fun w => by rw [h4]; exact within_any _ _ _ _
  clear h1 h2 h3 h4
  go_enter Tryz.func102, Tryz.ntmps102
  go_wp2_with fail
  refine named2 (p := fun W => Calls _ _ _ W _) ?_; intro W hW B1 B2; have c1 := B1.cell; have t1 := B1.lt; have c2 := B2.cell; have t2 := B2.lt
  cases b1 with
  | false =>
    refine (C1.out _).mono ?_
    rintro e w1 ⟨rfl, hb⟩; replace hW := over hW hb; clear hb
    go_wp2_with fail
    go_ret
    exact ⟨ret_int (by rw [HG.out]; rfl), hW⟩
  | true =>
    refine (C1.out _).mono ?_
    rintro e w1 ⟨rfl, hb⟩; replace hW := over hW hb; (try clear c1 t1 c2 t2); replace B1 := B1.later hb; replace B2 := B2.later hb; have c1 := B1.cell; have t1 := B1.lt; have c2 := B2.cell; have t2 := B2.lt; clear hb
    go_wp2_with fail
    cases b2 with
    | false =>
      refine (C2.out _).mono ?_
      rintro e w1 ⟨rfl, hb⟩; replace hW := over hW hb; clear hb
      go_wp2_with fail
      go_ret
      exact ⟨ret_int (by rw [HG.out]; rfl), hW⟩
    | true =>
      refine (C2.out _).mono ?_
      rintro e w1 ⟨rfl, hb⟩; replace hW := over hW hb; (try clear c1 t1 c2 t2); replace B1 := B1.later hb; replace B2 := B2.later hb; have c1 := B1.cell; have t1 := B1.lt; have c2 := B2.cell; have t2 := B2.lt; clear hb
      go_wp2_with fail
      cases b3 with
      | false =>
        refine (C3.out _).mono ?_
        rintro e w1 ⟨rfl, hb⟩; replace hW := over hW hb; clear hb
        go_wp2_with fail
        go_ret
        exact ⟨ret_int (by rw [HG.out]; rfl), hW⟩
      | true =>
        refine (C3.out _).mono ?_
        rintro e w1 ⟨rfl, hb⟩; replace hW := over hW hb; (try clear c1 t1 c2 t2); replace B1 := B1.later hb; replace B2 := B2.later hb; have c1 := B1.cell; have t1 := B1.lt; have c2 := B2.cell; have t2 := B2.lt; clear hb
        go_wp2_with fail
        cases b4 with
        | false =>
          refine (C4.out _).mono ?_
          rintro e w1 ⟨rfl, hb⟩; replace hW := over hW hb; clear hb
          go_wp2_with fail
          go_ret
          exact ⟨ret_int (by rw [HG.out]; rfl), hW⟩
        | true =>
          refine (C4.out _).mono ?_
          rintro e w1 ⟨rfl, hb⟩; replace hW := over hW hb; (try clear c1 t1 c2 t2); replace B1 := B1.later hb; replace B2 := B2.later hb; have c1 := B1.cell; have t1 := B1.lt; have c2 := B2.cell; have t2 := B2.lt; clear hb
          by_cases hft : fr = to
          · subst hft
            go_wp2_with fail
            go_ret
            exact ⟨ret_int (by rw [HG.out]; simp), hW⟩
          · have hne : (fr == to) = false := by simpa using hft
            go_wp2_with fail
            go_ret
            exact ⟨ret_int (by rw [HG.out]; simp [hft]), hW⟩
end Go.Proofs.YtingfmdbihbamaaGreat
end
